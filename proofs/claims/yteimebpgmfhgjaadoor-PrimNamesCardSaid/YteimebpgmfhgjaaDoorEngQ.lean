/- Abstract states (own engine), part Q: from a contract to what a law's statement asks. -/
import Derived.Test.YteimebpgmfhgjaaDoorEngP
import Derived.WalkKit
import Derived.ProofKit
import Derived.OpenShut
import Derived.RowKit3
import Derived.Deep.DeepHandedRow
namespace Go.AS
open Go.ChangeShapes Go.WideShapes Go.ChangeAt Go.RowKit
set_option linter.unusedVariables false
set_option linter.unusedSimpArgs false

theorem laid_glob {G : Prg} {w : World} {laid : List (String × DataW Unit)} (h : laidMet G.P laid w) {name : String} {d : DataW Unit} (hm : (name, d) ∈ laid) {g : Nat} (hg : G.P.globalNamed name = some g) {t : TypeId} (ht : (G.P.globals[g]?).map (·.type) = some t)
    {n : Nat} {xs : List PV} (hx : pvs G.T n t d = some xs) : IRep (old w) w (.epos xs) (.pointer (some ⟨g, 0, none⟩)) := by
  obtain ⟨ps, hl, _⟩ := h
  have key : ∀ (l : List (String × DataW Unit)) (ps : List MemPlace), DataW.LaidVars G.P w l ps → (name, d) ∈ l → IRep (old w) w (.epos xs) (.pointer (some ⟨g, 0, none⟩)) := by
    intro l
    induction l with
    | nil => intro ps _ hm; cases hm
    | cons x l ih =>
      intro ps hl hm
      obtain ⟨g', t', cs, fuel, p, q, hg', ht', hv, htr, hr, _⟩ := hl
      rcases List.mem_cons.1 hm with rfl | hm
      · simp only [] at hg' ht' hv htr
        obtain rfl := Option.some.inj (hg.symm.trans hg')
        obtain rfl := Option.some.inj (ht.symm.trans ht')
        obtain ⟨h1, _⟩ := reads fuel n t _ d p xs htr hx
        simp only [World.var?, hg, Option.bind_some] at hv
        split at hv
        · rename_i cs' ty fz hh
          cases hv
          have hsz : g < w.heap.size := lt_of_some hh
          refine .epos h1.1 (fun _ => hsz) (fun j v hv => ?_) h1.2
          rw [cell_of_blk (vs := cs.toList) (by simpa using hh)]
          simpa using hv
        · cases hv
      · exact ih q hr hm
  exact key laid ps hl hm
/-- All that was there is as it was. -/
def Unch (w w' : World) : Prop := (∀ k, k < w.heap.size → w'.heap[k]? = w.heap[k]?) ∧ w.heap.size ≤ w'.heap.size ∧ w'.os = w.os ∧ w'.output = w.output
theorem Unch.kept {w w' : World} (h : Unch w w') (may : MemPlace → Prop) : w.keptBut w' may := by
  have h0 := World.keptBut_refl w may
  refine ⟨h.2.2.1, h.2.2.2, fun i hi => ?_⟩
  have := h0.2.2 i hi
  rw [h.1 i hi]
  exact this
theorem post_unch {H : Type} {enc : TypeId × Value → H} {P : Program} {f : Func} {s : ChangeSpec} {apart fresh handsOn again : Bool} {W W' : World} {args : Array Value} {v : Value} {ds gs : List (DataW H)} {before pa pv : List MemPlace}
    (hW : DataW.Whole enc P f.params.toList s.vars apart W args.toList ds gs before)
    (hres : ∀ (b : Nat) (sp : Nat → Bool) (hd : Bool), DataW.TrodAll enc P W' b sp hd f.resultTypes.toList (v.resultList f.resultTypes.size) (s.fn H (ds ++ gs)).results [])
    (hargs : ∀ sp : Nat → Bool, (∀ p ∈ before, sp p.block = true) → DataW.TrodAll enc P W' 0 sp true f.params.toList args.toList (s.fn H (ds ++ gs)).args pa)
    (hvars : ∀ sp : Nat → Bool, (∀ p ∈ before, sp p.block = true) → DataW.TrodVars enc P W' sp s.vars (s.fn H (ds ++ gs)).vars pv)
    (hps : before = pa ++ pv) (hk : Unch W W')
    (hok : ∀ (j : Nat) (t : TypeId) (r : Value), f.resultTypes[j]? = some t → (v.resultList f.resultTypes.size)[j]? = some r → Value.okWide P W' .any 0 t r) :
    s.post enc P f apart fresh handsOn again W args v W' := by
  have hlt := hW.lt
  have hold : ∀ p ∈ before, (fun b => decide (b < W.heap.size)) p.block = true := fun p hp => by simpa using hlt p hp
  refine ⟨ds, gs, before, [], pa, pv, hW, hres _ _ _, hargs _ hold, hvars _ hold, World.keptBut_mono (fun p hp => ⟨hp, ?_⟩) (hk.kept (· ∈ before)), fun _ => ?_⟩
  · rw [hps, List.mem_append] at hp
    exact Or.inr hp
  · obtain ⟨_, _, _, _, _, hz, hn⟩ := hW
    refine ⟨hok, _, _, ([] ++ pa) ++ pv, ⟨[] ++ pa, pv, trodAll_append (hargs _ (fun _ _ => rfl)) (hres _ _ _), hvars _ (fun _ _ => rfl), rfl, ?_, ?_⟩, ?_⟩
    · intro b off hp
      have hm : MemPlace.cell b off ∈ before := by rw [hps]; simpa using hp
      have := hz b off hm
      have hb := hlt _ hm
      simp only [World.frozen?] at this ⊢
      rw [hk.1 b hb]
      exact this
    · intro ha
      have := hn ha
      rw [hps] at this
      simpa using this
    · intro p hp _
      rw [hps]
      simpa using hp
/-- What a function that only computes does to a world. -/
theorem Pure.law {G : Prg} {f : FuncId} {args : List PV} {R : PV → Prop} (h : Pure G f args R) {W : World} {vs : List Value} (hg : ∀ g cs, G.Γ g = some cs → IRep (old W) W (.epos cs) (.pointer (some ⟨g, 0, none⟩))) (ha : IReps (old W) W args vs) :
    Calls G.P f vs.toArray W fun e W' => ∃ r v E, R r ∧ e = .returned v ∧ VRep E W' r v ∧ Unch W W' := by
  have hH : HRep G.Γ ⟨fun _ => 0, fun _ => .nilFunc, old W, W.heap.size, 0, 0⟩ W ⟨[], []⟩ := ⟨rfl, rfl, Nat.le_refl _, fun i b hb => by simp at hb, fun i r hr => by simp at hr, fun i j h => by simp at h, fun i j r s k h => by simp at h, fun i j r h => by simp at h, fun k h => h, fun k i h => by simp at h, fun k j r h => by simp at h, hg⟩
  refine (h ⟨fun _ => 0, fun _ => .nilFunc, old W, W.heap.size, 0, 0⟩ W vs hH (IReps.v ha)).mono ?_
  rintro e W' ⟨o, bx, E', ⟨rfl, r, rfl, hR⟩, ⟨v, rfl, hv⟩, hh, hx⟩
  exact ⟨r, v, E', hR, rfl, hv, fun k hk => hx.keep k hk (fun i hi => by simp at hi), hx.sz, hx.os, hx.out⟩
end Go.AS
