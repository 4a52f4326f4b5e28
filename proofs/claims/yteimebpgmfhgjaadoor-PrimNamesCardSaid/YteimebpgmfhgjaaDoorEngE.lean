/- Abstract states (own engine), part E: composites; 'aval': what an operation that only computes gives. -/
import Derived.Test.YteimebpgmfhgjaaDoorEngD
import Derived.Laws.Tables
namespace Go.AS
open Go.RowKit
set_option linter.unusedVariables false
set_option linter.unusedSimpArgs false

def PV.part : PV → Bool
  | .tup _ | .junk => false
  | _ => true
theorem VRep.cells' {E : Env} {w : World} {x : PV} {v : Value} (h : VRep E w x v) (hp : x.part = true) : VReps E w x.cells v.cells.toList := h.cells (by revert hp; cases x <;> simp [PV.part])

theorem foldl_splice (off : Nat) (cs : List Value) : ∀ (k : Nat) (arr : Array Value), (cs.zipIdx k).foldl (fun (a : Array Value) (p : Value × Nat) => a.setIfInBounds (off + p.2) p.1) arr = (splice arr.toList (off + k) cs).toArray := by
  induction cs with
  | nil => intro k arr; simp [splice]
  | cons c r ih =>
    intro k arr
    simp only [List.zipIdx_cons, List.foldl_cons, splice]
    rw [ih (k + 1)]
    simp [Nat.add_assoc]

def afill (place : Nat → Option (Nat × Nat)) : List PV → List (Nat × PV) → Option (List PV)
  | cells, [] => some cells
  | cells, (i, x) :: r => match place i with
    | some (off, sz) => if x.part = true ∧ x.cells.length = sz ∧ off + sz ≤ cells.length then afill place (splice cells off x.cells) r else none
    | none => none
theorem afill_ok {E : Env} {w : World} {place : Nat → Option (Nat × Nat)} : ∀ (ps : List (Nat × PV)) (qs : List (Nat × Value)) (cells out : List PV) (vs : List Value), afill place cells ps = some out → VReps E w cells vs →
    qs.map (·.1) = ps.map (·.1) → VReps E w (ps.map (·.2)) (qs.map (·.2)) → ∃ us, Instr.fill place vs.toArray qs = some us.toArray ∧ VReps E w out us := by
  intro ps
  induction ps with
  | nil =>
    intro qs cells out vs h hv hi hr
    cases qs with
    | nil => simp only [afill] at h; cases h; exact ⟨vs, rfl, hv⟩
    | cons q qs => simp at hi
  | cons p ps ih =>
    intro qs cells out vs h hv hi hr
    obtain ⟨i, x⟩ := p
    cases qs with
    | nil => simp at hi
    | cons q qs =>
      obtain ⟨j, v⟩ := q
      simp only [List.map_cons, List.cons.injEq] at hi
      obtain ⟨rfl, hi⟩ := hi
      simp only [List.map_cons] at hr
      obtain ⟨u, us, he, hu, hus⟩ := hr.cons_inv
      simp only [List.cons.injEq] at he
      obtain ⟨rfl, rfl⟩ := he
      simp only [afill] at h
      split at h
      · rename_i off sz hp
        split at h
        · rename_i hc
          have hcl := hu.cells' hc.1
          have hl : v.cells.size = sz := by rw [← hc.2.1, ← hcl.1]; simp
          obtain ⟨us, hus1, hus2⟩ := ih qs _ out _ h (hv.splice hcl off) hi hus
          refine ⟨us, ?_, hus2⟩
          simp only [Instr.fill, hp]
          rw [if_neg (by
            have := hv.1
            simp only [ne_eq, Bool.or_eq_true, decide_eq_true_eq, List.size_toArray, not_or]
            omega)]
          rw [← Array.foldl_toList, Array.toList_zipIdx, foldl_splice off v.cells.toList 0]
          simpa using hus1
        · cases h
      · cases h

def aplace (G : Prg) (t : TypeId) : Option (Nat → Option (Nat × Nat)) :=
  match G.T t with
  | some ⟨.struct fs, _, _, _⟩ => if (fs.all fun f => (G.T f.2).isSome) = true then some fun i => (fs[i]?).bind fun f => (G.T f.2).map fun td => (f.1, td.size) else none
  | some ⟨.array _ e, _, _, _⟩ => (G.T e).map fun td => fun i => some (i * td.size, td.size)
  | _ => none
theorem places_of {P : Program} {T : TypeId → Option TD} (hT : ∀ t td, T t = some td → td.ok P t) : ∀ (F : List Field), ((F.map fun f => (f.offset, f.type)).all fun f => (T f.2).isSome) = true →
    ∃ places, F.mapM (fun f => (P.info? f.type).map fun i => (f.offset, i.size)) = some places ∧ ∀ i : Nat, places[i]? = ((F.map fun f => (f.offset, f.type))[i]?).bind fun f => (T f.2).map fun td => (f.1, td.size)
  | [], _ => ⟨[], by simp, fun i => by simp⟩
  | f :: F, h => by
    simp only [List.map_cons, List.all_cons, Bool.and_eq_true] at h
    obtain ⟨places, hp, hi⟩ := places_of hT F h.2
    obtain ⟨td, htd⟩ := Option.isSome_iff_exists.1 h.1
    obtain ⟨i, z, hinfo, hs, _⟩ := (hT _ _ htd).info
    refine ⟨(f.offset, i.size) :: places, by simp [List.mapM_cons, hinfo, hp], fun j => ?_⟩
    cases j with
    | zero => simp [htd, hs]
    | succ j => simpa using hi j
def abuild (G : Prg) (t : TypeId) (parts : List (Nat × PV)) : Option PV :=
  match G.T t, aplace G t with
  | some td, some place => (afill place td.zero parts).map .agg
  | _, _ => none
theorem abuild_ok {G : Prg} {E : Env} {w : World} {t : TypeId} {ps : List (Nat × PV)} {qs : Array (Nat × Value)} {z : PV} (h : abuild G t ps = some z) (hi : qs.toList.map (·.1) = ps.map (·.1)) (hr : VReps E w (ps.map (·.2)) (qs.toList.map (·.2))) :
    ∃ r, (∀ w', Gr w w' → (Instr.build t qs).run G.P w' = .ok r w') ∧ VRep E w z r := by
  unfold abuild at h
  split at h
  · rename_i td place hT hpl
    cases hf : afill place td.zero ps with
    | none => rw [hf] at h; cases h
    | some out =>
      rw [hf] at h
      cases h
      obtain ⟨i, zz, hinfo, hs, hby, hz, hzc⟩ := (G.hT _ _ hT).info
      have hz0 : VReps E w td.zero zz.cells.toList := by rw [← hzc]; exact cellsOf_rep _
      obtain ⟨us, hus, hur⟩ := afill_ok ps qs.toList td.zero out _ hf hz0 hi hr
      refine ⟨.agg us.toArray, fun w' _ => run_build w' t qs us.toArray ?_, hur.agg⟩
      unfold aplace at hpl
      obtain ⟨d, hu, hd⟩ := (G.hT _ _ hT).und
      rw [hT] at hpl
      unfold Program.built
      obtain ⟨k, sz, by_, ze⟩ := td
      cases k <;> simp only [] at hpl <;> first | (cases hpl; done) | skip
      · split at hpl
        · rename_i hall
          cases hpl
          obtain ⟨F, rfl, hF⟩ := hd
          obtain ⟨places, hp, hpi⟩ := places_of G.hT F.toList (by rw [hF]; exact hall)
          rw [hF] at hpi
          simp only [hinfo, hu, hz, hp]
          rw [← hus]
          congr 1
          funext i
          simpa using hpi i
        · cases hpl
      · cases hd
        rename_i e
        cases hte : G.T e with
        | none => rw [hte] at hpl; cases hpl
        | some tde =>
          rw [hte] at hpl
          cases hpl
          obtain ⟨ie, ze', hie, hes, _⟩ := (G.hT _ _ hte).info
          simp only [hinfo, hu, hz, hie, hes]
          exact hus
  · cases h

def amax : PV → PV → Option PV
  | .int k x, .int _ y => some (.int k (if y > x then y else x))
  | _, _ => none
def amin : PV → PV → Option PV
  | .int k x, .int _ y => some (.int k (if y < x then y else x))
  | _, _ => none

/-- Equality of what is neither a number nor a string. -/
def aeq (G : Prg) (t : TypeId) : PV → PV → Option Bool
  | .bool a, .bool b => match G.T t with
    | some ⟨.bool, _, _, _⟩ => some (a == b)
    | _ => none
  | .nil, .nil => match G.T t with
    | some ⟨.slice _, _, _, _⟩ => some true
    | _ => none
  | .slice n _, .nil => match G.T t, n with
    | some ⟨.slice _, _, _, _⟩, _ + 1 => some false
    | _, _ => none
  | .nilptr, .nilptr => match G.T t with
    | some ⟨.ptr _, _, _, _⟩ => some true
    | _ => none
  | .ptr _ _, .nilptr => match G.T t with
    | some ⟨.ptr _, _, _, _⟩ => some false
    | _ => none
  | .nilfunc, .nilfunc => match G.T t with
    | some ⟨.func, _, _, _⟩ => some true
    | _ => none
  | .func _ _, .nilfunc => match G.T t with
    | some ⟨.func, _, _, _⟩ => some false
    | _ => none
  | _, _ => none
theorem aeq_ok {G : Prg} {E : Env} {w : World} {t : TypeId} {x y : PV} {b : Bool} {u v : Value} (h : aeq G t x y = some b) (hx : VRep E w x u) (hy : VRep E w y v) (w' : World) :
    (Op.equal t u v).run G.P w' = .ok b w' ∧ (∀ op p q, (eqGuard op t p q u v).run G.P w' = .ok () w') ∧ binOp .eql t u v = (do pure (.bool (← Op.equal t u v))) ∧ binOp .neq t u v = (do pure (.bool (!(← Op.equal t u v)))) := by
  have und : ∀ {td : TD}, G.T t = some td → ∃ d, td.k.ok d ∧ ∀ w, (underlying t).run G.P w = .ok d w := fun ht => by
    obtain ⟨d, hd, hk⟩ := (G.hT _ _ ht).und
    exact ⟨d, hk, fun w => wf_und hd w⟩
  unfold aeq at h
  split at h
  · split at h
    · rename_i ht
      cases h
      obtain ⟨d, hk, hr⟩ := und ht
      simp only [TK.ok] at hk
      subst hk
      obtain rfl := hx.bool_inv
      obtain rfl := hy.bool_inv
      refine ⟨by rw [Op.equal, show Op.maxDepth = 9999 + 1 from rfl, Op.equalIn]; simp [hr, Result.andThen], fun op p q => by cases op <;> simp [eqGuard], rfl, rfl⟩
    · cases h
  · split at h
    · rename_i ht
      cases h
      obtain ⟨d, hk, hr⟩ := und ht
      simp only [TK.ok] at hk
      subst hk
      obtain rfl := hx.nil_inv
      obtain rfl := hy.nil_inv
      refine ⟨by rw [Op.equal, show Op.maxDepth = 9999 + 1 from rfl, Op.equalIn]; simp [hr, Result.andThen], fun op p q => by cases op <;> simp [eqGuard], rfl, rfl⟩
    · cases h
  · split at h
    · rename_i ht
      cases h
      obtain ⟨d, hk, hr⟩ := und ht
      simp only [TK.ok] at hk
      subst hk
      obtain rfl := hy.nil_inv
      rcases hx.slice_inv with ⟨_, h0, _⟩ | ⟨ad, c, vs, rfl, _⟩
      · cases h0
      · refine ⟨by rw [Op.equal, show Op.maxDepth = 9999 + 1 from rfl, Op.equalIn]; simp [hr, Result.andThen], fun op p q => by cases op <;> simp [eqGuard], rfl, rfl⟩
    · cases h
  · split at h
    · rename_i ht
      cases h
      obtain ⟨d, hk, hr⟩ := und ht
      simp only [TK.ok] at hk
      subst hk
      obtain rfl : u = .pointer none := by cases hx with | imm h => cases h; rfl
      obtain rfl : v = .pointer none := by cases hy with | imm h => cases h; rfl
      refine ⟨by rw [Op.equal, show Op.maxDepth = 9999 + 1 from rfl, Op.equalIn]; simp [hr, Result.andThen], fun op p q => by cases op <;> simp [eqGuard], rfl, rfl⟩
    · cases h
  · split at h
    · rename_i ht
      cases h
      obtain ⟨d, hk, hr⟩ := und ht
      simp only [TK.ok] at hk
      subst hk
      obtain ⟨rfl, _⟩ := hx.ptr_inv
      obtain rfl : v = .pointer none := by cases hy with | imm h => cases h; rfl
      refine ⟨by rw [Op.equal, show Op.maxDepth = 9999 + 1 from rfl, Op.equalIn]; simp [hr, Result.andThen], fun op p q => by cases op <;> simp [eqGuard], rfl, rfl⟩
    · cases h
  · split at h
    · rename_i ht
      cases h
      obtain ⟨d, ⟨a, b, c, rfl⟩, hr⟩ := und ht
      obtain rfl : u = .nilFunc := by cases hx with | imm h => cases h; rfl
      obtain rfl : v = .nilFunc := by cases hy with | imm h => cases h; rfl
      refine ⟨by rw [Op.equal, show Op.maxDepth = 9999 + 1 from rfl, Op.equalIn]; simp [hr, Result.andThen], fun op p q => by cases op <;> simp [eqGuard], rfl, rfl⟩
    · cases h
  · split at h
    · rename_i ht
      cases h
      obtain ⟨d, ⟨a, b, c, rfl⟩, hr⟩ := und ht
      obtain ⟨us, rfl, _⟩ := hx.func_inv
      obtain rfl : v = .nilFunc := by cases hy with | imm h => cases h; rfl
      refine ⟨by rw [Op.equal, show Op.maxDepth = 9999 + 1 from rfl, Op.equalIn]; simp [hr, Result.andThen], fun op p q => by cases op <;> simp [eqGuard], rfl, rfl⟩
    · cases h
  · cases h
/-- An operation that only computes. -/
def aval (G : Prg) (st : AS) : Op → Option PV
  | .move x | .assign x => some (st.ev G.Γ x)
  | .pick c a b => match st.ev G.Γ c with
    | .bool t => some (if t then st.ev G.Γ a else st.ev G.Γ b)
    | _ => none
  | .build t parts => abuild G t (parts.toList.map fun p => (p.1, st.ev G.Γ p.2))
  | .load t a => aload G st t (st.ev G.Γ a)
  | .binOp .eql t x y _ => match aeq G t (st.ev G.Γ x) (st.ev G.Γ y) with
    | some b => some (.bool b)
    | none => abin .eql (st.ev G.Γ x) (st.ev G.Γ y)
  | .binOp .neq t x y _ => match aeq G t (st.ev G.Γ x) (st.ev G.Γ y) with
    | some b => some (.bool !b)
    | none => abin .neq (st.ev G.Γ x) (st.ev G.Γ y)
  | .binOp op _ x y _ => abin op (st.ev G.Γ x) (st.ev G.Γ y)
  | .unOp op _ x => aun op (st.ev G.Γ x)
  | .convert s d x => aconv G s d (st.ev G.Γ x)
  | .makeInterface t x => amkiface G t (st.ev G.Γ x)
  | .makeFunc fn ⟨[]⟩ cap => some (.func fn (cap.toList.map (st.ev G.Γ)))
  | .slice t x lo hi none => aslice G t (st.ev G.Γ x) (lo.map (st.ev G.Γ)) (hi.map (st.ev G.Γ))
  | .fieldAddr s x f => afieldAddr G s (st.ev G.Γ x) f
  | .field s x f => afield G s (st.ev G.Γ x) f
  | .indexAddr t x i => aidx G st t (st.ev G.Γ x) (st.ev G.Γ i)
  | .index t x i => aindex G t (st.ev G.Γ x) (st.ev G.Γ i)
  | .extract t i => aextract (st.ev G.Γ t) i
  | .nilCheck x => match st.ev G.Γ x with
    | .ptr b o => some (.ptr b o)
    | .epos cs => some (.epos cs)
    | .rpos r o => some (.rpos r o)
    | .iface t v => some (.iface t v)
    | _ => none
  | .call ⟨.builtin .len, ⟨[x]⟩, ⟨[t]⟩⟩ => alen G t (st.ev G.Γ x)
  | .call ⟨.builtin .max, ⟨[x, y]⟩, _⟩ => amax (st.ev G.Γ x) (st.ev G.Γ y)
  | .call ⟨.builtin .min, ⟨[x, y]⟩, _⟩ => amin (st.ev G.Γ x) (st.ev G.Γ y)
  | _ => none

theorem oreps_map {G : Prg} {E : Env} {w : World} {st : AS} {a : Act} (hf : FRep E w st.t a.tmps) (hh : HRep G.Γ E w st.h) (o : Option Operand) : OReps E w (o.map (st.ev G.Γ)) (o.map a.eval) := by
  cases o with
  | none => trivial
  | some x => exact ev_rep hf hh x
theorem evs_rep {G : Prg} {E : Env} {w : World} {st : AS} {a : Act} (hf : FRep E w st.t a.tmps) (hh : HRep G.Γ E w st.h) (xs : List Operand) : VReps E w (xs.map (st.ev G.Γ)) (xs.map a.eval) := by
  induction xs with
  | nil => exact .nil _ _
  | cons x xs ih => exact .cons (ev_rep hf hh x) ih

theorem aval_ok {G : Prg} {E : Env} {w : World} {st : AS} {a : Act} (hf : FRep E w st.t a.tmps) (hh : HRep G.Γ E w st.h) {o : Oper} {x : PV} (h : aval G st o.op = some x) :
    ∃ v, (∀ w', Gr w w' → (execOp a.eval o).run G.P w' = .ok (.value v) w') ∧ VRep E w x v := by
  have ev := fun y => ev_rep (Γ := G.Γ) hf hh y
  have lift : ∀ (s : Sem Value), (∃ r, (∀ w', Gr w w' → s.run G.P w' = .ok r w') ∧ VRep E w x r) → ∃ v, (∀ w', Gr w w' → (do pure (Next.value (← s)) : Sem Next).run G.P w' = .ok (.value v) w') ∧ VRep E w x v := fun s ⟨r, hr, hv⟩ => ⟨r, fun w' hg => by simp [hr w' hg, Result.andThen], hv⟩
  unfold execOp
  unfold aval at h
  split at h <;> first | (cases h; done) | (rename_i ho; rw [ho]; simp only [])
  · cases h; exact ⟨_, fun _ _ => rfl, ev _⟩
  · cases h; exact ⟨_, fun _ _ => rfl, ev _⟩
  · rename_i c p q
    split at h
    · rename_i t ht
      cases h
      have hc := ev c
      rw [ht] at hc
      have hc' := hc.bool_inv
      refine ⟨if t then a.eval p else a.eval q, fun _ _ => by rw [hc']; simp [asBool, Result.andThen], ?_⟩
      cases t
      · exact ev q
      · exact ev p
    · cases h
  · rename_i t parts
    refine lift _ (abuild_ok h ?_ ?_)
    · simp
    · have := evs_rep hf hh (parts.toList.map (·.2))
      simpa [Function.comp_def] using this
  · exact lift _ (aload_ok hh h (ev _))
  · split at h
    · rename_i b hb
      cases h
      obtain ⟨_, h2, h3, _⟩ := aeq_ok hb (ev _) (ev _) w
      refine lift _ ⟨.bool b, fun w' hg => ?_, .imm (.bool b)⟩
      obtain ⟨k1, k2, k3, _⟩ := aeq_ok hb (ev _) (ev _) w'
      simp only [k3, Sem.run_bind, k2, k1, Result.andThen, Sem.run_pure]
    · exact lift _ (abin_ok h (ev _) (ev _) _ _ _)
  · split at h
    · rename_i b hb
      cases h
      refine lift _ ⟨.bool !b, fun w' hg => ?_, .imm (.bool _)⟩
      obtain ⟨k1, k2, _, k4⟩ := aeq_ok hb (ev _) (ev _) w'
      simp only [k4, Sem.run_bind, k2, k1, Result.andThen, Sem.run_pure]
    · exact lift _ (abin_ok h (ev _) (ev _) _ _ _)
  · exact lift _ (abin_ok h (ev _) (ev _) _ _ _)
  · exact lift _ (aun_ok h (ev _))
  · exact lift _ (aconv_ok h (ev _))
  · exact lift _ (amkiface_ok h (ev _))
  · rename_i fn cap
    cases h
    refine ⟨.func fn #[] (cap.map a.eval), fun _ _ => by simp [Instr.makeFunc], ?_⟩
    have := evs_rep hf hh cap.toList
    have e : cap.map a.eval = (cap.toList.map a.eval).toArray := by rw [← Array.toList_map, Array.toArray_toList]
    rw [e]
    exact .func this.1 this.2
  · exact lift _ (aslice_ok h (ev _) (oreps_map hf hh _) (oreps_map hf hh _))
  · exact lift _ (afieldAddr_ok h (ev _))
  · exact lift _ (afield_ok h (ev _))
  · exact lift _ (aidx_ok hh h (ev _) (ev _))
  · exact lift _ (aindex_ok h (ev _) (ev _))
  · exact lift _ (aextract_ok h (ev _))
  · rename_i y
    have hy := ev y
    split at h <;> first | (cases h; done) | skip
    all_goals
      rename_i he
      cases h
      rw [he] at hy
    · obtain ⟨e, _⟩ := hy.ptr_inv
      rw [e] at hy ⊢
      exact ⟨_, fun _ _ => rfl, hy⟩
    · obtain ⟨_, _, e, _⟩ := hy.epos_inv
      rw [e] at hy ⊢
      exact ⟨_, fun _ _ => rfl, hy⟩
    · obtain ⟨_, _, _, _, _, e⟩ := hy.rpos_inv
      rw [e] at hy ⊢
      exact ⟨_, fun _ _ => rfl, hy⟩
    · obtain ⟨_, e, _⟩ := hy.iface_inv
      rw [e] at hy ⊢
      exact ⟨_, fun _ _ => rfl, hy⟩
  · rename_i y t
    obtain ⟨r, hr, hv⟩ := alen_ok (ty := o.type) h (ev y)
    refine ⟨r, fun w' hg => ?_, hv⟩
    simp [resolve, invoke, builtin, hr w' hg, Result.andThen]
  · rename_i y z _
    unfold amax at h
    split at h
    · rename_i e1 e2
      cases h
      have h1 := ev y; have h2 := ev z
      rw [e1] at h1; rw [e2] at h2
      refine ⟨.int _ _, fun _ _ => ?_, .imm (.int _ _)⟩
      simp [resolve, invoke, builtin, Builtin.max_, Builtin.max2, h1.int_inv, h2.int_inv, Result.andThen]
    · cases h
  · rename_i y z _
    unfold amin at h
    split at h
    · rename_i e1 e2
      cases h
      have h1 := ev y; have h2 := ev z
      rw [e1] at h1; rw [e2] at h2
      refine ⟨.int _ _, fun _ _ => ?_, .imm (.int _ _)⟩
      simp [resolve, invoke, builtin, Builtin.min_, Builtin.min2, h1.int_inv, h2.int_inv, Result.andThen]
    · cases h
end Go.AS
