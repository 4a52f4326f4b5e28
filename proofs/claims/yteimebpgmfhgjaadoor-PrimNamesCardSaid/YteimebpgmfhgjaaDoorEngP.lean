/- Abstract states (own engine), part P: what a datum of a row reads as. -/
import Derived.Test.YteimebpgmfhgjaaDoorEngO
import Derived.Lib.LaidTab
import GoSem.ClaimJoined
namespace Go.AS
open Go.RowKit
set_option linter.unusedVariables false
set_option linter.unusedSimpArgs false

section
variable {H : Type}
def pvAll (f : DataW H → Option (List PV)) (sz : Nat) : List (DataW H) → Option (List PV)
  | [] => some []
  | d :: ds => match f d, pvAll f sz ds with
    | some xs, some ys => if xs.length = sz then some (xs ++ ys) else none
    | _, _ => none
def pvFs (T : TypeId → Option TD) (f : TypeId → DataW H → Option (List PV)) : Nat → List (Nat × TypeId) → List (DataW H) → Option (List PV)
  | _, [], [] => some []
  | o, (off, t) :: fs, d :: ds => match T t, f t d, pvFs T f (o + ((T t).map (·.size)).getD 0) fs ds with
    | some td, some xs, some ys => if off = o ∧ xs.length = td.size then some (xs ++ ys) else none
    | _, _, _ => none
  | _, _, _ => none
/-- The cells that a datum stands for. -/
def pvs (T : TypeId → Option TD) : Nat → TypeId → DataW H → Option (List PV)
  | 0, _, _ => none
  | n + 1, t, d => match T t, d with
    | some ⟨.int _, _, _, _⟩, .lit (.int k z) => some [.int k z]
    | some ⟨.bool, _, _, _⟩, .lit (.bool b) => some [.bool b]
    | some ⟨.str, _, _, _⟩, .lit (.string bs) => some [.str ⟨bs.toArray⟩]
    | some ⟨.slice _, _, _, _⟩, .nil => some [.nil]
    | some ⟨.slice e, _, _, _⟩, .slice es _ => match T e with
      | some td => match pvAll (pvs T n e) td.size es with
        | some xs => some [.slice es.length xs]
        | none => none
      | none => none
    | some ⟨.struct fs, sz, _, _⟩, .agg ds => match pvFs T (pvs T n) 0 fs ds with
      | some xs => if xs.length = sz then some xs else none
      | none => none
    | some ⟨.array m e, sz, _, _⟩, .agg ds => match T e with
      | some td => match pvAll (pvs T n e) td.size ds with
        | some xs => if ds.length = m ∧ xs.length = sz then some xs else none
        | none => none
      | none => none
    | _, _ => none
end

def old (w : World) : Nat → Prop := fun k => k < w.heap.size
theorem IReps.nil (im : Nat → Prop) (w : World) : IReps im w [] [] := ⟨rfl, fun j x v h => by simp at h⟩
theorem IReps.one {im : Nat → Prop} {w : World} {x : PV} {v : Value} (h : IRep im w x v) : IReps im w [x] [v] := ⟨rfl, fun j y u hy hu => by
  cases j with
  | zero => simp at hy hu; subst hy; subst hu; exact h
  | succ j => simp at hy⟩
theorem cellsOf_td {P : Program} {t : TypeId} {td : TD} (h : td.ok P t) : P.cellsOf t = td.size := by
  obtain ⟨i, z, hi, hs, _⟩ := h.info
  simp [Program.cellsOf, hi, hs]
theorem und_td {P : Program} {t : TypeId} {td : TD} (h : td.ok P t) : ∃ d, P.underlying t = some d ∧ td.k.ok d := h.und
theorem mapM_opt {α β : Type} {f : α → Option β} : ∀ {l : List α} {r : List β}, l.mapM f = some r → ∀ (i : Nat) (b : β), r[i]? = some b → ∃ a, l[i]? = some a ∧ f a = some b
  | [], r, h, i, b, hb => by simp at h; subst h; simp at hb
  | x :: l, r, h, i, b, hb => by
    simp only [List.mapM_cons, Option.bind_eq_bind, Option.bind_eq_some_iff, Option.pure_def, Option.some.injEq] at h
    obtain ⟨c, hc, r', hr', rfl⟩ := h
    cases i with
    | zero => simp at hb; subst hb; exact ⟨x, rfl, hc⟩
    | succ i => simpa using mapM_opt hr' i b (by simpa using hb)

section
variable {H : Type} {enc : TypeId × Value → H} {G : Prg} {w : World} {base : Nat} {sp : Nat → Bool} {held : Bool}
/-- What is read of cells is what they hold. -/
def Reads (enc : TypeId × Value → H) (G : Prg) (w : World) (base : Nat) (sp : Nat → Bool) (held : Bool) (m : Nat) : Prop :=
  ∀ (n : Nat) (t : TypeId) (cs : List Value) (d : DataW H) (p : List MemPlace) (xs : List PV), DataW.trod enc G.P w base sp held m t cs = some (d, p) → pvs G.T n t d = some xs → IReps (old w) w xs cs ∧ allOne xs = true
theorem allOne_append {xs ys : List PV} (h : allOne xs = true) (k : allOne ys = true) : allOne (xs ++ ys) = true := by
  induction xs with
  | nil => exact k
  | cons x xs ih => simp only [allOne, List.cons_append, Bool.and_eq_true] at h ⊢; exact ⟨h.1, ih h.2⟩
theorem iones {im : Nat → Prop} {xs : List PV} {vs : List Value} (h : IReps im w xs vs) (h1 : allOne xs = true) : ∀ u ∈ vs, u.oneCell' = true :=
  allOne_ok (E := ⟨fun _ => 0, fun _ => .nilFunc, im, 0, 0, 0⟩) (IReps.v (E := ⟨fun _ => 0, fun _ => .nilFunc, im, 0, 0, 0⟩) h) h1
/-- A slice's elements, from the k-th on. -/
theorem reads_row {m n : Nat} (ih : Reads enc G w base sp held m) {e : TypeId} {td : TD} {a : Addr} (hte : G.T e = some td) : ∀ (es : List (DataW H)) (k : Nat) (xs : List PV),
    (∀ (i : Nat) (d : DataW H), es[i]? = some d → ∃ p, ((w.cells? base (a.add ((k + i) * td.size)) td.size).bind (DataW.trod enc G.P w base sp held m e)) = some (d, p)) → pvAll (pvs G.T n e) td.size es = some xs →
    ∃ vs : List Value, vs.length = es.length * td.size ∧ (∀ (j : Nat) (v : Value), vs[j]? = some v → w.cell? (a.add (k * td.size + j)) = some v) ∧ IReps (old w) w xs vs ∧ allOne xs = true ∧ (0 < vs.length → a.block < w.heap.size) := by
  intro es
  induction es with
  | nil => intro k xs h hx; simp only [pvAll] at hx; cases hx; exact ⟨[], by simp, fun j v h => by simp at h, .nil _ _, rfl, fun h => by simp at h⟩
  | cons d ds ihd =>
    intro k xs h hx
    simp only [pvAll] at hx
    split at hx
    · rename_i ys zs hy hz
      split at hx
      · rename_i hl
        cases hx
        obtain ⟨p, hp⟩ := h 0 d rfl
        obtain ⟨cs, hcs, htr⟩ := Option.bind_eq_some_iff.1 hp
        obtain ⟨hb, hlen, hcell⟩ := World.cells?_some hcs
        obtain ⟨h1, h2⟩ := ih n e cs d p ys htr hy
        obtain ⟨vs, g1, g2, g3, g4, g5⟩ := ihd (k + 1) zs (fun i d' hd' => by
          have := h (i + 1) d' (by simpa using hd')
          rw [show k + (i + 1) = k + 1 + i from by omega] at this
          exact this) hz
        refine ⟨cs ++ vs, by simp [hlen, g1, Nat.add_mul, Nat.add_comm], fun j v hv => ?_, h1.append g3, allOne_append h2 g4, fun hpos => ?_⟩
        · rcases Nat.lt_or_ge j cs.length with hlt | hge
          · rw [List.getElem?_append_left hlt] at hv
            have := hcell j (by omega)
            rw [add_of_add, Nat.add_zero] at this
            rw [this]; exact hv
          · rw [List.getElem?_append_right hge] at hv
            have := g2 _ v hv
            rw [← this]
            congr 2
            rw [Nat.add_mul]
            omega
        · rcases Nat.lt_or_ge 0 cs.length with hlt | hge
          · have := World.cells?_block hcs (by omega)
            rw [block_of_add] at this
            exact this
          · exact g5 (by simp at hpos; omega)
      · cases hx
    · cases hx
/-- An aggregate's parts, from cell o on. -/
theorem reads_fs {m n : Nat} (ih : Reads enc G w base sp held m) {cs : List Value} : ∀ (fs : List Field) (ds : List (DataW H × List MemPlace)) (o : Nat) (xs : List PV),
    fs.mapM (fun f => DataW.trod enc G.P w base sp held m f.type ((cs.drop f.offset).take (G.P.cellsOf f.type))) = some ds → pvFs G.T (pvs G.T n) o (fs.map fun f => (f.offset, f.type)) (ds.map (·.1)) = some xs →
    IReps (old w) w xs ((cs.drop o).take xs.length) ∧ allOne xs = true := by
  intro fs
  induction fs with
  | nil => intro ds o xs h hx; simp at h; subst h; simp only [List.map_nil, pvFs] at hx; cases hx; exact ⟨by simpa using IReps.nil _ _, rfl⟩
  | cons f fs ihf =>
    intro ds o xs h hx
    simp only [List.mapM_cons, Option.bind_eq_bind, Option.bind_eq_some_iff, Option.pure_def, Option.some.injEq] at h
    obtain ⟨d, hd, ds', hds, rfl⟩ := h
    simp only [List.map_cons, pvFs] at hx
    split at hx
    · rename_i td ys zs ht hy hz
      split at hx
      · rename_i hc
        cases hx
        obtain ⟨ho, hl⟩ := hc
        obtain ⟨d1, p1⟩ := d
        obtain ⟨h1, h2⟩ := ih n f.type _ d1 p1 ys hd hy
        rw [ht] at hz
        simp only [Option.map_some, Option.getD_some] at hz
        obtain ⟨h3, h4⟩ := ihf ds' _ zs hds hz
        rw [cellsOf_td (G.hT _ _ ht)] at h1
        refine ⟨?_, allOne_append h2 h4⟩
        have := h1.append h3
        rw [ho] at this
        rw [List.length_append, hl]
        have e : List.take (td.size + zs.length) (cs.drop o) = (cs.drop o).take td.size ++ ((cs.drop (o + td.size)).take zs.length) := by
          rw [List.take_add, List.drop_drop]
        rw [e]
        exact this
      · cases hx
    · cases hx
theorem reads_arr {m n : Nat} (ih : Reads enc G w base sp held m) {cs : List Value} {e : TypeId} {td : TD} (hte : G.T e = some td) : ∀ (ds : List (DataW H)) (k : Nat) (xs : List PV),
    (∀ (i : Nat) (d : DataW H), ds[i]? = some d → ∃ p, DataW.trod enc G.P w base sp held m e ((cs.drop ((k + i) * td.size)).take td.size) = some (d, p)) → pvAll (pvs G.T n e) td.size ds = some xs →
    IReps (old w) w xs ((cs.drop (k * td.size)).take xs.length) ∧ allOne xs = true := by
  intro ds
  induction ds with
  | nil => intro k xs h hx; simp only [pvAll] at hx; cases hx; exact ⟨by simpa using IReps.nil _ _, rfl⟩
  | cons d ds ihd =>
    intro k xs h hx
    simp only [pvAll] at hx
    split at hx
    · rename_i ys zs hy hz
      split at hx
      · rename_i hl
        cases hx
        obtain ⟨p, hp⟩ := h 0 d rfl
        obtain ⟨h1, h2⟩ := ih n e _ d p ys hp hy
        obtain ⟨h3, h4⟩ := ihd (k + 1) zs (fun i d' hd' => by
          have := h (i + 1) d' (by simpa using hd')
          rw [show k + (i + 1) = k + 1 + i from by omega] at this
          exact this) hz
        refine ⟨?_, allOne_append h2 h4⟩
        have := h1.append h3
        rw [List.length_append, hl]
        have e : List.take (td.size + zs.length) (cs.drop (k * td.size)) = (cs.drop (k * td.size)).take td.size ++ ((cs.drop ((k + 1) * td.size)).take zs.length) := by
          rw [List.take_add, List.drop_drop, Nat.add_mul, Nat.one_mul]
        rw [e]
        simpa using this
      · cases hx
    · cases hx
theorem reads (m : Nat) : Reads enc G w base sp held m := by
  induction m with
  | zero => intro n t cs d p xs h; simp [DataW.trod] at h
  | succ m ih =>
    intro n t cs d p xs h hx
    cases n with
    | zero => simp [pvs] at hx
    | succ n =>
      unfold pvs at hx
      split at hx
      · rename_i k0 sz b z k v ht
        cases hx
        obtain ⟨D, hD, hok⟩ := (G.hT _ _ ht).und
        simp only [TK.ok] at hok
        subst hok
        obtain ⟨n', rfl, he, _⟩ := DataW.trod_int hD h
        cases he
        exact ⟨.one (.int _ _), rfl⟩
      · rename_i sz b z v ht
        cases hx
        obtain ⟨D, hD, hok⟩ := (G.hT _ _ ht).und
        simp only [TK.ok] at hok
        subst hok
        simp only [DataW.trod, hD] at h
        split at h <;> simp_all
        obtain ⟨rfl, _⟩ := h
        exact ⟨.one (.bool _), rfl⟩
      · rename_i sz b z v ht
        cases hx
        obtain ⟨D, hD, hok⟩ := (G.hT _ _ ht).und
        simp only [TK.ok] at hok
        subst hok
        simp only [DataW.trod, hD] at h
        split at h <;> simp_all
        obtain ⟨_, rfl, _⟩ := h
        exact ⟨.one (.str _), rfl⟩
      · rename_i e sz b z ht
        cases hx
        obtain ⟨D, hD, hok⟩ := (G.hT _ _ ht).und
        simp only [TK.ok] at hok
        subst hok
        simp only [DataW.trod, hD] at h
        split at h <;> simp_all
        · exact ⟨.one .nil, rfl⟩
        · obtain ⟨_, h⟩ := h
          obtain ⟨el, _, h⟩ := Option.bind_eq_some_iff.1 h
          obtain ⟨r, _, h⟩ := Option.map_eq_some_iff.1 h
          cases h
      · rename_i e sz b z es rest ht
        split at hx
        · rename_i td hte
          split at hx
          · rename_i ys hy
            cases hx
            obtain ⟨D, hD, hok⟩ := (G.hT _ _ ht).und
            simp only [TK.ok] at hok
            subst hok
            simp only [DataW.trod, hD] at h
            split at h <;> simp_all
            rename_i a len cap hee
            obtain ⟨hc, h⟩ := h
            obtain ⟨el, hel, h⟩ := Option.bind_eq_some_iff.1 h
            obtain ⟨r, _, h⟩ := Option.map_eq_some_iff.1 h
            cases h
            have hln : el.length = len := by have := Lib.mapM_length hel; simpa using this
            rw [cellsOf_td (G.hT _ _ hte)] at hel
            obtain ⟨vs, g1, g2, g3, g4, g5⟩ := reads_row ih hte (el.map (·.1)) 0 ys (fun i d hd => by
              rw [List.getElem?_map] at hd
              obtain ⟨x, hx, rfl⟩ := Option.map_eq_some_iff.1 hd
              obtain ⟨i', hi', hf⟩ := mapM_opt hel i x hx
              have : i' = i := by
                rw [List.getElem?_range (by have := (List.getElem?_eq_some_iff.1 hx).1; omega)] at hi'
                exact (Option.some.inj hi').symm
              subst this
              exact ⟨x.2, by rw [Nat.zero_add]; exact hf⟩) hy
            refine ⟨.one ?_, rfl⟩
            rw [List.length_map, hln]
            exact .slice hc.2.1 g3.1 (fun h => g5 h) (fun j v hv => by have := g2 j v hv; rwa [Nat.zero_mul, Nat.zero_add] at this) (iones g3 g4) g3.2
          · cases hx
        · cases hx
      · rename_i fs sz b z ds ht
        split at hx
        · rename_i ys hy
          split at hx
          · rename_i hl
            cases hx
            obtain ⟨D, hD, F, rfl, hF⟩ := (G.hT _ _ ht).und
            simp only [DataW.trod, hD] at h
            have h' : (if cs.length = G.P.cellsOf t then (F.toList.mapM fun f => DataW.trod enc G.P w base sp held m f.type ((cs.drop f.offset).take (G.P.cellsOf f.type))).map fun xs => (DataW.agg (xs.map (·.1)), xs.flatMap (·.2)) else none) = some (.agg ds, p) := by
              rw [← h]
            clear h
            split at h'
            · rename_i hcl
              obtain ⟨xs', hm, he⟩ := Option.map_eq_some_iff.1 h'
              cases he
              obtain ⟨h1, h2⟩ := reads_fs ih F.toList xs' 0 _ hm (by rw [hF]; exact hy)
              rw [cellsOf_td (G.hT _ _ ht)] at hcl
              simp only [] at hcl
              rw [List.drop_zero, List.take_of_length_le (by omega)] at h1
              exact ⟨h1, h2⟩
            · cases h'
          · cases hx
        · cases hx
      · rename_i k e sz b z ds ht
        split at hx
        · rename_i td hte
          split at hx
          · rename_i ys hy
            split at hx
            · rename_i hl
              cases hx
              obtain ⟨D, hD, hok⟩ := (G.hT _ _ ht).und
              simp only [TK.ok] at hok
              subst hok
              simp only [DataW.trod, hD] at h
              have h' : (if cs.length = G.P.cellsOf t then ((List.range k).mapM fun i => DataW.trod enc G.P w base sp held m e ((cs.drop (i * G.P.cellsOf e)).take (G.P.cellsOf e))).map fun xs => (DataW.agg (xs.map (·.1)), xs.flatMap (·.2)) else none) = some (.agg ds, p) := by
                rw [← h]
              clear h
              split at h'
              · rename_i hcl
                obtain ⟨el, hel, he⟩ := Option.map_eq_some_iff.1 h'
                cases he
                rw [cellsOf_td (G.hT _ _ hte)] at hel
                have hln : el.length = k := by have := Lib.mapM_length hel; simpa using this
                obtain ⟨h1, h2⟩ := reads_arr ih hte (cs := cs) (el.map (·.1)) 0 _ (fun i d hd => by
                  rw [List.getElem?_map] at hd
                  obtain ⟨x, hx, rfl⟩ := Option.map_eq_some_iff.1 hd
                  obtain ⟨i', hi', hf⟩ := mapM_opt hel i x hx
                  have : i' = i := by
                    rw [List.getElem?_range (by have := (List.getElem?_eq_some_iff.1 hx).1; omega)] at hi'
                    exact (Option.some.inj hi').symm
                  subst this
                  exact ⟨x.2, by rw [Nat.zero_add]; exact hf⟩) hy
                rw [cellsOf_td (G.hT _ _ ht)] at hcl
                simp only [] at hcl
                rw [Nat.zero_mul, List.drop_zero, List.take_of_length_le (by omega)] at h1
                exact ⟨h1, h2⟩
              · cases h'
            · cases hx
          · cases hx
        · cases hx
      · cases hx
end
end Go.AS
