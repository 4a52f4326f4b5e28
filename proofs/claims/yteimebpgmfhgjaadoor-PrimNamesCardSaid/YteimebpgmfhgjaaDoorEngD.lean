/- Abstract states (own engine), part D: addresses, indices, slices, fields, structs, conversions; 'aval'. -/
import Derived.Test.YteimebpgmfhgjaaDoorEngC
import Derived.Laws.DeepStrings4
import Derived.Laws.Slices
import Derived.Laws.Cover1
namespace Go.AS
open Go.RowKit
set_option linter.unusedVariables false

def aaddr (off : Nat) : PV → Option PV
  | .ptr b o => some (.ptr b (o + off))
  | .epos cs => some (.epos (cs.drop off))
  | .rpos r o => some (.rpos r (o + off))
  | _ => none
theorem IReps.drop {im : Nat → Prop} {w : World} {xs : List PV} {vs : List Value} (h : IReps im w xs vs) (n : Nat) : IReps im w (xs.drop n) (vs.drop n) :=
  ⟨by simp [h.1], fun j x v hx hv => h.2 (n + j) x v (by rw [List.getElem?_drop] at hx; exact hx) (by rw [List.getElem?_drop] at hv; exact hv)⟩
theorem IReps.take {im : Nat → Prop} {w : World} {xs : List PV} {vs : List Value} (h : IReps im w xs vs) (n : Nat) : IReps im w (xs.take n) (vs.take n) :=
  ⟨by simp [h.1], fun j x v hx hv => by
    rw [List.getElem?_take] at hx hv
    split at hx
    · rw [if_pos (by assumption)] at hv; exact h.2 j x v hx hv
    · cases hx⟩
theorem aaddr_ok {E : Env} {w : World} {off : Nat} {x z : PV} {v : Value} (h : aaddr off x = some z) (hv : VRep E w x v) : ∃ a, v = .pointer (some a) ∧ VRep E w z (.pointer (some (a.add off))) := by
  unfold aaddr at h
  split at h <;> cases h
  · obtain ⟨rfl, hb⟩ := hv.ptr_inv
    exact ⟨_, rfl, by rw [add_none]; exact .ptr _ hb⟩
  · obtain ⟨a, vs, rfl, hb, hc, hr⟩ := hv.epos_inv
    have hd := hr.drop off
    exact ⟨a, rfl, .imm (.epos hd.1 (fun h => by rw [block_of_add]; exact hb (by simp at h; omega)) (fun j u hu => by rw [add_of_add]; exact hc _ u (by rw [← List.getElem?_drop]; exact hu)) hd.2)⟩
  · obtain ⟨hr, a, m, c, hρ, rfl⟩ := hv.rpos_inv
    exact ⟨_, rfl, by rw [add_of_add]; exact .rpos hr hρ⟩

def afieldAddr (G : Prg) (s : TypeId) (x : PV) (f : Nat) : Option PV :=
  match G.T s with
  | some ⟨.struct fs, _, _, _⟩ => match fs[f]? with
    | some (off, ft) => match G.T ft with
      | some td => if 0 < td.size then aaddr off x else none
      | none => none
    | none => none
  | _ => none
theorem afieldAddr_ok {G : Prg} {E : Env} {w : World} {s : TypeId} {x z : PV} {f : Nat} {v : Value} (h : afieldAddr G s x f = some z) (hv : VRep E w x v) : ∃ r, (∀ w', Gr w w' → (Instr.fieldAt s v f).run G.P w' = .ok r w') ∧ VRep E w z r := by
  unfold afieldAddr at h
  split at h
  · rename_i fs sz by_ ze hT
    split at h
    · rename_i off ft hf
      split at h
      · rename_i td hT2
        split at h
        · rename_i hpos
          obtain ⟨a, rfl, hz⟩ := aaddr_ok h hv
          obtain ⟨F, hu, hF⟩ := wf_field (G.hT _ _ hT) rfl
          have hF' : (F.toList.map fun f => (f.offset, f.type))[f]? = some (off, ft) := by rw [hF]; exact hf
          rw [List.getElem?_map] at hF'
          obtain ⟨fl, hfl, he⟩ := Option.map_eq_some_iff.1 hF'
          cases he
          have hfa : F[f]? = some fl := by simpa using hfl
          have hsz := wf_size (G.hT _ _ hT2)
          exact ⟨_, fun w' _ => by simp [Instr.fieldAt, wf_und hu, hfa, Instr.sureAddr, fieldPlace, hsz, Result.andThen, Nat.ne_of_gt hpos], hz⟩
        · cases h
      · cases h
    · cases h
  · cases h

def aidx (G : Prg) (st : AS) (t : TypeId) (x i : PV) : Option PV :=
  match G.T t, x, i with
  | some ⟨.slice e, _, _, _⟩, .slice n cs, .int _ i => match G.T e with
    | some td => if 0 ≤ i ∧ i < (n : Int) then some (.epos (cs.drop (i.toNat * td.size))) else none
    | none => none
  | some ⟨.slice e, _, _, _⟩, .own r n, .int _ i => match G.T e, st.h.rw[r]? with
    | some td, some (some _) => if 0 ≤ i ∧ i < (n : Int) then some (.rpos r (i.toNat * td.size)) else none
    | _, _ => none
  | some ⟨.array n e, _, _, _⟩, x, .int _ i => match G.T e with
    | some td => if 0 ≤ i ∧ i < (n : Int) then aaddr (i.toNat * td.size) x else none
    | none => none
  | _, _, _ => none
theorem aidx_ok {G : Prg} {E : Env} {w : World} {st : AS} (hh : HRep G.Γ E w st.h) {t : TypeId} {x i z : PV} {u v : Value} (h : aidx G st t x i = some z) (hx : VRep E w x u) (hi : VRep E w i v) : ∃ r, (∀ w', Gr w w' → (Instr.indexAt t u v).run G.P w' = .ok r w') ∧ VRep E w z r := by
  unfold aidx at h
  split at h
  · rename_i e sz by_ ze n cs k i hT
    split at h
    · rename_i td hT2
      split at h
      · rename_i hb
        cases h
        obtain rfl := hi.int_inv
        obtain ⟨d, hu, hd⟩ := (G.hT _ _ hT).und
        cases hd
        have hs := wf_size (G.hT _ _ hT2)
        rcases hx.slice_inv with ⟨rfl, hn, _⟩ | ⟨a, c, vs, rfl, _, hbl, hc, hr, _⟩
        · omega
        · have hd := hr.drop (i.toNat * td.size)
          exact ⟨.pointer (some (a.add (i.toNat * td.size))), fun w' _ => by simp [Instr.indexAt, wf_und hu, asIntOf, hb, hs, Result.andThen],
            .imm (.epos hd.1 (fun h => by rw [block_of_add]; exact hbl (by simp at h; omega)) (fun j u hu => by rw [add_of_add]; exact hc _ u (by rw [← List.getElem?_drop]; exact hu)) hd.2)⟩
      · cases h
    · cases h
  · rename_i e sz by_ ze r n k i hT
    split at h
    · rename_i td rw hT2 hrw
      split at h
      · rename_i hb
        cases h
        obtain rfl := hi.int_inv
        obtain ⟨d, hu, hd⟩ := (G.hT _ _ hT).und
        cases hd
        have hs := wf_size (G.hT _ _ hT2)
        obtain ⟨hr, rfl, A, c, he⟩ := hx.own_inv
        obtain ⟨xs, ho, _, _⟩ := hh.row r _ hrw
        rcases ho.2 with ⟨hz, _⟩ | ⟨g, cap, cur, hz, _⟩
        · rw [hz] at he; cases he; omega
        · rw [he] at hz ⊢
          cases hz
          exact ⟨.pointer (some ((⟨g, 0, none⟩ : Addr).add (i.toNat * td.size))), fun w' _ => by simp [Instr.indexAt, wf_und hu, asIntOf, hb, hs, Result.andThen], .rpos hr he⟩
      · cases h
    · cases h
  · rename_i x _o p q n e sz by_ ze k i hT
    split at h
    · rename_i td hT2
      split at h
      · rename_i hb
        obtain ⟨a, rfl, hz⟩ := aaddr_ok h hx
        obtain rfl := hi.int_inv
        obtain ⟨d, hu, hd⟩ := (G.hT _ _ hT).und
        cases hd
        have hs := wf_size (G.hT _ _ hT2)
        exact ⟨_, fun w' _ => by simp [Instr.indexAt, wf_und hu, asIntOf, Instr.sureAddr, hb, hs, Result.andThen], hz⟩
      · cases h
    · cases h
  · cases h

def aindex (G : Prg) (t : TypeId) (x i : PV) : Option PV :=
  match G.T t, x, i with
  | some ⟨.str, _, _, _⟩, .str s, .int _ i => if 0 ≤ i ∧ i < (s.size : Int) then some (.int .u8 (bt s i)) else none
  | some ⟨.array n e, _, _, _⟩, .agg cs, .int _ i => match G.T e with
    | some td => if 0 ≤ i ∧ i < (n : Int) ∧ td.k.agg = false ∧ i.toNat * td.size < cs.length then some (cs.getD (i.toNat * td.size) .junk) else none
    | none => none
  | _, _, _ => none
theorem aindex_ok {G : Prg} {E : Env} {w : World} {t : TypeId} {x i z : PV} {u v : Value} (h : aindex G t x i = some z) (hx : VRep E w x u) (hi : VRep E w i v) : ∃ r, (∀ w', Gr w w' → (Instr.index t u v).run G.P w' = .ok r w') ∧ VRep E w z r := by
  unfold aindex at h
  split at h
  · rename_i sz by_ ze s k i hT
    split at h
    · rename_i hb
      cases h
      obtain rfl := hi.int_inv
      obtain rfl := hx.str_inv
      obtain ⟨d, hu, hd⟩ := (G.hT _ _ hT).und
      cases hd
      have hlt : i.toNat < s.size := by omega
      refine ⟨.int .u8 (bt s i), fun w' _ => ?_, .imm (.int _ _)⟩
      simp [Instr.index, wf_und hu, asIntOf, hb.1, bt, hlt, Result.andThen]
    · cases h
  · rename_i n e sz by_ ze cs k i hT
    split at h
    · rename_i td hT2
      split at h
      · rename_i hb
        cases h
        obtain rfl := hi.int_inv
        obtain ⟨vs, rfl, hr⟩ := hx.agg_inv
        obtain ⟨d, hu, hd⟩ := (G.hT _ _ hT).und
        cases hd
        have hs := wf_size (G.hT _ _ hT2)
        have ha := wf_agg (G.hT _ _ hT2)
        have hx0 : cs[i.toNat * td.size]? = some (cs.getD (i.toNat * td.size) .junk) := by rw [List.getD, List.getElem?_eq_getElem hb.2.2.2]; rfl
        obtain ⟨y, hy, hyr⟩ := hr.get hx0
        exact ⟨y, fun w' _ => by simp [Instr.index, wf_und hu, asIntOf, hb.1, hb.2.1, hs, part, ha, hb.2.2.1, hy, Result.andThen], hyr⟩
      · cases h
    · cases h
  · cases h

/-- A field of a struct's value. -/
def afield (G : Prg) (s : TypeId) (x : PV) (f : Nat) : Option PV :=
  match G.T s, x with
  | some ⟨.struct fs, _, _, _⟩, .agg cs => match fs[f]? with
    | some (off, ft) => match G.T ft with
      | some td => if td.k.agg then some (.agg ((cs.drop off).take td.size)) else if off < cs.length then some (cs.getD off .junk) else none
      | none => none
    | none => none
  | _, _ => none
theorem afield_ok {G : Prg} {E : Env} {w : World} {s : TypeId} {x z : PV} {f : Nat} {v : Value} (h : afield G s x f = some z) (hv : VRep E w x v) : ∃ r, (∀ w', Gr w w' → (Instr.field s v f).run G.P w' = .ok r w') ∧ VRep E w z r := by
  unfold afield at h
  split at h
  · rename_i fs sz by_ ze cs hT
    obtain ⟨vs, rfl, hr⟩ := hv.agg_inv
    split at h
    · rename_i off ft hf
      split at h
      · rename_i td hT2
        obtain ⟨F, hu, hF⟩ := wf_field (G.hT _ _ hT) rfl
        have hF' : (F.toList.map fun f => (f.offset, f.type))[f]? = some (off, ft) := by rw [hF]; exact hf
        rw [List.getElem?_map] at hF'
        obtain ⟨fl, hfl, he⟩ := Option.map_eq_some_iff.1 hF'
        cases he
        have hfa : F[f]? = some fl := by simpa using hfl
        have hs := wf_size (G.hT _ _ hT2)
        have ha := wf_agg (G.hT _ _ hT2)
        split at h
        · rename_i hk
          cases h
          refine ⟨.agg ((vs.drop fl.offset).take td.size).toArray, fun w' _ => ?_, ((hr.drop _).take _).agg⟩
          simp only [Instr.field, Sem.run_bind, wf_und hu, Result.andThen, hfa, asAgg, Sem.run_pure, part, ha, hk, if_true, hs]
          congr 2
          apply Array.ext'
          simp [List.extract]
        · rename_i hk
          split at h
          · rename_i hlt
            cases h
            have hx0 : cs[fl.offset]? = some (cs.getD fl.offset .junk) := by rw [List.getD, List.getElem?_eq_getElem hlt]; rfl
            obtain ⟨y, hy, hyr⟩ := hr.get hx0
            exact ⟨y, fun w' _ => by simp [Instr.field, wf_und hu, hfa, asAgg, part, ha, hk, hy, Result.andThen], hyr⟩
          · cases h
      · cases h
    · cases h
  · cases h

def aextract (x : PV) (i : Nat) : Option PV :=
  match x with
  | .tup cs => cs[i]?
  | _ => none
theorem aextract_ok {P : Program} {E : Env} {w : World} {x z : PV} {i : Nat} {v : Value} (h : aextract x i = some z) (hv : VRep E w x v) : ∃ r, (∀ w', Gr w w' → (Instr.extract v i).run P w' = .ok r w') ∧ VRep E w z r := by
  unfold aextract at h
  split at h
  · obtain ⟨vs, rfl, hr⟩ := hv.tup_inv
    obtain ⟨y, hy, hyr⟩ := hr.get h
    exact ⟨y, fun w' _ => by simp [Instr.extract, hy], hyr⟩
  · cases h

def aun : UnOp → PV → Option PV
  | .not, .bool b => some (.bool !b)
  | .neg, .int k n => some (.int k (k.wrap (0 - n)))
  | _, _ => none
theorem aun_ok {P : Program} {E : Env} {w : World} {op : UnOp} {x z : PV} {v : Value} (h : aun op x = some z) (hv : VRep E w x v) : ∃ r, (∀ w', Gr w w' → (Op.unary op v).run P w' = .ok r w') ∧ VRep E w z r := by
  unfold aun at h
  split at h <;> cases h
  · obtain rfl := hv.bool_inv; exact ⟨_, fun _ _ => rfl, .imm (.bool _)⟩
  · obtain rfl := hv.int_inv; exact ⟨_, fun _ _ => rfl, .imm (.int _ _)⟩

def aconv (G : Prg) (s d : TypeId) (x : PV) : Option PV :=
  match G.T s, G.T d, x with
  | some _, some ⟨.int k, _, _, _⟩, .int _ n => some (.int k (k.wrap n))
  | some _, some ⟨.str, _, _, _⟩, .str s => some (.str s)
  | _, _, _ => none
theorem aconv_ok {G : Prg} {E : Env} {w : World} {s d : TypeId} {x z : PV} {v : Value} (h : aconv G s d x = some z) (hv : VRep E w x v) : ∃ r, (∀ w', Gr w w' → (convert s d v).run G.P w' = .ok r w') ∧ VRep E w z r := by
  unfold aconv at h
  split at h
  · rename_i ts k _ _ _ j n h1 h2
    cases h
    obtain rfl := hv.int_inv
    obtain ⟨d1, hu1, _⟩ := (G.hT _ _ h1).und
    obtain ⟨d2, hu2, hd2⟩ := (G.hT _ _ h2).und
    cases hd2
    exact ⟨.int k (k.wrap n), fun w' _ => by simp [convert, wf_und hu1, wf_und hu2, Conv.intToInt, Result.andThen], .imm (.int _ _)⟩
  · rename_i ts _ _ _ s h1 h2
    cases h
    obtain rfl := hv.str_inv
    obtain ⟨d1, hu1, _⟩ := (G.hT _ _ h1).und
    obtain ⟨d2, hu2, hd2⟩ := (G.hT _ _ h2).und
    cases hd2
    exact ⟨.string s, fun w' _ => by simp [convert, wf_und hu1, wf_und hu2, Result.andThen], .imm (.str _)⟩
  · cases h

def amkiface (G : Prg) (t : TypeId) (x : PV) : Option PV :=
  match G.T t with
  | some ⟨.iface, _, _, _⟩ | some ⟨.other, _, _, _⟩ => none
  | some _ => some (.iface t x)
  | none => none
theorem amkiface_ok {G : Prg} {E : Env} {w : World} {t : TypeId} {x z : PV} {v : Value} (h : amkiface G t x = some z) (hv : VRep E w x v) : ∃ r, (∀ w', Gr w w' → (Instr.makeInterface t v).run G.P w' = .ok r w') ∧ VRep E w z r := by
  unfold amkiface at h
  split at h
  · cases h
  · cases h
  · rename_i td h1 h2 hT
    cases h
    obtain ⟨d, hu, hd⟩ := (G.hT _ _ hT).und
    refine ⟨.iface t v, fun w' _ => ?_, .iface t hv⟩
    simp only [Instr.makeInterface, Sem.run_bind, wf_und hu, Result.andThen]
    cases d <;> first | rfl | skip
    obtain ⟨k, a, b, c⟩ := td
    cases k <;> simp [TK.ok] at hd
    · exact absurd rfl (h1 _ _ _)
    · exact absurd rfl (h2 _ _ _)
  · cases h

def alen (G : Prg) (t : TypeId) (x : PV) : Option PV :=
  match G.T t, x with
  | some ⟨.str, _, _, _⟩, .str s => some (.int .i64 s.size)
  | some ⟨.slice _, _, _, _⟩, .slice n _ => some (.int .i64 n)
  | some ⟨.slice _, _, _, _⟩, .own _ n => some (.int .i64 n)
  | some ⟨.slice _, _, _, _⟩, .bsl _ n _ => some (.int .i64 n)
  | some ⟨.slice _, _, _, _⟩, .nil => some (.int .i64 0)
  | _, _ => none
theorem alen_ok {G : Prg} {E : Env} {w : World} {t ty : TypeId} {x z : PV} {v : Value} (h : alen G t x = some z) (hv : VRep E w x v) : ∃ r, (∀ w', Gr w w' → (Builtin.len_ #[t] ty #[v]).run G.P w' = .ok r w') ∧ VRep E w z r := by
  unfold alen at h
  split at h <;> first | (cases h; done) | skip
  all_goals
    cases h
    rename_i hT
    obtain ⟨d, hu, hd⟩ := (G.hT _ _ hT).und
    cases hd
  · obtain rfl := hv.str_inv
    exact ⟨.int .i64 _, fun w' _ => by simp [Builtin.len_, wf_und hu, Result.andThen, goInt], .imm (.int _ _)⟩
  · rcases hv.slice_inv with ⟨rfl, hn, _⟩ | ⟨a, c, vs, rfl, _⟩
    · subst hn; exact ⟨.int .i64 0, fun w' _ => by simp [Builtin.len_, wf_und hu, Result.andThen, goInt], .imm (.int _ _)⟩
    · exact ⟨.int .i64 _, fun w' _ => by simp [Builtin.len_, wf_und hu, Result.andThen, goInt], .imm (.int _ _)⟩
  · obtain ⟨_, _, A, c, rfl⟩ := hv.own_inv
    exact ⟨.int .i64 _, fun w' _ => by simp [Builtin.len_, wf_und hu, Result.andThen, goInt], .imm (.int _ _)⟩
  · obtain ⟨rfl, _, _⟩ := hv.bsl_inv
    exact ⟨.int .i64 _, fun w' _ => by simp [Builtin.len_, wf_und hu, Result.andThen, goInt], .imm (.int _ _)⟩
  · obtain rfl := hv.nil_inv
    exact ⟨.int .i64 0, fun w' _ => by simp [Builtin.len_, wf_und hu, Result.andThen, goInt], .imm (.int _ _)⟩

/-- 'x[lo:hi]'. -/
def bound (d : Nat) : Option PV → Option Int
  | none => some d
  | some (.int _ i) => some i
  | _ => none
def aslice (G : Prg) (t : TypeId) (x : PV) (lo hi : Option PV) : Option PV :=
  match G.T t, x with
  | some ⟨.str, _, _, _⟩, .str s => match bound 0 lo, bound s.size hi with
    | some l, some h => if 0 ≤ l ∧ l ≤ h ∧ h ≤ (s.size : Int) then some (.str (s.extract l.toNat h.toNat)) else none
    | _, _ => none
  | some ⟨.slice e, _, _, _⟩, .slice n cs => match G.T e, bound 0 lo, bound n hi with
    | some td, some l, some h => if 0 ≤ l ∧ l ≤ h ∧ h ≤ (n : Int) ∧ cs.length = n * td.size then some (.slice (h.toNat - l.toNat) ((cs.drop (l.toNat * td.size)).take ((h.toNat - l.toNat) * td.size))) else none
    | _, _, _ => none
  | _, _ => none
def OReps (E : Env) (w : World) : Option PV → Option Value → Prop
  | none, none => True
  | some x, some v => VRep E w x v
  | _, _ => False
theorem bound_ok {P : Program} {E : Env} {w w' : World} {d y : Nat} {o : Option PV} {v : Option Value} {code : BoundsCode} {i : Int} (h : bound d o = some i) (hv : OReps E w o v) (h0 : 0 ≤ i) (h1 : i ≤ y) :
    ((match v with | some v => Instr.sliceBound v y code | none => pure d : Sem Nat)).run P w' = .ok i.toNat w' := by
  unfold bound at h
  split at h <;> cases h
  · cases v with
    | none => simp
    | some v => exact hv.elim
  · cases v with
    | none => exact hv.elim
    | some v =>
      obtain rfl := VRep.int_inv hv
      simp [Instr.sliceBound, asIntOf, h0, h1]
theorem bounds_ok {P : Program} {E : Env} {w w' : World} {b : Bool} {n c : Nat} {lo hi : Option PV} {vl vh : Option Value} {l h : Int} (hl : bound 0 lo = some l) (hh : bound n hi = some h) (hvl : OReps E w lo vl) (hvh : OReps E w hi vh)
    (h0 : 0 ≤ l) (h1 : l ≤ h) (h2 : h ≤ (c : Int)) : (Instr.sliceBounds b n c vl vh none).run P w' = .ok (l.toNat, h.toNat, c) w' := by
  have a1 := bound_ok (P := P) (w' := w') (y := c) (code := if b then .sliceAcap else .sliceAlen) hh hvh (by omega) h2
  have a2 := bound_ok (P := P) (w' := w') (y := h.toNat) (code := .sliceB) hl hvl h0 (by omega)
  unfold Instr.sliceBounds
  simp only [Sem.run_bind, Sem.run_pure, Result.andThen]
  cases vh with
  | none =>
    simp only [Sem.run_pure] at a1
    injection a1 with a1
    simp only [Sem.run_bind, Sem.run_pure, Result.andThen, a1]
    cases vl with
    | none => simp only [Sem.run_pure] at a2; injection a2 with a2; simp [← a2]
    | some v => simp only [Option.isSome_none, Bool.false_eq_true, if_false]; simp only [] at a2; simp [a2, Result.andThen]
  | some u =>
    simp only [] at a1 ⊢
    simp only [Sem.run_bind, a1, Result.andThen]
    cases vl with
    | none => simp only [Sem.run_pure] at a2; injection a2 with a2; simp [← a2]
    | some v => simp only [Option.isSome_none, Bool.false_eq_true, if_false]; simp only [] at a2; simp [a2, Result.andThen]
theorem aslice_ok {G : Prg} {E : Env} {w : World} {t : TypeId} {x z : PV} {lo hi : Option PV} {v : Value} {vl vh : Option Value} (h : aslice G t x lo hi = some z) (hv : VRep E w x v) (hvl : OReps E w lo vl) (hvh : OReps E w hi vh) :
    ∃ r, (∀ w', Gr w w' → (Instr.sliceAt t v vl vh none).run G.P w' = .ok r w') ∧ VRep E w z r := by
  unfold aslice at h
  split at h
  · rename_i sz by_ ze s hT
    obtain ⟨d, hu, hd⟩ := (G.hT _ _ hT).und
    cases hd
    obtain rfl := hv.str_inv
    split at h
    · rename_i l hb e1 e2
      split at h
      · rename_i hc
        cases h
        have hb' := fun w' => bounds_ok (P := G.P) (w' := w') (b := false) (c := s.size) e1 e2 hvl hvh hc.1 hc.2.1 hc.2.2
        exact ⟨.string (s.extract l.toNat hb.toNat), fun w' _ => by
          simp only [Instr.sliceAt, Instr.slice, Sem.run_bind, wf_und hu, Result.andThen, Option.isSome_none, Bool.false_eq_true, if_false, Sem.run_pure]
          rw [hb'], .imm (.str _)⟩
      · cases h
    · cases h
  · rename_i e sz by_ ze n cs hT
    obtain ⟨d, hu, hd⟩ := (G.hT _ _ hT).und
    cases hd
    split at h
    · rename_i td l hb hT2 e1 e2
      split at h
      · rename_i hc
        cases h
        have hs := wf_size (G.hT _ _ hT2)
        rcases hv.slice_inv with ⟨rfl, hn, rfl⟩ | ⟨a, c, vs, rfl, hnc, hbl, hcell, hr, hone⟩
        · subst hn
          have hb' := fun w' => bounds_ok (P := G.P) (w' := w') (b := true) (c := 0) e1 e2 hvl hvh hc.1 hc.2.1 (by omega)
          have hl0 : l.toNat = 0 := by omega
          have hh0 : hb.toNat = 0 := by omega
          refine ⟨.slice none 0 0, fun w' _ => ?_, ?_⟩
          · simp only [Instr.sliceAt, Instr.slice, Sem.run_bind, wf_und hu, Result.andThen]
            rw [hb']
            simp [hs, hl0, hh0]
          · rw [hl0, hh0]; simpa using VRep.imm IRep.slice0
        · have hb' := fun w' => bounds_ok (P := G.P) (w' := w') (b := true) (c := c) e1 e2 hvl hvh hc.1 hc.2.1 (by omega)
          have hd := (hr.drop (l.toNat * td.size)).take ((hb.toNat - l.toNat) * td.size)
          refine ⟨.slice (some (if c = l.toNat then a else a.add (l.toNat * td.size))) (hb.toNat - l.toNat) (c - l.toNat), fun w' _ => ?_, ?_⟩
          · simp only [Instr.sliceAt, Instr.slice, Sem.run_bind, wf_und hu, Result.andThen]
            rw [hb']
            simp only [hs, Sem.run_pure]
            split <;> rfl
          · refine .imm (.slice (by omega) hd.1 (fun hp => ?_) (fun j u hj => ?_) (fun u hu => hone u (List.mem_of_mem_drop (List.mem_of_mem_take hu))) hd.2)
            · have : 0 < vs.length := by simp at hp; omega
              split
              · exact hbl this
              · rw [block_of_add]; exact hbl this
            · rw [List.getElem?_take] at hj
              split at hj
              · rename_i hlt
                rw [List.getElem?_drop] at hj
                rw [if_neg (by
                  intro hcl
                  have : hb.toNat - l.toNat = 0 := by omega
                  rw [this, Nat.zero_mul] at hlt
                  omega), add_of_add]
                exact hcell _ u hj
              · cases hj
      · cases h
    · cases h
  · cases h
end Go.AS
