/- Abstract states (own engine), part C: types, states, the operations that only compute. -/
import Derived.Test.YteimebpgmfhgjaaDoorEngB
namespace Go.AS
open Go.RowKit
set_option linter.unusedVariables false

inductive TK where
  | int (k : IntKind)
  | bool
  | str
  | slice (e : TypeId)
  | ptr (e : TypeId)
  | struct (fs : List (Nat × TypeId))
  | array (n : Nat) (e : TypeId)
  | iface
  | func
  | other
structure TD where
  k : TK
  size : Nat
  bytes : Nat
  zero : List PV

def TK.agg : TK → Bool
  | .struct _ | .array _ _ => true
  | _ => false
def TK.ok : TK → TypeDesc → Prop
  | .int k, d => d = .int k
  | .bool, d => d = .bool
  | .str, d => d = .string
  | .slice e, d => d = .slice e
  | .ptr e, d => d = .pointer e
  | .struct fs, d => ∃ F, d = .struct F ∧ F.toList.map (fun f => (f.offset, f.type)) = fs
  | .array n e, d => d = .array n e
  | .iface, d => ∃ ms, d = .interface ms
  | .func, d => ∃ a b c, d = .func a b c
  | .other, d => (match d with | .struct _ | .array _ _ => true | _ => false) = false

/-- A constant's cell. -/
def cellOf : Value → PV
  | .int k n => .int k n
  | .bool b => .bool b
  | .string s => .str s
  | .pointer none => .nilptr
  | .slice none 0 0 => .nil
  | .nilFunc => .nilfunc
  | .nilIface => .niliface
  | .func fn ⟨[]⟩ ⟨[]⟩ => .func fn []
  | _ => .junk
theorem cellOf_rep {E : Env} {w : World} (v : Value) : VRep E w (cellOf v) v := by
  unfold cellOf
  split <;> first | exact .junk _ | (refine .imm ?_; constructor)
theorem cellOf_irep {im : Nat → Prop} {w : World} (v : Value) (h : (cellOf v).one = true) : IRep im w (cellOf v) v := by
  revert h
  unfold cellOf
  split <;> intro h <;> first | (constructor; done) | (simp [PV.one] at h)
theorem cellsOf_rep {E : Env} {w : World} (vs : List Value) : VReps E w (vs.map cellOf) vs :=
  ⟨by simp, fun j x v hx hv => by
    rw [List.getElem?_map, hv] at hx
    cases hx
    exact cellOf_rep v⟩
def constOf : Value → PV
  | .agg cs => .agg (cs.toList.map cellOf)
  | .tuple ⟨[]⟩ => .tup []
  | .iface t (.agg cs) => .iface t (.agg (cs.toList.map cellOf))
  | .iface t v => .iface t (cellOf v)
  | v => cellOf v
theorem constOf_rep {E : Env} {w : World} (v : Value) : VRep E w (constOf v) v := by
  unfold constOf
  split
  · exact (cellsOf_rep _).agg
  · exact .tup rfl (fun j x v h => by simp at h)
  · exact .iface _ (cellsOf_rep _).agg
  · exact .iface _ (cellOf_rep _)
  · exact cellOf_rep _

structure TD.ok (P : Program) (t : TypeId) (td : TD) : Prop where
  und : ∃ d, P.underlying t = some d ∧ td.k.ok d
  info : ∃ i z, P.info? t = some i ∧ i.size = td.size ∧ i.bytes = td.bytes ∧ i.zero = some z ∧ z.cells.toList.map cellOf = td.zero

structure Prg where
  P : Program
  T : TypeId → Option TD
  hT : ∀ t td, T t = some td → td.ok P t
  Γ : Glob
  mo : P.follows .mixedOrders = true

structure AS where
  t : List (Nat × PV)
  h : Hp
  deriving Inhabited
/-- What was there is as it was. -/
def Gr (w w' : World) : Prop := ∀ k, k < w.heap.size → w'.heap[k]? = w.heap[k]?
theorem Gr.refl (w : World) : Gr w w := fun _ _ => rfl
theorem Gr.cell {w w' : World} (h : Gr w w') {a : Addr} {v : Value} (hc : w.cell? a = some v) : w'.cell? a = some v :=
  (World.cell?_of_block (h _ (World.block_lt_of_cell? w _ hc))).trans hc
def lk : List (Nat × PV) → Nat → PV
  | [], _ => .junk
  | (i, x) :: r, s => if i = s then x else lk r s
def AS.put (st : AS) (dst : Option Tmp) (x : PV) : AS := match dst with
  | some d => { st with t := (d, x) :: st.t }
  | none => st
def AS.ev (Γ : Glob) (st : AS) : Operand → PV
  | .tmp t => lk st.t t
  | .const v => constOf v
  | .global g => match Γ g with
    | some cs => .epos cs
    | none => .junk
  | .func f => .func (.func f) []

def FRep (E : Env) (w : World) (t : List (Nat × PV)) (tmps : Array Value) : Prop := ∀ s, VRep E w (lk t s) (tmps.getD s undef)
theorem FRep.put {E : Env} {w : World} {t : List (Nat × PV)} {tmps : Array Value} (h : FRep E w t tmps) {d : Nat} {x : PV} {v : Value} (hd : d < tmps.size) (hx : VRep E w x v) : FRep E w ((d, x) :: t) (tmps.setIfInBounds d v) := by
  intro s
  simp only [lk]
  by_cases hs : d = s
  · subst hs
    rw [if_pos rfl]
    simpa [Array.getD, hd] using hx
  · rw [if_neg hs]
    have : (tmps.setIfInBounds d v).getD s undef = tmps.getD s undef := by
      simp [Array.getD_eq_getD_getElem?, hs]
    rw [this]; exact h s
theorem FRep.move {E E' : Env} {w w' : World} {t : List (Nat × PV)} {tmps : Array Value} (h : FRep E w t tmps) (mv : ∀ x v, VRep E w x v → VRep E' w' x v) : FRep E' w' t tmps := fun s => mv _ _ (h s)
theorem ev_rep {Γ : Glob} {E : Env} {w : World} {st : AS} {a : Act} (hf : FRep E w st.t a.tmps) (hh : HRep Γ E w st.h) (x : Operand) : VRep E w (st.ev Γ x) (a.eval x) := by
  cases x with
  | tmp s => exact hf s
  | const v => exact constOf_rep v
  | global g =>
    simp only [AS.ev, Act.eval]
    cases hg : Γ g with
    | none => exact .junk _
    | some cs => exact .imm (hh.gl g cs hg)
  | func f => exact .imm (.func _)

/-! ### Operations that only compute -/
def bt (s : ByteArray) (i : Int) : Int := if h : i.toNat < s.size then ((s[i.toNat]'h).toNat : Int) else 0
def abin : BinOp → PV → PV → Option PV
  | .add, .int k a, .int j b => if k = j then some (.int k (k.wrap (a + b))) else none
  | .sub, .int k a, .int j b => if k = j then some (.int k (k.wrap (a - b))) else none
  | .mul, .int k a, .int j b => if k = j then some (.int k (k.wrap (a * b))) else none
  | .quo, .int k a, .int j b => if k = j then (if b = 0 then none else some (.int k (k.wrap (a.tdiv b)))) else none
  | .rem, .int k a, .int j b => if k = j then (if b = 0 then none else some (.int k (a.tmod b))) else none
  | .eql, .int k a, .int j b => if k = j then some (.bool (a == b)) else none
  | .neq, .int k a, .int j b => if k = j then some (.bool (a != b)) else none
  | .lss, .int k a, .int j b => if k = j then some (.bool (decide (a < b))) else none
  | .leq, .int k a, .int j b => if k = j then some (.bool (decide (a ≤ b))) else none
  | .gtr, .int k a, .int j b => if k = j then some (.bool (decide (b < a))) else none
  | .geq, .int k a, .int j b => if k = j then some (.bool (decide (b ≤ a))) else none
  | .add, .str a, .str b => if a.size + b.size ≤ 9223372036854775807 then some (.str (a ++ b)) else none
  | .eql, .str a, .str b => some (.bool (a.toList == b.toList))
  | .neq, .str a, .str b => some (.bool (!(a.toList == b.toList)))
  | _, _, _ => none
theorem abin_ok {P : Program} {E : Env} {w : World} {op : BinOp} {x y z : PV} {u v : Value} (h : abin op x y = some z) (hx : VRep E w x u) (hy : VRep E w y v) (t : TypeId) (p q : Operand) :
    ∃ r, (∀ w', Gr w w' → (do eqGuard op t p q u v; binOp op t u v : Sem Value).run P w' = .ok r w') ∧ VRep E w z r := by
  unfold abin at h
  split at h <;> first | (cases h; done) | skip
  all_goals first
    | (obtain rfl := hx.int_inv; obtain rfl := hy.int_inv
       split at h <;> first | (cases h; done) | skip
       rename_i hk; subst hk)
    | (obtain rfl := hx.str_inv; obtain rfl := hy.str_inv)
  all_goals first
    | (cases h; exact ⟨_, fun w' _ => by simp [go_sem, Op.intArith]; rfl, .imm (by constructor)⟩)
    | (split at h <;> first | (cases h; done) | skip
       cases h
       rename_i hb
       exact ⟨_, fun w' _ => by simp [go_sem, Op.intDiv, hb]; rfl, .imm (by constructor)⟩)
    | skip
  rename_i a b
  split at h <;> first | (cases h; done) | skip
  rename_i hb
  cases h
  have hm : ¬ (((a.size + b.size : Nat) : Int) > IntKind.i64.max) := by
    have : IntKind.i64.max = 9223372036854775807 := by decide
    omega
  exact ⟨.string (a ++ b), fun w' _ => by simp only [eqGuard_add, Sem.run_bind, Sem.run_pure, Result.andThen, binOp, Op.stringOp]; rw [if_neg hm]; rfl, .imm (.str _)⟩

theorem wf_field {P : Program} {t : TypeId} {td : TD} (h : td.ok P t) {fs : List (Nat × TypeId)} (hk : td.k = .struct fs) : ∃ F, P.underlying t = some (.struct F) ∧ F.toList.map (fun f => (f.offset, f.type)) = fs := by
  obtain ⟨d, hd, ho⟩ := h.und
  rw [hk] at ho
  obtain ⟨F, rfl, hF⟩ := ho
  exact ⟨F, hd, hF⟩
theorem wf_size {P : Program} {t : TypeId} {td : TD} (h : td.ok P t) (w : World) : (sizeOf t).run P w = .ok td.size w := by
  obtain ⟨i, z, hi, hs, _⟩ := h.info
  simp [sizeOf, typeInfo, hi, hs]
theorem wf_und {P : Program} {t : TypeId} {d : TypeDesc} (h : P.underlying t = some d) (w : World) : (underlying t).run P w = .ok d w := run_underlying h w
theorem wf_agg {P : Program} {t : TypeId} {td : TD} (h : td.ok P t) (w : World) : (isAgg t).run P w = .ok td.k.agg w := by
  obtain ⟨d, hd, ho⟩ := h.und
  unfold isAgg
  simp only [Sem.run_bind, wf_und hd, Result.andThen]
  cases hk : td.k <;> rw [hk] at ho <;> simp only [TK.ok] at ho <;> simp only [TK.agg]
  case other => cases d <;> first | rfl | simp at ho
  case struct => obtain ⟨F, rfl, _⟩ := ho; rfl
  case iface => obtain ⟨_, rfl⟩ := ho; rfl
  case func => obtain ⟨_, _, _, rfl⟩ := ho; rfl
  all_goals (subst ho; rfl)
/-- A variable of cells that are known. -/
theorem wf_load {P : Program} {t : TypeId} {td : TD} (h : td.ok P t) {w : World} {a : Addr} {vs : List Value} (hc : ∀ j v, vs[j]? = some v → w.cell? (a.add j) = some v) (hs : td.size ≤ vs.length) (h1 : td.k.agg = false → td.size = 1) :
    (loadVar t a).run P w = .ok (if td.k.agg then .agg (vs.take td.size).toArray else vs.headD undef) w := by
  unfold loadVar
  simp only [Sem.run_bind, wf_agg h, Result.andThen]
  cases hk : td.k.agg with
  | true =>
    simp only [if_true, Sem.run_bind, wf_size h, Result.andThen]
    have hl : (vs.take td.size).length = td.size := by simp; omega
    have hr := run_loadCells_list (P := P) w a (vs.take td.size) (fun j v hv => hc j v (by
      rw [List.getElem?_take] at hv
      split at hv
      · exact hv
      · cases hv))
    rw [hl] at hr
    rw [hr]
    rfl
  | false =>
    have h1' := h1 hk
    cases vs with
    | nil => simp at hs; omega
    | cons v r =>
      have := hc 0 v rfl
      simp only [Addr.add, if_true] at this
      simp [this]

/-- The cells behind an address. -/
def AS.cellsAt (st : AS) : PV → Option (List PV)
  | .ptr b o => match st.h.bx[b]? with
    | some x => some (x.cs.drop o)
    | none => none
  | .epos cs => some cs
  | .rpos r o => match st.h.rw[r]? with
    | some (some x) => some (x.cs.drop o)
    | _ => none
  | _ => none
theorem cell_of_blk {w : World} {g o : Nat} {vs : List Value} {t : TypeId} {fz : Nat × Nat} (h : w.heap[g]? = some (.cells vs.toArray t fz)) (j : Nat) : w.cell? ((⟨g, o, none⟩ : Addr).add j) = vs[o + j]? := by
  rw [add_none]
  simp [World.cell?, h]
theorem cellsAt_ok {Γ : Glob} {E : Env} {w : World} {st : AS} (hh : HRep Γ E w st.h) {x : PV} {cs : List PV} (h : st.cellsAt x = some cs) {v : Value} (hv : VRep E w x v) (hne : 0 < cs.length) :
    ∃ a vs, v = .pointer (some a) ∧ (∀ (j : Nat) (u : Value), vs[j]? = some u → w.cell? (a.add j) = some u) ∧ VReps E w cs vs := by
  unfold AS.cellsAt at h
  split at h
  · rename_i b o
    split at h
    · rename_i x hx
      cases h
      obtain ⟨rfl, hb⟩ := hv.ptr_inv
      obtain ⟨vs, hw, hr⟩ := hh.box b x hx
      exact ⟨_, vs.drop o, rfl, fun j u hu => by rw [cell_of_blk hw, ← List.getElem?_drop]; exact hu, hr.drop o⟩
    · cases h
  · cases h
    obtain ⟨a, vs, rfl, _, hc, hr⟩ := hv.epos_inv
    exact ⟨a, vs, rfl, hc, hr.v⟩
  · rename_i r o
    split at h
    · rename_i x hx
      cases h
      obtain ⟨hr', a, m, c, hρ, rfl⟩ := hv.rpos_inv
      obtain ⟨xs, ho, hx', _⟩ := hh.row r x hx
      rw [hρ] at ho
      obtain ⟨hl, hz | ⟨g, cap, cur, he, _, hg, _, _, _, ht⟩⟩ := ho
      · simp at hz
      · cases he
        refine ⟨_, xs.drop o, rfl, fun j u hu => ?_, hx'.v.drop o⟩
        rw [add_of_add]
        have hu' : xs[o + j]? = some u := by rw [← List.getElem?_drop]; exact hu
        rw [← ht, List.getElem?_take] at hu'
        split at hu'
        · rw [cell_of_blk (vs := cur.toList) (by simpa using hg)]; simpa using hu'
        · cases hu'
    · cases h
  · cases h

def aload (G : Prg) (st : AS) (t : TypeId) (x : PV) : Option PV :=
  match G.T t, st.cellsAt x with
  | some td, some cs => if td.size ≤ cs.length ∧ 0 < td.size then (if td.k.agg then some (.agg (cs.take td.size)) else if td.size = 1 then some (cs.headD .junk) else none) else none
  | _, _ => none
theorem aload_ok {G : Prg} {E : Env} {w : World} {st : AS} (hh : HRep G.Γ E w st.h) {t : TypeId} {x z : PV} (h : aload G st t x = some z) {v : Value} (hv : VRep E w x v) :
    ∃ r, (∀ w', Gr w w' → (Instr.loadAt t v).run G.P w' = .ok r w') ∧ VRep E w z r := by
  unfold aload at h
  split at h
  · rename_i td cs hT hcs
    split at h
    · rename_i hsz
      obtain ⟨a, vs, rfl, hc, hr⟩ := cellsAt_ok hh hcs hv (by omega)
      have hok := G.hT t td hT
      have hlen := hr.1
      by_cases hk : td.k.agg = true
      · rw [if_pos hk] at h
        cases h
        refine ⟨.agg (vs.take td.size).toArray, fun w' hg => ?_, (hr.take td.size).agg⟩
        simp only [Instr.loadAt, Instr.sureAddr, Sem.run_bind, Sem.run_pure, Result.andThen]
        rw [wf_load hok (fun j u hu => hg.cell (hc j u hu)) (by omega) (fun h => by rw [h] at hk; cases hk), if_pos hk]
      · rw [if_neg hk] at h
        split at h
        · rename_i h1
          cases h
          cases cs with
          | nil => simp at hsz; omega
          | cons y ys =>
            obtain ⟨u, us, rfl, hu, _⟩ := hr.cons_inv
            refine ⟨u, fun w' hg => ?_, hu⟩
            simp only [Instr.loadAt, Instr.sureAddr, Sem.run_bind, Sem.run_pure, Result.andThen]
            rw [wf_load hok (fun j u hu => hg.cell (hc j u hu)) (by simp; omega) (fun _ => h1), if_neg hk]
            rfl
        · cases h
    · cases h
  · cases h
end Go.AS
