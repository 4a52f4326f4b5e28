/- Abstract states (own engine), part L: operations without what the walk doesn't look at; runs that are computed. -/
import Derived.Test.YteimebpgmfhgjaaDoorEngK
namespace Go.AS
open Go.RowKit
set_option linter.unusedVariables false
set_option linter.unusedSimpArgs false

/-- An operation: where it writes, what it is, the slot of its guard. -/
structure SO where
  dst : Option Tmp
  op : Op
  guard : Option (Option Tmp × Bool)
def SO.of (ops : List Oper) (o : Oper) : SO := ⟨o.dst, o.op, match o.guard with
  | some (j, b) => some ((ops[j]?).bind (·.dst), b)
  | none => none⟩
def strip (ops all : List Oper) : List SO := match ops with
  | [] => []
  | o :: r => SO.of all o :: strip r all

section
variable {G : Prg} {C : Ctx} {Q : AEx → AS → Prop} {K : AS → Prop} {st : AS}
/-- Operations in a row, wherever they stand. -/
def SRun (G : Prg) (C : Ctx) (Q : AEx → AS → Prop) (l : List SO) (st : AS) : Prop := ∀ (ops : Array Oper) (os : List Oper), strip os ops.toList = l → SOps G C ops Q os st
/-- One operation, wherever it stands. -/
def SOne (G : Prg) (C : Ctx) (d : Option Tmp) (op : Op) (Q : AEx → AS → Prop) (K : AS → Prop) (st : AS) : Prop := ∀ o : Oper, o.dst = d → o.op = op → SOp G C o Q K st
theorem SWP.plain {id : Nat} {ops : Array Oper} {l : List SO} (hl : strip ops.toList ops.toList = l) (h : SRun G C Q l st) : SWP G C (.region id ops false) Q st := .region (h ops _ hl)
theorem SRun.nil (h : Q .normal st) : SRun G C Q [] st := fun ops os ho => by
  cases os with
  | nil => exact .nil h
  | cons o os => cases ho
theorem SRun.cons {d : Option Tmp} {op : Op} {l : List SO} (h : SOne G C d op Q (SRun G C Q l) st) : SRun G C Q (⟨d, op, none⟩ :: l) st := fun ops os ho => by
  cases os with
  | nil => cases ho
  | cons o os =>
    simp only [strip, SO.of, List.cons.injEq, SO.mk.injEq] at ho
    obtain ⟨⟨h1, h2, h3⟩, h4⟩ := ho
    have hg : o.guard = none := by cases hg : o.guard with | none => rfl | some p => rw [hg] at h3; cases h3
    exact .cons hg fun E a w hr => Oper.wp_mono (fun a' w' ⟨s, E', k, r⟩ => ⟨s, E', k ops os h4, r⟩) (h o h1 h2 E a w hr)
theorem SRun.guard {d : Option Tmp} {op : Op} {l : List SO} {s : Tmp} {want b : Bool} (hb : lk st.t s = .bool b) (hd : dstOk C.nt d = true) (h1 : b = want → SOne G C d op Q (SRun G C Q l) st) (h2 : b = !want → SRun G C Q l (st.put d und)) :
    SRun G C Q (⟨d, op, some (some s, want)⟩ :: l) st := fun ops os ho => by
  cases os with
  | nil => cases ho
  | cons o os =>
    simp only [strip, SO.of, List.cons.injEq, SO.mk.injEq] at ho
    obtain ⟨⟨hd1, hop, h3⟩, h4⟩ := ho
    cases hg : o.guard with
    | none => rw [hg] at h3; cases h3
    | some p =>
      obtain ⟨j, w⟩ := p
      rw [hg] at h3
      simp only [Option.some.injEq, Prod.mk.injEq] at h3
      obtain ⟨h5, rfl⟩ := h3
      refine .guard hg (d := s) (by simpa using h5) hb (by rw [hd1]; exact hd) (fun hbw E a w hr => Oper.wp_mono (fun a' w' ⟨s, E', k, r⟩ => ⟨s, E', k ops os h4, r⟩) (h1 hbw o hd1 hop E a w hr)) (fun hbw => ?_)
      rw [hd1]
      exact h2 hbw ops os h4

theorem SRun.guardU {d : Option Tmp} {op : Op} {l : List SO} {s : Tmp} {want : Bool} (hb : lk st.t s = und) (hd : dstOk C.nt d = true) (h : SRun G C Q l (st.put d und)) :
    SRun G C Q (⟨d, op, some (some s, want)⟩ :: l) st := fun ops os ho => by
  cases os with
  | nil => cases ho
  | cons o os =>
    simp only [strip, SO.of, List.cons.injEq, SO.mk.injEq] at ho
    obtain ⟨⟨hd1, hop, h3⟩, h4⟩ := ho
    cases hg : o.guard with
    | none => rw [hg] at h3; cases h3
    | some p =>
      obtain ⟨j, w⟩ := p
      rw [hg] at h3
      simp only [Option.some.injEq, Prod.mk.injEq] at h3
      obtain ⟨h5, rfl⟩ := h3
      refine .guardU hg (d := s) (by simpa using h5) hb (by rw [hd1]; exact hd) ?_
      rw [hd1]
      exact h ops os h4
/-- The operations that need no thought: what the state is behind one. -/
def step1 (G : Prg) (n : Nat) (st : AS) (d : Option Tmp) : Op → Option AS
  | .box t x => match (st.ev G.Γ x).part, dstOk n d with
    | true, true => some (st.newBox (st.ev G.Γ x).cells t d)
    | _, _ => none
  | .alloc t => match G.T t, dstOk n d with
    | some td, true => some (st.newBox td.zero t d)
    | _, _ => none
  | .store t p v => match st.ev G.Γ p, d with
    | .ptr b k, none => match st.h.bx[b]?, G.T t with
      | some x, some td => if (st.ev G.Γ v).part = true ∧ allOne (st.ev G.Γ v).cells = true ∧ (st.ev G.Γ v).cells.length = td.size ∧ k + td.size ≤ x.cs.length then some (st.storeBox b k x (st.ev G.Γ v).cells) else none
      | _, _ => none
    | _, _ => none
  | op => match aval G st op, dstOk n d with
    | some x, true => some (st.put d x)
    | _, _ => none
theorem step1_ok {d : Option Tmp} {op : Op} {s : AS} (h : step1 G C.nt st d op = some s) (hK : K s) : SOne G C d op Q K st := fun o hd ho => by
  unfold step1 at h
  split at h
  · rename_i t x
    split at h
    · rename_i h1 h2
      cases h
      subst hd
      exact .box ho h1 h2 hK
    · cases h
  · rename_i t
    split at h
    · rename_i td h1 h2
      cases h
      subst hd
      exact .alloc ho h1 h2 hK
    · cases h
  · rename_i t p v
    split at h
    · rename_i b k hp
      split at h
      · rename_i x td hb ht
        split at h
        · rename_i hc
          cases h
          exact .store ho hd hp hb ht hc.1 hc.2.1 hc.2.2.1 hc.2.2.2 hK
        · cases h
      · cases h
    · cases h
  · split at h
    · rename_i x h1 h2
      cases h
      subst hd
      rw [← ho] at h1
      exact .val h1 h2 hK
    · cases h
theorem SRun.step {d : Option Tmp} {op : Op} {l : List SO} (s : AS) (h : step1 G C.nt st d op = some s) (hK : SRun G C Q l s) : SRun G C Q (⟨d, op, none⟩ :: l) st := .cons (step1_ok h hK)

end

theorem SRun.guardT {G : Prg} {C : Ctx} {Q : AEx → AS → Prop} {st : AS} {d : Option Tmp} {op : Op} {l : List SO} {s : Tmp} {want : Bool} (s' : AS) (hb : lk st.t s = .bool want) (hd : dstOk C.nt d = true) (h : step1 G C.nt st d op = some s') (hK : SRun G C Q l s') : SRun G C Q (⟨d, op, some (some s, want)⟩ :: l) st :=
  .guard hb hd (fun _ => step1_ok h hK) (fun h => by cases want <;> cases h)
theorem SRun.guardF {G : Prg} {C : Ctx} {Q : AEx → AS → Prop} {st : AS} {d : Option Tmp} {op : Op} {l : List SO} {s : Tmp} {want : Bool} (hb : lk st.t s = .bool !want) (hd : dstOk C.nt d = true) (hK : SRun G C Q l (st.put d und)) : SRun G C Q (⟨d, op, some (some s, want)⟩ :: l) st :=
  .guard hb hd (fun h => by cases want <;> cases h) (fun _ => hK)
/-- What is asked behind code: of its normal end, of each exit, of a return, of a panic. -/
def QT (n : AS → Prop) (xs : List (Nat × (AS → Prop))) (r : AS → Prop) (p : PV → AS → Prop) : AEx → AS → Prop
  | .normal, s => n s
  | .exit i, s => match xs.lookup i with
    | some k => k s
    | none => False
  | .ret, s => r s
  | .panic x, s => p x s
def PanT (p : PV → AS → Prop) : Prop := ∀ x s, p x s → p x { s with t := [] }
section
variable {G : Prg} {C : Ctx} {n : AS → Prop} {xs : List (Nat × (AS → Prop))} {r : AS → Prop} {p : PV → AS → Prop} {st : AS}
theorem PanT.q (h : PanT p) : PanicT (QT n xs r p) := h
theorem then_QT (K : AS → Prop) : thenQ K (QT n xs r p) = QT K xs r p := by
  funext e s
  cases e <;> rfl
theorem block_QT (id : Nat) : blockQ id (QT n xs r p) = QT n ((id, n) :: xs) r p := by
  funext e s
  cases e with
  | exit i =>
    simp only [blockQ, QT, List.lookup_cons]
    by_cases h : i = id
    · subst h; simp
    · have : (i == id) = false := by simpa using h
      simp only [h, this, if_false]
  | _ => rfl
theorem Q.seq {c d : Code} (h : ∀ K : AS → Prop, (∀ s, SWP G C d (QT n xs r p) s → K s) → SWP G C c (QT K xs r p) st) : SWP G C (.seq c d) (QT n xs r p) st :=
  .seq (by rw [then_QT]; exact h _ fun _ h => h)
theorem Q.block {id : Nat} {c : Code} (h : SWP G C c (QT n ((id, n) :: xs) r p) st) : SWP G C (.block id c) (QT n xs r p) st := .block (by rw [block_QT]; exact h)
theorem Q.skip (h : n st) : SWP G C .skip (QT n xs r p) st := .skip h
theorem Q.ret (h : r st) : SWP G C .ret (QT n xs r p) st := .ret h
theorem Q.exit {i : Nat} {k : AS → Prop} (hk : xs.lookup i = some k) (h : k st) : SWP G C (.exit i) (QT n xs r p) st := .exit (by simp only [QT, hk]; exact h)
theorem Q.cond {x : Operand} {c d : Code} {b : Bool} (hx : st.ev G.Γ x = .bool b) (ht : b = true → SWP G C c (QT n xs r p) st) (hf : b = false → SWP G C d (QT n xs r p) st) : SWP G C (.cond x c d) (QT n xs r p) st := .cond hx ht hf
theorem Q.loop {c : Code} {σ : Type} (I : σ → AS → Prop) (μ : σ → Nat) (x : σ) (h0 : I x st)
    (hr : ∀ x s, I x s → ∀ K : AS → Prop, (∀ y s', I y s' → μ y < μ x → K s') → SWP G C c (QT K xs r p) s) : SWP G C (.loop c) (QT n xs r p) st :=
  .loop I μ x h0 fun x s hI => by rw [then_QT]; exact hr x s hI _ fun y s' h1 h2 => ⟨y, h1, h2⟩
theorem Q.region {id : Nat} {ops : Array Oper} {l : List SO} (hl : strip ops.toList ops.toList = l) (h : SRun G C (QT n xs r p) l st) : SWP G C (.region id ops false) (QT n xs r p) st := .plain hl h
theorem Q.nil (h : n st) : SRun G C (QT n xs r p) [] st := .nil h

/-- A function's end. -/
def FinR (G : Prg) (fn : Func) (nb : Nat) (R : Out → List Box → Prop) (st : AS) : Prop := ∃ (m : Nat) (r : PV), nb ≤ m ∧ m ≤ st.h.bx.length ∧ aret G fn st = some r ∧ r.sc m = true ∧ ((st.h.bx.take m).all fun b => scL m b.cs) = true ∧ R (.ret r) (st.h.bx.take m)
def FinP (nb : Nat) (R : Out → List Box → Prop) (x : PV) (st : AS) : Prop := ∃ (m : Nat), nb ≤ m ∧ m ≤ st.h.bx.length ∧ x.sc m = true ∧ ((st.h.bx.take m).all fun b => scL m b.cs) = true ∧ R (.pan x) (st.h.bx.take m)
theorem Q.fin (G : Prg) (fn : Func) (nb : Nat) (R : Out → List Box → Prop) : Fin G fn nb R = QT (FinR G fn nb R) [] (FinR G fn nb R) (FinP nb R) := by
  funext e s
  cases e <;> rfl
theorem FinP.panT (nb : Nat) (R : Out → List Box → Prop) : PanT (FinP nb R) := fun x s h => h
theorem Fn.enter {f : FuncId} {fn : Func} {c : Code} {args : List PV} {bx : List Box} {R : Out → List Box → Prop} {k : Nat} (hf : G.P.funcs[f]? = some fn) (hk : fn.ntmps = k) (hb : fn.body = some c) (hn : args.length ≤ k)
    (h : ∀ (C : Ctx) (fr : AS → Prop) (fp : PV → AS → Prop), C.nt = k → PanT fp → (∀ s, FinR G fn bx.length R s → fr s) → (∀ x s, FinP bx.length R x s → fp x s) → SWP G C c (QT fr [] fr fp) ⟨enum 0 args, ⟨bx, []⟩⟩) : PCalls G f args bx R :=
  .of_swp hf hb (by rw [hk]; exact hn) fun w0 E0 => by rw [Q.fin]; exact h _ _ _ hk (FinP.panT _ _) (fun _ h => h) (fun _ _ h => h)
/-- A function that only computes: its end. -/
theorem FinR.pure {fn : Func} {R : PV → Prop} {s : AS} {r : PV} (hr : aret G fn s = some r) (hp : r.sc 0 = true) (h : R r) : FinR G fn ([] : List Box).length (fun o b => b = [] ∧ ∃ r, o = .ret r ∧ R r) s :=
  ⟨0, r, Nat.le_refl _, Nat.zero_le _, hr, hp, rfl, rfl, r, rfl, h⟩
end
attribute [push_cast] step1 aval AS.ev lk constOf cellOf dstOk AS.put AS.newBox AS.storeBox aeq abin aun aload AS.cellsAt aaddr afieldAddr afield aidx aindex aextract aconv amkiface alen amax amin PV.part PV.cells PV.one allOne splice strip SO.of enum
attribute [push_cast] aret AS.tmps PV.sc scL PV.pure pureL PV.kill killL killT killB PV.fz fzL fzT fzB AS.freeze AS.setRow AS.newRow AS.storeRow srcOf aslice bound abuild aplace afill abuildSlice TK.agg target
attribute [push_cast] List.lookup_cons List.getElem?_cons_zero List.getElem?_cons_succ List.length_cons List.length_nil List.drop_zero List.drop_succ_cons List.take_zero List.take_succ_cons List.set_cons_zero List.set_cons_succ List.map_cons List.map_nil List.append_nil List.nil_append List.cons_append List.headD_cons
attribute [push_cast] if_true if_false and_true true_and and_self Option.map_some Option.map_none Option.bind_some Option.bind_none beq_self_eq_true Option.some.injEq List.toList_toArray
end Go.AS
