/- Abstract states (own engine), part T: runs of a piece of code, between states of a few slots. -/
import Derived.Test.YteimebpgmfhgjaaDoorEngR
namespace Go.AS
open Go.RowKit
set_option linter.unusedVariables false
set_option linter.unusedSimpArgs false

section
variable {G : Prg} {C : Ctx} {Q : AEx → AS → Prop} {st : AS} {n : AS → Prop} {xs : List (Nat × (AS → Prop))} {r : AS → Prop} {p : PV → AS → Prop}
/-- What a run of code ends with: how, these slots, the heap, what is taken for true. -/
noncomputable def runP (S : Cfg G) (k nt : Nat) (c : Code) (st : AS) (sl : List Nat) : Option (AEx × AS × Ob) := match run S k (.code nt c st) with
  | some (e, s, o) => some (e, nrm sl s, o)
  | none => none
theorem SWP.runQ {c : Code} (S : Cfg G) (k nt : Nat) (hnt : C.nt = nt) (sl : List Nat) {e : AEx} {z : AS} {o : Ob} (h : runP S k nt c st sl = some (e, z, o)) (ho : okO o) (hK : ∀ s, nrm sl s = z → Q e s) : SWP G C c Q st := by
  unfold runP at h
  split at h
  · rename_i e' s' o' hr
    cases h
    obtain ⟨_, h2, _⟩ := run_ok S k _ _ _ _ hr ho
    exact (h2 C hnt).mono (At.mono (hK _ rfl))
  · cases h
/-- A run, and what comes behind. -/
theorem Q.runSeq {c d : Code} (S : Cfg G) (k nt : Nat) (hnt : C.nt = nt) (sl : List Nat) {z : AS} {o : Ob} (h : runP S k nt c st sl = some (.normal, z, o)) (ho : okO o) (hd : SWP G C d (QT n xs r p) z) : SWP G C (.seq c d) (QT n xs r p) st :=
  Q.seq fun K hK => .runQ S k nt hnt sl h ho fun s hs => hK s (.norm sl (by rw [hs]; exact hd))
/-- A loop: its head's states are T x. -/
theorem Q.loopI {c : Code} {σ : Type} (sl : List Nat) (T : σ → AS) (μ : σ → Nat) (x : σ) (h0 : nrm sl st = T x)
    (hr : ∀ x, SWP G C c (QT (fun s => ∃ y, μ y < μ x ∧ nrm sl s = T y) xs r p) (T x)) : SWP G C (.loop c) (QT n xs r p) st :=
  Q.loop (fun x s => nrm sl s = T x) μ x h0 fun x s hs K hK => .norm sl (by
    rw [hs]
    refine (hr x).mono fun e s' q => ?_
    cases e with
    | normal => obtain ⟨y, h1, h2⟩ := q; exact hK y s' h2 h1
    | exit i => exact q
    | ret => exact q
    | panic x => exact q)
theorem Fn.enterN {f : FuncId} {fn : Func} {c : Code} {args : List PV} {bx : List Box} {R : Out → List Box → Prop} {k : Nat} (hf : G.P.funcs[f]? = some fn) (hk : fn.ntmps = k) (hb : fn.body = some c) (hn : args.length ≤ k)
    (h : ∀ (C : Ctx) (fr : AS → Prop) (fp : PV → AS → Prop), C.nt = k → PanT fp → (∀ s sl, FinR G fn bx.length R (nrm sl s) → fr s) → (∀ x s, FinP bx.length R x s → fp x s) → SWP G C c (QT fr [] fr fp) ⟨enum 0 args, ⟨bx, []⟩⟩) : PCalls G f args bx R :=
  .of_swp hf hb (by rw [hk]; exact hn) fun w0 E0 => .normQ (by
    refine (h _ (fun s => ∃ sl, FinR G fn bx.length R (nrm sl s)) (FinP bx.length R) hk (FinP.panT _ _) (fun s sl h => ⟨sl, h⟩) (fun _ _ h => h)).mono fun e s q => ?_
    rw [Q.fin]
    cases e with
    | normal => exact q
    | exit i => exact q.elim
    | ret => exact q
    | panic x => exact ⟨[], q⟩)
end
end Go.AS
