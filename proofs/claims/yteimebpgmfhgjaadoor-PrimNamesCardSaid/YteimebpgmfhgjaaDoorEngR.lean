/- Abstract states (own engine), part R: steps of a walk by hand: every operation, calls by their laws. -/
import Derived.Test.YteimebpgmfhgjaaDoorEngQ
namespace Go.AS
open Go.RowKit
set_option linter.unusedVariables false
set_option linter.unusedSimpArgs false

def noRec : Rec := fun _ => none
theorem noRec_ok (G : Prg) : Snd G noRec := fun cmd e s o h => by cases h
section
variable {G : Prg} {C : Ctx} {Q : AEx → AS → Prop} {K : AS → Prop} {st : AS}
/-- Any operation but a call. -/
theorem SRun.op (S : Cfg G) {d : Option Tmp} {op : Op} {l : List SO} (row : Bool) (s : AS) (h : opStep S noRec C.nt d row false st op = some (s, [])) (hK : SRun G C Q l s) : SRun G C Q (⟨d, op, none⟩ :: l) st := .cons (opStep_ok (noRec_ok G) h (fun p hp => by cases hp) hK).1
theorem SRun.opO (S : Cfg G) {d : Option Tmp} {op : Op} {l : List SO} (row : Bool) (s : AS) (o : Ob) (h : opStep S noRec C.nt d row false st op = some (s, o)) (ho : okO o) (hK : SRun G C Q l s) : SRun G C Q (⟨d, op, none⟩ :: l) st := .cons (opStep_ok (noRec_ok G) h ho hK).1
theorem SRun.opT (S : Cfg G) {d : Option Tmp} {op : Op} {l : List SO} {t : Tmp} {want : Bool} (row : Bool) (s : AS) (hb : lk st.t t = .bool want) (hd : dstOk C.nt d = true) (h : opStep S noRec C.nt d row false st op = some (s, [])) (hK : SRun G C Q l s) : SRun G C Q (⟨d, op, some (some t, want)⟩ :: l) st :=
  .guard hb hd (fun _ => (opStep_ok (noRec_ok G) h (fun p hp => by cases hp) hK).1) (fun h => by cases want <;> cases h)
/-- A call that only computes, by its law. -/
theorem SOneG.callP (S : Cfg G) {d : Option Tmp} {c : Call} {f : Nat} {fn : Func} {args : List PV} {R : PV → Prop} (hc : Pure G f args R) (ht : target st G.Γ c = some (f, args)) (hF : S.F f = some fn) (hp : pureL args = true) (hd : dstOk C.nt d = true)
    (hK : ∀ r, R r → K (st.put d r)) : SOneG G C d (.call c) Q K st := fun o h1 h2 => by
  obtain ⟨a1, a2, a3⟩ := S.hF _ _ hF
  subst h1
  exact .call h2 ht a1 a2 a3 hp hd hc hK
theorem SRun.callP (S : Cfg G) {d : Option Tmp} {c : Call} {l : List SO} {f : Nat} {fn : Func} {args : List PV} {r : PV} (hc : Pure G f args (fun x => x = r)) (ht : target st G.Γ c = some (f, args)) (hF : S.F f = some fn) (hp : pureL args = true) (hd : dstOk C.nt d = true)
    (hK : SRun G C Q l (st.put d r)) : SRun G C Q (⟨d, .call c, none⟩ :: l) st := .cons (SOneG.callP S hc ht hF hp hd fun r' h => by rw [h]; exact hK).one
theorem SRun.callT (S : Cfg G) {d : Option Tmp} {c : Call} {l : List SO} {t : Tmp} {want : Bool} {f : Nat} {fn : Func} {args : List PV} {r : PV} (hc : Pure G f args (fun x => x = r)) (hb : lk st.t t = .bool want) (ht : target st G.Γ c = some (f, args)) (hF : S.F f = some fn) (hp : pureL args = true) (hd : dstOk C.nt d = true)
    (hK : SRun G C Q l (st.put d r)) : SRun G C Q (⟨d, .call c, some (some t, want)⟩ :: l) st :=
  .guard hb hd (fun _ => (SOneG.callP S hc ht hF hp hd fun r' h => by rw [h]; exact hK).one) (fun h => by cases want <;> cases h)
theorem SRun.frz {l : List SO} (rs : List Nat) (h : SRun G C Q l (frz rs st)) : SRun G C Q l st := fun ops os ho E a w hr => by
  obtain ⟨E', hr'⟩ := hr.frz (rs := rs)
  exact h ops os ho E' a w hr'
theorem SWP.frz {c : Code} (rs : List Nat) (h : SWP G C c Q (frz rs st)) : SWP G C c Q st := fun E a w hr => by
  obtain ⟨E', hr'⟩ := hr.frz (rs := rs)
  exact h E' a w hr'
end
attribute [push_cast] opStep told tval no stepG stepSl sliceAt stepSt stepAp ownAp appendAt AS.frz AS.adopt adoptT PV.refs refsL
attribute [push_cast] List.range_succ List.range_zero Nat.beq_refl Nat.ble_eq Nat.beq_eq
end Go.AS
