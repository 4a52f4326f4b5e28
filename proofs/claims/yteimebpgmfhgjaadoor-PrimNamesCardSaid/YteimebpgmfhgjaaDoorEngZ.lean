/- Abstract states (own engine), part Z: functions that have no text. -/
import Derived.Test.YteimebpgmfhgjaaDoorEngY
import Derived.Laws.Externs
import Derived.Lib.Bytealg
import Derived.Laws.Strings
namespace Go.AS
open Go.RowKit
set_option linter.unusedVariables false
set_option linter.unusedSimpArgs false
section
variable {G : Prg} {C : Ctx} {Q : AEx → AS → Prop} {K : AS → Prop} {st : AS}
/-- A call of a function that has no text, and only computes. -/
theorem SOpG.extern {o : Oper} {c : Call} {f : FuncId} {fn : Func} {args : List PV} {e : Array Value → Sem Value} {r : PV} (ho : o.op = .call c) (ht : target st G.Γ c = some (f, args)) (hf : G.P.funcs[f]? = some fn) (hname : (fn.name == "runtime.NumGoroutine") = false) (hb : fn.body.isNone = true) (hn : Extern.findNext fn = none) (he : Extern.find fn = some e)
    (hrun : ∀ E w vs, VReps E w args vs → ∃ v, (e vs.toArray).run G.P w = .ok v w ∧ VRep E w r v) (hd : dstOk C.nt o.dst = true) (h : K (st.put o.dst r)) : SOpG G C o Q K st := fun E a w hr => by
  obtain ⟨callee, as, ts⟩ := c
  unfold target at ht
  cases callee with
  | invoke _ _ => simp at ht
  | builtin _ => simp at ht
  | value g =>
    simp only [] at ht
    split at ht
    · rename_i g' cap hge
      cases ht
      have hg := ev_rep hr.fr hr.hp g
      rw [hge] at hg
      obtain ⟨us, hu, hur⟩ := hg.func_inv
      obtain ⟨v, h1, h2⟩ := hrun E w (as.toList.map a.eval ++ us) ((evs_rep hr.fr hr.hp as.toList).append hur)
      have hrunf : (execOp a.eval o).run G.P w = .ok (.value v) w := by
        simp only [execOp, ho, Sem.run_bind, resolve, hu, Deferred.ofValue, Sem.run_pure, Result.andThen, invoke]
        rw [run_callFunc_extern hf hname hb hn he]
        have e1 : #[] ++ as.map a.eval ++ us.toArray = (as.toList.map a.eval ++ us).toArray := by apply Array.ext'; simp
        rw [e1, h1]
        rfl
      unfold Oper.wp
      rw [hrunf]
      exact ⟨⟨Gr.refl w, Nat.le_refl _⟩, _, E, h, hr.put hd h2⟩
    · cases ht
/-- A nil slice in a box, taken for an (empty) row of the call's own. -/
theorem Rel.adoptB {E : Env} {a : Act} {w : World} (hr : Rel G C E st a w) {b i : Nat} {x : Box} (hb : st.h.bx[b]? = some x) (hi : x.cs[i]? = some .nil) (ty : TypeId) (sz : Nat) :
    ∃ E', Rel G C E' ⟨st.t, ⟨st.h.bx.set b ⟨x.cs.set i (.own st.h.rw.length 0), x.ty⟩, st.h.rw ++ [some ⟨[], 0, ty, sz⟩]⟩⟩ a w := by
  obtain ⟨h1, h2⟩ := hr.newRow (x := ⟨[], 0, ty, sz⟩) (v := .slice none 0 0) (xs := []) (World.ownsRow_nil w _ _ _) ⟨rfl, fun j x v h => by simp at h⟩ (fun u hu => by cases hu) (fun k i _ h => by simp [Value.ownBlock] at h) (fun k h => by simp [Value.ownBlock] at h) (fun k j s _ h => by simp [Value.ownBlock] at h) (fun k h => by simp [Value.ownBlock] at h)
  have hp := h1.hp
  refine ⟨_, h1.defers, h1.size, h1.fr, ⟨by rw [hp.nb]; simp [AS.newRow], hp.nr, hp.lo, fun j bb hj => ?_, hp.row, hp.inj, hp.rinj, hp.brw, hp.im_lt, hp.im_b, hp.im_r, hp.gl⟩, h1.lo, h1.nb, h1.β, h1.own, h1.up, h1.dn, h1.keep, h1.os, h1.tape, h1.out, h1.sz, h1.rows⟩
  simp only [] at hj
  by_cases hbj : b = j
  · subst hbj
    rw [List.getElem?_set_self (List.getElem?_eq_some_iff.1 hb).1] at hj
    cases hj
    obtain ⟨vs, hv, hvr⟩ := hp.box b x hb
    refine ⟨vs, hv, by simpa using hvr.1, fun q y u hy hu => ?_⟩
    simp only [] at hy
    by_cases hq : i = q
    · subst hq
      rw [List.getElem?_set_self (List.getElem?_eq_some_iff.1 hi).1] at hy
      cases hy
      have := hvr.2 i .nil u hi hu
      rw [this.nil_inv]
      exact h2
    · rw [List.getElem?_set_ne hq] at hy
      exact hvr.2 q y u hy hu
  · rw [List.getElem?_set_ne hbj] at hj
    exact hp.box j bb hj
theorem SWP.adoptB {c : Code} (b i : Nat) {x : Box} (ty : TypeId) (sz : Nat) (hb : st.h.bx[b]? = some x) (hi : x.cs[i]? = some .nil)
    (h : SWP G C c Q ⟨st.t, ⟨st.h.bx.set b ⟨x.cs.set i (.own st.h.rw.length 0), x.ty⟩, st.h.rw ++ [some ⟨[], 0, ty, sz⟩]⟩⟩) : SWP G C c Q st := fun E a w hr => by
  obtain ⟨E', hr'⟩ := hr.adoptB hb hi ty sz
  exact h E' a w hr'
end
theorem okO_nil : okO [] := fun p h => by cases h
theorem okO_app {o o' : Ob} (h : okO o) (h' : okO o') : okO (o ++ o') := fun p hp => by
  rcases List.mem_append.1 hp with hp | hp
  · exact h p hp
  · exact h' p hp
theorem wrap1 (n : Nat) (h : n ≤ 9223372036854775806) : IntKind.i64.wrap ((n : Int) + 1) = ((n + 1 : Nat) : Int) := by rw [IntKind.wrap_i64]; omega
theorem Dats.get_mk (ks : Dats) (j : Nat) : ∃ k n s ks', ks.get j = .mk k n s ks' := by cases h : ks.get j with | mk k n s ks => exact ⟨k, n, s, ks, rfl⟩
theorem Dat.is_mk (d : Dat) : ∃ k n s ks, d = .mk k n s ks := by cases d with | mk k n s ks => exact ⟨k, n, s, ks, rfl⟩
/-- What is told of some slots, of functions by their numbers of slots. -/
def orcM (l : List (Nat × List (Nat × Bool))) (nt k : Nat) : Option Bool := match l.lookup nt with
  | some m => m.lookup k
  | none => none
def valM (l : List (Nat × List (Nat × PV))) (nt k : Nat) : Option PV := match l.lookup nt with
  | some m => m.lookup k
  | none => none
/-- Of one function. -/
def orcL (nt0 : Nat) (l : List (Nat × Bool)) (nt k : Nat) : Option Bool := match Nat.beq nt nt0 with
  | true => l.lookup k
  | false => none
theorem str_nil (s : ByteArray) : s.toList = [] ↔ s.size = 0 := by
  rw [ByteArray.toList_eq]
  constructor
  · intro h
    show s.data.size = 0
    rw [← Array.length_toList, h]
    rfl
  · intro h
    have h' : s.data.size = 0 := h
    rw [← Array.length_toList] at h'
    exact List.eq_nil_of_length_eq_zero h'
theorem beq0 (n : Nat) : ((n : Int) == 0) = decide (n = 0) := by
  cases n with
  | zero => rfl
  | succ n => simp; omega
theorem bt_in (s : ByteArray) (i : Int) : 0 ≤ bt s i ∧ bt s i < 256 := by
  unfold bt
  split
  · have := UInt8.toNat_lt (s[i.toNat])
    omega
  · omega
section
variable {G : Prg}
theorem VRep.nil0 {E : Env} {w : World} {a b c : PV} {v : Value} (h : VRep E w (.agg [a, b, c, .nil]) v) : VRep E w (.agg [a, b, c, .slice 0 []]) v := by
  obtain ⟨vs, rfl, g⟩ := h.agg_inv
  obtain ⟨v1, vs, rfl, h1, g⟩ := g.cons_inv
  obtain ⟨v2, vs, rfl, h2, g⟩ := g.cons_inv
  obtain ⟨v3, vs, rfl, h3, g⟩ := g.cons_inv
  obtain ⟨v4, vs, rfl, h4, g⟩ := g.cons_inv
  obtain rfl := g.nil_inv
  have h5 := h4.nil_slice
  exact .agg rfl fun j x v hx hv => by
    match j, hx, hv with
    | 0, hx, hv => cases hx; cases hv; exact h1
    | 1, hx, hv => cases hx; cases hv; exact h2
    | 2, hx, hv => cases hx; cases hv; exact h3
    | 3, hx, hv => cases hx; cases hv; exact h5
    | j + 4, hx, hv => cases hx
theorem Pure.weak {f : FuncId} {args : List PV} {r r' : PV} (hw : ∀ E w v, VRep E w r v → VRep E w r' v) (h : Pure G f args (fun x => x = r)) : Pure G f args (fun x => x = r') := fun E w vs hh hv =>
  (h E w vs hh hv).mono fun e w' ⟨o, bx', E', ⟨hb, x, ho, hx⟩, hout, hrest⟩ => by
    subst ho
    subst hx
    obtain ⟨v, rfl, hv⟩ := hout
    exact ⟨.ret r', bx', E', ⟨hb, r', rfl, rfl⟩, ⟨v, rfl, hw _ _ _ hv⟩, hrest⟩
theorem VRep.tnil0 {E : Env} {w : World} {a b c x y : PV} {v : Value} (h : VRep E w (.tup [.agg [a, b, c, .nil], x, y]) v) : VRep E w (.tup [.agg [a, b, c, .slice 0 []], x, y]) v := by
  obtain ⟨vs, rfl, g⟩ := h.tup_inv
  obtain ⟨v1, vs, rfl, h1, g⟩ := g.cons_inv
  obtain ⟨v2, vs, rfl, h2, g⟩ := g.cons_inv
  obtain ⟨v3, vs, rfl, h3, g⟩ := g.cons_inv
  obtain rfl := g.nil_inv
  have h5 := h1.nil0
  exact .tup rfl fun j x v hx hv => by
    match j, hx, hv with
    | 0, hx, hv => cases hx; cases hv; exact h5
    | 1, hx, hv => cases hx; cases hv; exact h2
    | 2, hx, hv => cases hx; cases hv; exact h3
    | j + 3, hx, hv => cases hx
end
end Go.AS
