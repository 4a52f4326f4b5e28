/- Abstract states (own engine), part O: the interpreter of closed runs, and that it is right. -/
import Derived.Test.YteimebpgmfhgjaaDoorEngN
namespace Go.AS
open Go.RowKit
set_option linter.unusedVariables false
set_option linter.unusedSimpArgs false

abbrev Rec := Cmd → Option (AEx × AS × Ob)
def app (o : Ob) : Option (AEx × AS × Ob) → Option (AEx × AS × Ob)
  | some (e, s, o') => some (e, s, o ++ o')
  | none => none
theorem okO.left {o o' : Ob} (h : okO (o ++ o')) : okO o := fun p hp => h p (List.mem_append_left _ hp)
theorem okO.right {o o' : Ob} (h : okO (o ++ o')) : okO o' := fun p hp => h p (List.mem_append_right _ hp)
theorem app_some {o o2 : Ob} {r : Option (AEx × AS × Ob)} {e : AEx} {s : AS} (h : app o r = some (e, s, o2)) : ∃ o', r = some (e, s, o') ∧ o2 = o ++ o' := by
  cases r with
  | none => cases h
  | some x => obtain ⟨e', s', o'⟩ := x; cases h; exact ⟨_, rfl, rfl⟩
/-- Which way a branch goes: as its value says, or as the oracle says. -/
def way (orc : Nat → Nat → Option Bool) (nt : Nat) (x : Operand) (b : Bool) : Bool × Ob := match x with
  | .tmp t => match orc nt t with
    | some b' => (b', [(b, b')])
    | none => (b, [])
  | _ => (b, [])
theorem way_ok {orc : Nat → Nat → Option Bool} {nt : Nat} {x : Operand} {b : Bool} (h : okO (way orc nt x b).2) : (way orc nt x b).1 = b := by
  unfold way at *
  split at h
  · split at h
    · exact (h _ (List.mem_singleton.2 rfl)).symm
    · rfl
  · rfl
section
variable {G : Prg}
def At (e : AEx) (s : AS) : AEx → AS → Prop := fun e' s' => e' = e ∧ s' = s
def noPan : AEx → Bool
  | .panic _ => false
  | _ => true
/-- What has been written to a slot, as is told. -/
noncomputable def adj (orc : Nat → Nat → Option Bool) (val : Nat → Nat → Option PV) (nt : Nat) (d : Option Tmp) (s : AS) : Option (AS × Ob) := match d with
  | none => some (s, [])
  | some k => match val nt k with
    | some y => some (⟨(k, y) :: s.t, s.h⟩, [(same (lk s.t k) y, true)])
    | none => match orc nt k with
      | none => some (s, [])
      | some b => match lk s.t k with
        | .bool v => some (⟨(k, .bool b) :: s.t, s.h⟩, [(v, b)])
        | _ => some (s, [])
theorem SRun.same {C : Ctx} {Q : AEx → AS → Prop} {l : List SO} {s s' : AS} (hh : s'.h = s.h) (ht : ∀ k, lk s'.t k = lk s.t k) (h : SRun G C Q l s') : SRun G C Q l s := fun ops os ho E a w hr => by
  refine h ops os ho E a w ⟨hr.defers, hr.size, fun k => ?_, ?_, hr.lo, hr.nb, hr.β, hr.own, hr.up, hr.dn, hr.keep, hr.os, hr.tape, hr.out, hr.sz, by rw [hh]; exact hr.rows⟩
  · rw [ht]; exact hr.fr k
  · rw [hh]; exact hr.hp
theorem adj_eq {orc : Nat → Nat → Option Bool} {val : Nat → Nat → Option PV} {nt : Nat} {d : Option Tmp} {s s' : AS} {o : Ob} (h : adj orc val nt d s = some (s', o)) (ho : okO o) : s'.h = s.h ∧ ∀ k, lk s'.t k = lk s.t k := by
  have put : ∀ (k : Nat) (y : PV), lk s.t k = y → ∀ j, lk ((k, y) :: s.t) j = lk s.t j := fun k y h j => by
    simp only [lk]
    split
    · rename_i hj; subst hj; exact h.symm
    · rfl
  unfold adj at h
  split at h
  · cases h; exact ⟨rfl, fun _ => rfl⟩
  · split at h
    · cases h
      exact ⟨rfl, put _ _ (of_same (ho _ (List.mem_singleton.2 rfl)))⟩
    · split at h
      · cases h; exact ⟨rfl, fun _ => rfl⟩
      · split at h
        · rename_i k _ b hb v hv
          cases h
          have := ho _ (List.mem_singleton.2 rfl)
          simp only [] at this
          subst this
          exact ⟨rfl, put _ _ hv⟩
        · cases h; exact ⟨rfl, fun _ => rfl⟩
theorem SAny.same {C : Ctx} {Q : AEx → AS → Prop} {ops : Array Oper} {ds : List Nat} {n : Nat} {l : Array Bool} {s s' : AS} (hh : s'.h = s.h) (ht : ∀ k, lk s'.t k = lk s.t k) (h : SAny G C ops Q ds n l s') : SAny G C ops Q ds n l s := fun E a w hr => by
  refine h E a w ⟨hr.defers, hr.size, fun k => ?_, ?_, hr.lo, hr.nb, hr.β, hr.own, hr.up, hr.dn, hr.keep, hr.os, hr.tape, hr.out, hr.sz, by rw [hh]; exact hr.rows⟩
  · rw [ht]; exact hr.fr k
  · rw [hh]; exact hr.hp
theorem adj_ok {orc : Nat → Nat → Option Bool} {val : Nat → Nat → Option PV} {nt : Nat} {d : Option Tmp} {s s' : AS} {o : Ob} (h : adj orc val nt d s = some (s', o)) (ho : okO o) {C : Ctx} {Q : AEx → AS → Prop} {l : List SO} (hK : SRun G C Q l s') : SRun G C Q l s := by
  have put : ∀ (k : Nat) (y : PV), lk s.t k = y → ∀ j, lk ((k, y) :: s.t) j = lk s.t j := fun k y h j => by
    simp only [lk]
    split
    · rename_i hj; subst hj; exact h.symm
    · rfl
  unfold adj at h
  split at h
  · cases h; exact hK
  · split at h
    · cases h
      refine SRun.same (s' := _) ?_ (put _ _ (of_same (ho _ (List.mem_singleton.2 rfl)))) hK
      rfl
    · split at h
      · cases h; exact hK
      · split at h
        · rename_i k _ b hb v hv
          cases h
          have := ho _ (List.mem_singleton.2 rfl)
          simp only [] at this
          subst this
          refine SRun.same (s' := _) ?_ (put _ _ hv) hK
          rfl
        · cases h; exact hK
def Good (G : Prg) : Cmd → AEx → AS → Prop
  | .code nt c st, e, s => noPan e = true ∧ (∀ C : Ctx, C.nt = nt → SWP G C c (At e s) st) ∧ ∀ c', c = .loop c' → ∃ m, ∀ C : Ctx, C.nt = nt → SRounds G C c' (At e s) m st
  | .ops nt l st, e, s => e = .normal ∧ ∀ C : Ctx, C.nt = nt → SRun G C (At .normal s) l st
  | .op _ _ _ _ _ _, _, _ => False
  | .any nt ops ds n l st, e, s => e = .normal ∧ ∀ C : Ctx, C.nt = nt → SAny G C ops (At .normal s) ds n l st
  | .call f args bx, e, s => ∃ k r tl bx' rw, s = ⟨(k, r) :: tl, ⟨bx', rw⟩⟩ ∧ PCalls G f args bx (fun o b => o = .ret r ∧ b = bx')
def Snd (G : Prg) (rec : Rec) : Prop := ∀ cmd e s o, rec cmd = some (e, s, o) → okO o → Good G cmd e s

def callPure (S : Cfg G) (rec : Rec) (st : AS) (d : Option Tmp) (f : Nat) (args : List PV) : Option (AS × Ob) := match S.F f with
  | none => none
  | some _ => match S.S f args with
    | some (r, o) => some (st.put d r, o)
    | none => match rec (.call f args []) with
      | some (_, ⟨(_, r) :: _, ⟨[], _⟩⟩, o) => some (st.put d r, o)
      | _ => none
def callBox (S : Cfg G) (rec : Rec) (nt : Nat) (d : Option Tmp) (st : AS) (c : Call) : Option (AS × Ob) := match target st G.Γ c with
  | some (f, args) => match S.F f with
    | none => none
    | some _ => match scL st.h.bx.length args && (st.h.bx.all fun b => scL st.h.bx.length b.cs) && dstOk nt d with
      | true => match rec (.call f args st.h.bx) with
        | some (_, ⟨(_, r) :: _, ⟨bx', _⟩⟩, o) => some (({ st with h := ⟨bx', st.h.rw⟩ } : AS).put d r, o)
        | _ => none
      | false => none
  | none => none
def callAt (S : Cfg G) (rec : Rec) (nt : Nat) (d : Option Tmp) (g : Bool) (st : AS) (c : Call) : Option (AS × Ob) := match target st G.Γ c with
  | some (f, args) => match pureL args && dstOk nt d with
    | true => callPure S rec st d f args
    | false => match g with
      | true => none
      | false => callBox S rec nt d (frzAll st) c
  | none => none
/-- What a call gives that is handed no box. -/
def callRes (S : Cfg G) (rec : Rec) (f : Nat) (args : List PV) : Option (PV × Ob) := match S.F f with
  | none => none
  | some _ => match S.S f args with
    | some (r, o) => some (r, o)
    | none => match rec (.call f args []) with
      | some (_, ⟨(_, r) :: _, ⟨[], _⟩⟩, o) => some (r, o)
      | _ => none
/-- A call that is handed rows: they stay as they are, where what it gives points nowhere. -/
def callLk (S : Cfg G) (rec : Rec) (nt : Nat) (d : Option Tmp) (st : AS) (c : Call) : List Nat → Option (AS × Ob)
  | [] => none
  | i :: is => match target (frz (i :: is) st) G.Γ c with
    | some (f, args) => match pureL args && dstOk nt d with
      | true => match callRes S rec f args with
        | some (r, o) => match r.lone with
          | true => some (st.put d r, o)
          | false => some ((frz (i :: is) st).put d r, o)
        | none => none
      | false => none
    | none => none
/-- A call by its law, if it has one. -/
def callLaw (S : Cfg G) (nt : Nat) (d : Option Tmp) (st : AS) (f : Nat) (args : List PV) : Option (AS × Ob) := match S.F f, S.S f args, dstOk nt d with
  | some _, some (r, o), true => some (st.put d r, (pureL args, true) :: o)
  | _, _, _ => none
/-- A call by its law, that gives a new row. -/
def callFr (S : Cfg G) (nt : Nat) (d : Option Tmp) (st : AS) (f : Nat) (args : List PV) : Option (AS × Ob) := match S.F f, S.W f args, dstOk nt d with
  | some _, some (row, o), true => some ((st.newRow row).put d (.own st.h.rw.length row.n), (pureL args, true) :: o)
  | _, _, _ => none
/-- A call by its law, that is given one of the boxes. -/
def callBx (S : Cfg G) (nt : Nat) (d : Option Tmp) (st : AS) (f : Nat) (args : List PV) : Option (AS × Ob) := match ptrOfL args with
  | some b => match renL b args, st.h.bx[b]?, S.F f with
    | some xs, some x, some _ => match S.B f xs x, dstOk nt d with
      | some (r, x', o), true => some (({ st with h := ⟨st.h.bx.set b x', st.h.rw⟩ } : AS).put d r, o)
      | _, _ => none
    | _, _, _ => none
  | none => none
def stepCall (S : Cfg G) (rec : Rec) (nt : Nat) (d : Option Tmp) (g : Bool) (st : AS) (c : Call) : Option (AS × Ob) := match target st G.Γ c with
  | some (f, args) => match callLaw S nt d st f args with
    | some r => some r
    | none => match callFr S nt d st f args with
      | some r => some r
      | none => match g, callBx S nt d st f args with
        | false, some r => some r
        | _, _ => match callLk S rec nt d st c (refsL args) with
          | some r => some r
          | none => callAt S rec nt d g (frz (refsL args) st) c
  | none => none
variable {C : Ctx} {Q : AEx → AS → Prop} {K : AS → Prop} {st : AS} {S : Cfg G} {rec : Rec}
theorem callPure_ok (hr : Snd G rec) {d : Option Tmp} {c : Call} {f : Nat} {args : List PV} {z : AS} (ht : target st G.Γ c = some (f, args)) (hp : pureL args = true) (hd : dstOk C.nt d = true) {ob : Ob} (h : callPure S rec st d f args = some (z, ob)) (hb : okO ob) (hK : K z) : SOneG G C d (.call c) Q K st := fun o h1 h2 => by
  subst h1
  unfold callPure at h
  split at h
  · cases h
  · rename_i fn hF
    obtain ⟨a1, a2, a3⟩ := S.hF _ _ hF
    split at h
    · rename_i r o hS
      cases h
      exact .call h2 ht a1 a2 a3 hp hd (S.hS _ _ _ _ hS hb hp) fun r' hr' => by rw [hr']; exact hK
    · split at h
      · rename_i e k r tl rw o hrec
        cases h
        obtain ⟨k', r', tl', bx', rw', he, hc⟩ := hr _ _ _ _ hrec hb
        cases he
        exact .call h2 ht a1 a2 a3 hp hd (R := fun x => x = r) (hc.mono fun o b ⟨ho, hb⟩ => ⟨hb, _, ho, rfl⟩) fun r' hr' => by rw [hr']; exact hK
      · cases h
theorem callBox_ok (hr : Snd G rec) {d : Option Tmp} {c : Call} {z : AS} {ob : Ob} (h : callBox S rec C.nt d st c = some (z, ob)) (hob : okO ob) (hK : K z) : SOne G C d (.call c) Q K st := fun o h1 h2 => by
  subst h1
  unfold callBox at h
  split at h
  · rename_i f args ht
    split at h
    · cases h
    · rename_i fn hF
      obtain ⟨a1, a2, a3⟩ := S.hF _ _ hF
      split at h
      · rename_i hc
        simp only [Bool.and_eq_true] at hc
        split at h
        · rename_i e k r tl bx rw o hrec
          cases h
          obtain ⟨k', r', tl', bx', rw', he, hcc⟩ := hr _ _ _ _ hrec hob
          cases he
          exact .callB h2 ht a1 a2 a3 hc.1.1 hc.1.2 hc.2 hcc (fun r' b ⟨h3, h4⟩ => by cases h3; subst h4; exact hK) (fun x b ⟨h3, _⟩ => by cases h3)
        · cases h
      · cases h
  · cases h
theorem callLaw_ok {d : Option Tmp} {c : Call} {f : Nat} {args : List PV} {z : AS} {ob : Ob} (ht : target st G.Γ c = some (f, args)) (h : callLaw S C.nt d st f args = some (z, ob)) (hob : okO ob) (hK : K z) : SOneG G C d (.call c) Q K st := fun o h1 h2 => by
  subst h1
  unfold callLaw at h
  split at h
  · rename_i fn r ob' hF hS hd
    cases h
    obtain ⟨a1, a2, a3⟩ := S.hF _ _ hF
    have hp : pureL args = true := hob _ (List.mem_cons_self ..)
    exact .call h2 ht a1 a2 a3 hp hd (S.hS _ _ _ _ hS (fun p hp => hob p (List.mem_cons_of_mem _ hp)) hp) fun r' hr' => by rw [hr']; exact hK
  · cases h
theorem callFr_ok {d : Option Tmp} {c : Call} {f : Nat} {args : List PV} {z : AS} {ob : Ob} (ht : target st G.Γ c = some (f, args)) (h : callFr S C.nt d st f args = some (z, ob)) (hob : okO ob) (hK : K z) : SOneG G C d (.call c) Q K st := fun o h1 h2 => by
  subst h1
  unfold callFr at h
  split at h
  · rename_i fn row ob' hF hW hd
    cases h
    obtain ⟨a1, a2, a3⟩ := S.hF _ _ hF
    have hp : pureL args = true := hob _ (List.mem_cons_self ..)
    exact .callFresh h2 ht a1 a2 a3 hp hd (S.hW _ _ _ _ hW (fun p hp => hob p (List.mem_cons_of_mem _ hp))) hK
  · cases h
theorem callBx_ok {d : Option Tmp} {c : Call} {f : Nat} {args : List PV} {z : AS} {ob : Ob} (ht : target st G.Γ c = some (f, args)) (h : callBx S C.nt d st f args = some (z, ob)) (hob : okO ob) (hK : K z) : SOne G C d (.call c) Q K st := fun o h1 h2 => by
  subst h1
  unfold callBx at h
  split at h
  · rename_i b hb
    split at h
    · rename_i xs x fn hxs hx hF
      split at h
      · rename_i r x' ob' hB hd
        cases h
        obtain ⟨a1, a2, a3⟩ := S.hF _ _ hF
        obtain ⟨hc, k1, k2, k3⟩ := S.hB _ _ _ _ _ _ hB hob
        obtain ⟨e1, e2⟩ := renL_ok _ _ hxs
        refine .callF (fun _ => b) [x] h2 ht a1 a2 a3 e1 e2 (fun i y hi => ?_) (by simp [k2]) (fun i j hi hj _ => by simp only [List.length_cons, List.length_nil] at hi hj; omega) hd hc ?_
        · match i with
          | 0 => simp at hi; subst hi; exact hx
          | i + 1 => simp at hi
        · rintro o' bb ⟨rfl, rfl⟩
          refine ⟨_, _, rfl, k1, by simp [k3], List.length_set .., fun i hi => ?_, fun j hj => ?_, hK⟩
          · have : i = 0 := by simp only [List.length_cons, List.length_nil] at hi; omega
            subst this
            exact (List.getElem?_set_self (List.getElem?_eq_some_iff.1 hx).1).trans rfl
          · exact List.getElem?_set_ne (hj 0 (by simp))
      · cases h
    · cases h
  · cases h
theorem callRes_ok (hr : Snd G rec) {f : Nat} {args : List PV} {r : PV} {ob : Ob} (hp : pureL args = true) (h : callRes S rec f args = some (r, ob)) (hb : okO ob) : (∃ fn, S.F f = some fn) ∧ Pure G f args (fun x => x = r) := by
  unfold callRes at h
  split at h
  · cases h
  · rename_i fn hF
    refine ⟨⟨_, hF⟩, ?_⟩
    split at h
    · rename_i r' o' hS
      cases h
      exact S.hS _ _ _ _ hS hb hp
    · split at h
      · rename_i e k r' tl rw o hrec
        cases h
        obtain ⟨k', r2, tl', bx', rw', he, hc⟩ := hr _ _ _ _ hrec hb
        cases he
        exact hc.mono fun o b ⟨ho, hb⟩ => ⟨hb, _, ho, rfl⟩
      · cases h
theorem callLk_ok (hr : Snd G rec) {d : Option Tmp} {c : Call} {rs : List Nat} {z : AS} {ob : Ob} (h : callLk S rec C.nt d st c rs = some (z, ob)) (hob : okO ob) (hK : K z) : SOneG G C d (.call c) Q K st := fun o h1 h2 => by
  subst h1
  unfold callLk at h
  split at h
  · cases h
  · split at h
    · rename_i i is f args ht
      split at h
      · rename_i hc
        simp only [Bool.and_eq_true] at hc
        split at h
        · rename_i r ob' hres
          split at h
          · rename_i hl
            cases h
            obtain ⟨⟨fn, hF⟩, hpure⟩ := callRes_ok hr hc.1 hres hob
            obtain ⟨a1, a2, a3⟩ := S.hF _ _ hF
            exact .look _ h2 ht a1 a2 a3 hc.1 hc.2 hpure fun r' hr' => by subst hr'; exact ⟨hl, hK⟩
          · cases h
            obtain ⟨⟨fn, hF⟩, hpure⟩ := callRes_ok hr hc.1 hres hob
            obtain ⟨a1, a2, a3⟩ := S.hF _ _ hF
            exact .frz _ (.call h2 ht a1 a2 a3 hc.1 hc.2 hpure fun r' hr' => by subst hr'; exact hK)
        · cases h
      · cases h
    · cases h
theorem stepCall_ok (hr : Snd G rec) {d : Option Tmp} {c : Call} {g : Bool} {z : AS} {ob : Ob} (h : stepCall S rec C.nt d g st c = some (z, ob)) (hob : okO ob) (hK : K z) : SOne G C d (.call c) Q K st ∧ (g = true → SOneG G C d (.call c) Q K st) := by
  unfold stepCall at h
  split at h
  · rename_i f0 a0 ht0
    split at h
    · rename_i r hl
      cases h
      have := callLaw_ok (Q := Q) ht0 hl hob hK
      exact ⟨this.one, fun _ => this⟩
    · split at h
      · rename_i r hl1
        cases h
        have := callFr_ok (Q := Q) ht0 hl1 hob hK
        exact ⟨this.one, fun _ => this⟩
      split at h
      · rename_i r hl2
        cases h
        exact ⟨callBx_ok ht0 hl2 hob hK, fun h => by cases h⟩
      split at h
      · rename_i r hl3
        cases h
        have := callLk_ok (Q := Q) hr hl3 hob hK
        exact ⟨this.one, fun _ => this⟩
      unfold callAt at h
      split at h
      · rename_i f args ht
        split at h
        · rename_i hc
          simp only [Bool.and_eq_true] at hc
          have := callPure_ok (C := C) (Q := Q) hr ht hc.1 hc.2 h hob hK
          exact ⟨fun o h1 h2 => .frz _ (this.one o h1 h2), fun _ o h1 h2 => .frz _ (this o h1 h2)⟩
        · split at h
          · cases h
          · exact ⟨fun o h1 h2 => .frz _ (.frz _ (callBox_ok hr h hob hK o h1 h2)), fun h => by cases h⟩
      · cases h
  · cases h

def no : Option AS → Option (AS × Ob)
  | some s => some (s, [])
  | none => none
theorem no_some {r : Option AS} {s : AS} {o : Ob} (h : no r = some (s, o)) : r = some s := by
  cases r with
  | none => cases h
  | some x => cases h; rfl
def opStep (S : Cfg G) (rec : Rec) (nt : Nat) (d : Option Tmp) (row g : Bool) (st : AS) : Op → Option (AS × Ob)
  | .call c => match c with
    | ⟨.value f, as, ts⟩ => stepCall S rec nt d g st ⟨.value f, as, ts⟩
    | ⟨.builtin .append, ⟨[s, x]⟩, ⟨[t, t']⟩⟩ => match g with
      | true => none
      | false => stepAp G nt st d (told S.orc nt d) s x t t'
    | c => no (stepG G nt st d (.call c))
  | .buildSlice t len parts => no (stepSl G nt st d (row && !g) t len parts)
  | .store t p v => match g with
    | true => none
    | false => stepSt G nt S.tst st d t p v
  | op => match told S.orc nt d, tval G st op with
    | true, some (x, o) => match dstOk nt d with
      | true => some (st.put d x, o)
      | false => none
    | _, _ => no (stepG G nt st d op)
theorem opStep_ok (hr : Snd G rec) {d : Option Tmp} {op : Op} {row g : Bool} {z : AS} {ob : Ob} (h : opStep S rec C.nt d row g st op = some (z, ob)) (hob : okO ob) (hK : K z) : SOne G C d op Q K st ∧ (g = true → SOneG G C d op Q K st) := by
  unfold opStep at h
  split at h
  · split at h
    · exact stepCall_ok hr h hob hK
    · split at h
      · cases h
      · exact ⟨stepAp_ok h hob hK, fun h => by cases h⟩
    · have := stepG_ok (Q := Q) (no_some h) hK
      exact ⟨this.one, fun _ => this⟩
  · have := stepSl_ok (Q := Q) (no_some h) hK
    exact ⟨this.1, fun hg => this.2 (by rw [hg]; simp)⟩
  · split at h
    · cases h
    · exact ⟨stepSt_ok h hob hK, fun h => by cases h⟩
  · split at h
    · rename_i x o ht
      split at h
      · rename_i hd
        cases h
        have : SOneG G C d op Q K st := fun o' h1 h2 => by
          subst h1
          exact .val (by rw [h2]; exact tval_ok ht hob) hd hK
        exact ⟨this.one, fun _ => this⟩
      · cases h
    · have := stepG_ok (Q := Q) (no_some h) hK
      exact ⟨this.one, fun _ => this⟩

noncomputable def anyOne (S : Cfg G) (rec : Rec) (nt : Nat) (ops : Array Oper) (ds : List Nat) (l : Array Bool) (st : AS) (i : Nat) : Option (Array Bool × AS × Ob) := match ops[i]? with
  | some o => match gq ops st o with
    | some true => match opStep S rec nt o.dst (isRow ops o) (!ds.contains i) st o.op with
      | some (s, ob) => match adj S.orc S.val nt o.dst s with
        | some (s', o2) => some (l.setIfInBounds i true, s', ob ++ o2)
        | none => none
      | none => none
    | some false => match dstOk nt o.dst with
      | true => some (l.setIfInBounds i true, st.put o.dst und, [])
      | false => none
    | none => none
  | none => none
section
variable {C : Ctx} {Q : AEx → AS → Prop} {st : AS} {ops : Array Oper} {ds : List Nat} {n : Nat}
/-- A region that draws its order: all its ends. -/
noncomputable def runL (S : Cfg G) (rec : Rec) (nt : Nat) (ops : Array Oper) (ds : List Nat) : Nat → Array Bool → AS → Option Outs
  | 0, l, st => match Region.ready .any ops l with
    | [] => some ([st], [])
    | _ => none
  | n + 1, l, st => match Region.ready .any ops l with
    | [] => some ([st], [])
    | i :: is => match pick1 G S.orc S.val nt ops ds l st (i :: is) with
      | some (l', s, o) => pre o (runL S rec nt ops ds n l' s)
      | none => match pickF G nt ops l st (i :: is) with
        | some (l', s) => runL S rec nt ops ds n l' s
        | none => eachOf (fun j => match anyOne S rec nt ops ds l st j with
          | some (l', s, o) => pre o (runL S rec nt ops ds n l' s)
          | none => none) (i :: is)
theorem anyOne_ok {S : Cfg G} {rec : Rec} (hr : Snd G rec) {l l' : Array Bool} {i : Nat} {s : AS} {ob : Ob} (h : anyOne S rec C.nt ops ds l st i = some (l', s, ob)) (hob : okO ob) (hK : SAny G C ops Q ds n l' s) :
    ∃ o, ops[i]? = some o ∧
    ((gq ops st o = some true ∧ ((i ∈ ds ∧ SOp G C o Q (SAny G C ops Q ds n (l.setIfInBounds i true)) st) ∨ SOpG G C o Q (SAny G C ops Q ds n (l.setIfInBounds i true)) st)) ∨
     (gq ops st o = some false ∧ dstOk C.nt o.dst = true ∧ SAny G C ops Q ds n (l.setIfInBounds i true) (st.put o.dst und))) := by
  unfold anyOne at h
  split at h
  · rename_i o hi
    split at h
    · rename_i hg
      split at h
      · rename_i z ob' hz
        split at h
        · rename_i z2 o3 hz2
          cases h
          obtain ⟨e1, e2⟩ := adj_eq hz2 hob.right
          obtain ⟨k1, k2⟩ := opStep_ok (Q := Q) hr hz hob.left (SAny.same e1 e2 hK)
          refine ⟨o, hi, .inl ⟨hg, ?_⟩⟩
          by_cases hds : i ∈ ds
          · exact .inl ⟨hds, k1 o rfl rfl⟩
          · exact .inr (k2 (by simpa using hds) o rfl rfl)
        · cases h
      · cases h
    · rename_i hg
      split at h
      · rename_i hd
        cases h
        exact ⟨o, hi, .inr ⟨hg, hd, hK⟩⟩
      · cases h
    · cases h
  · cases h
theorem runL_ok {S : Cfg G} {rec : Rec} (hr : Snd G rec) (hQ : PanicT Q) : ∀ (n : Nat) (l : Array Bool) (st : AS) (outs : Outs), runL S rec C.nt ops ds n l st = some outs → okO outs.2 → (∀ s ∈ outs.1, Q .normal s) → SAny G C ops Q ds n l st := by
  intro n
  induction n with
  | zero =>
    intro l st outs h ho hK
    simp only [runL] at h
    split at h
    · rename_i h1
      cases h
      exact .done (by rw [h1]; rfl) (hK _ (List.mem_singleton.2 rfl))
    · cases h
  | succ n ih =>
    intro l st outs h ho hK
    simp only [runL] at h
    split at h
    · rename_i h1
      cases h
      exact .done (by rw [h1]; rfl) (hK _ (List.mem_singleton.2 rfl))
    · rename_i i is hri
      split at h
      · rename_i l' s o hp
        obtain ⟨o', h1, h2⟩ := pre_some h
        rw [h2] at ho
        exact pick1_ok hQ ho.left _ hp (ih _ _ _ h1 ho.right hK)
      · split at h
        · rename_i l' s hp
          exact pickF_ok hQ _ hp (ih _ _ _ h ho hK)
        · refine .all (by rw [hri]; exact List.cons_ne_nil _ _) fun j hj => ?_
          rw [hri] at hj
          obtain ⟨a, h1, h2, h3⟩ := eachOf_some h j hj
          split at h1
          · rename_i l' s o hone
            obtain ⟨o', h4, h5⟩ := pre_some h1
            have ho' : okO (o ++ o') := fun p hp => ho p (h3 p (by rw [h5]; exact hp))
            exact anyOne_ok hr hone ho'.left (by
              have hl : l' = l.setIfInBounds j true := by
                unfold anyOne at hone
                split at hone
                · split at hone
                  · split at hone
                    · split at hone
                      · cases hone; rfl
                      · cases hone
                    · cases hone
                  · split at hone
                    · cases hone; rfl
                    · cases hone
                  · cases hone
                · cases hone
              subst hl
              exact ih _ _ _ h4 ho'.right fun s hs => hK s (h2 s hs))
          · cases h1
end
/-- The slots that a region writes, and those that are known before. -/
def slotsOf (ops : Array Oper) (st : AS) : List Nat := ops.toList.filterMap (·.dst) ++ st.t.map (·.1)
/-- A drawn region, all of whose ends are one. -/
noncomputable def drawAll (S : Cfg G) (rec : Rec) (nt : Nat) (ops : Array Oper) (st : AS) : Option (AEx × AS × Ob) := match runL S rec nt ops (dsOf S.D ops) ops.size (Array.replicate ops.size false) st with
  | some (s :: ss, o) => some (.normal, nrm (slotsOf ops st) s, o ++ ss.map fun t => (sameS (nrm (slotsOf ops st) t) (nrm (slotsOf ops st) s), true))
  | _ => none
noncomputable def runCode (S : Cfg G) (rec : Rec) (nt : Nat) (st : AS) : Code → Option (AEx × AS × Ob)
  | .skip => some (.normal, st, [])
  | .label _ => some (.normal, st, [])
  | .exit i => some (.exit i, st, [])
  | .ret => some (.ret, st, [])
  | .seq a b => match rec (.code nt a st) with
    | some (.normal, s, o) => app o (rec (.code nt b s))
    | r => r
  | .block id c => match rec (.code nt c st) with
    | some (.exit i, s, o) => match Nat.beq i id with
      | true => some (.normal, s, o)
      | false => some (.exit i, s, o)
    | r => r
  | .scope c => rec (.code nt c st)
  | .cond x a b => match st.ev G.Γ x with
    | .bool v => match way S.orc nt x v with
      | (true, o) => app o (rec (.code nt a st))
      | (false, o) => app o (rec (.code nt b st))
    | _ => none
  | .loop c => match rec (.code nt c st) with
    | some (.normal, s, o) => app o (rec (.code nt (.loop c) s))
    | r => r
  | .region _ ops false => rec (.ops nt (strip ops.toList ops.toList) st)
  | .region _ ops true => match rec (.any nt ops (dsOf S.D ops) ops.size (Array.replicate ops.size false) st) with
    | some r => some r
    | none => drawAll S rec nt ops st
  | _ => none
noncomputable def runOps (S : Cfg G) (rec : Rec) (nt : Nat) (st : AS) : List SO → Option (AEx × AS × Ob)
  | [] => some (.normal, st, [])
  | ⟨d, op, none⟩ :: r => match opStep S rec nt d (grows d r) false st op with
    | some (s, o) => match adj S.orc S.val nt d s with
      | some (s', o2) => app (o ++ o2) (rec (.ops nt r s'))
      | none => none
    | none => none
  | ⟨d, op, some (some t, want)⟩ :: r => match lk st.t t with
    | .bool b => match dstOk nt d with
      | true => match way (fun _ _ => none) nt (.tmp t) b with
        | (v, o) => match v == want with
          | true => match opStep S rec nt d (grows d r) false st op with
            | some (s, o') => match adj S.orc S.val nt d s with
              | some (s', o2) => app (o ++ o' ++ o2) (rec (.ops nt r s'))
              | none => none
            | none => none
          | false => app o (rec (.ops nt r (st.put d und)))
      | false => none
    | .tup [] => match dstOk nt d with
      | true => rec (.ops nt r (st.put d und))
      | false => none
    | _ => none
  | _ => none
noncomputable def runAny (S : Cfg G) (rec : Rec) (nt : Nat) (ops : Array Oper) (ds : List Nat) (l : Array Bool) (st : AS) : Nat → Option (AEx × AS × Ob)
  | 0 => match Region.ready .any ops l with
    | [] => some (.normal, st, [])
    | _ => none
  | n + 1 => match Region.ready .any ops l with
    | [] => some (.normal, st, [])
    | is => match pick1 G S.orc S.val nt ops ds l st is with
      | some (l', s, o) => app o (rec (.any nt ops ds n l' s))
      | none => match is with
        | [i] => match anyOne S rec nt ops ds l st i with
          | some (l', s, o) => app o (rec (.any nt ops ds n l' s))
          | none => none
        | _ => none
/-- A call's end. -/
def finish (G : Prg) (fn : Func) (nb : Nat) (s : AS) (o : Ob) : Option (AEx × AS × Ob) := match aret G fn s with
  | some r => match r.sc nb && (s.h.bx.take nb).all (fun b => scL nb b.cs) && Nat.ble nb s.h.bx.length with
    | true => some (.ret, ⟨[(0, r)], ⟨s.h.bx.take nb, []⟩⟩, o)
    | false => match r.sc s.h.bx.length && s.h.bx.all (fun b => scL s.h.bx.length b.cs) && Nat.ble nb s.h.bx.length with
      | true => some (.ret, ⟨[(0, r)], ⟨s.h.bx.take s.h.bx.length, []⟩⟩, o)
      | false => none
  | none => none
noncomputable def runCall (S : Cfg G) (rec : Rec) (f : Nat) (args : List PV) (bx : List Box) : Option (AEx × AS × Ob) := match S.F f with
  | some fn => match fn.body, Nat.ble args.length fn.ntmps with
    | some c, true => match rec (.code fn.ntmps c ⟨enum 0 args, ⟨bx, []⟩⟩) with
      | some (.normal, s, o) => finish G fn bx.length (frzAll s) o
      | some (.ret, s, o) => finish G fn bx.length (frzAll s) o
      | _ => none
    | _, _ => none
  | none => none
noncomputable def stepR (S : Cfg G) (rec : Rec) : Rec
  | .code nt c st => runCode S rec nt st c
  | .ops nt l st => runOps S rec nt st l
  | .op _ _ _ _ _ _ => none
  | .any nt ops ds n l st => runAny S rec nt ops ds l st n
  | .call f args bx => runCall S rec f args bx
noncomputable def run (S : Cfg G) (n : Nat) : Rec := Nat.rec (fun _ => none) (fun _ ih => stepR S ih) n

theorem At.mono {e : AEx} {s : AS} (h : Q e s) : ∀ e' s', At e s e' s' → Q e' s' := fun _ _ ⟨h1, h2⟩ => by subst h1; subst h2; exact h
theorem panic_At {e : AEx} {s : AS} (h : noPan e = true) : PanicT (At e s) := fun x t ⟨h1, _⟩ => by subst h1; cases h
theorem runCode_ok (hr : Snd G rec) {nt : Nat} {c : Code} {e : AEx} {s : AS} {ob : Ob} (h : runCode S rec nt st c = some (e, s, ob)) (hob : okO ob) : Good G (.code nt c st) e s := by
  have triv : ∀ {c : Code} {e : AEx} {s : AS}, noPan e = true → (∀ c', c ≠ .loop c') → (∀ C : Ctx, C.nt = nt → SWP G C c (At e s) st) → Good G (.code nt c st) e s := fun h1 h2 h3 => ⟨h1, h3, fun c' hc => absurd hc (h2 c')⟩
  cases c with
  | skip => cases h; exact triv rfl (fun _ h => by cases h) fun C hC => .skip ⟨rfl, rfl⟩
  | label l => cases h; exact triv rfl (fun _ h => by cases h) fun C hC => .label ⟨rfl, rfl⟩
  | exit i => cases h; exact triv rfl (fun _ h => by cases h) fun C hC => .exit ⟨rfl, rfl⟩
  | ret => cases h; exact triv rfl (fun _ h => by cases h) fun C hC => .ret ⟨rfl, rfl⟩
  | seq a b =>
    simp only [runCode] at h
    split at h
    · rename_i s1 o h1
      obtain ⟨o', hh, rfl⟩ := app_some h; replace h := hh
      obtain ⟨_, g1, _⟩ := hr _ _ _ _ h1 hob.left
      obtain ⟨n2, g2, _⟩ := hr _ _ _ _ h hob.right
      exact triv n2 (fun _ h => by cases h) fun C hC => .seq ((g1 C hC).mono (At.mono (g2 C hC)))
    · rename_i hne
      obtain ⟨n1, g1, _⟩ := hr _ _ _ _ h hob
      refine triv n1 (fun _ h => by cases h) fun C hC => .seq ((g1 C hC).mono (At.mono ?_))
      cases e with
      | normal => exact absurd h (by intro hh; exact hne _ _ hh)
      | exit i => exact ⟨rfl, rfl⟩
      | ret => exact ⟨rfl, rfl⟩
      | panic x => exact ⟨rfl, rfl⟩
  | block id c =>
    simp only [runCode] at h
    split at h
    · rename_i i s1 o h1
      split at h
      · rename_i hb
        cases h
        obtain ⟨_, g1, _⟩ := hr _ _ _ _ h1 hob
        obtain rfl := Nat.eq_of_beq_eq_true hb
        exact triv rfl (fun _ h => by cases h) fun C hC => .block ((g1 C hC).mono (At.mono (by simp only [blockQ, if_true]; exact ⟨rfl, rfl⟩)))
      · rename_i hb
        cases h
        obtain ⟨_, g1, _⟩ := hr _ _ _ _ h1 hob
        have hne : i ≠ id := fun he => by subst he; rw [Nat.beq_refl] at hb; cases hb
        exact triv rfl (fun _ h => by cases h) fun C hC => .block ((g1 C hC).mono (At.mono (by simp only [blockQ, if_neg hne]; exact ⟨rfl, rfl⟩)))
    · rename_i hne
      obtain ⟨n1, g1, _⟩ := hr _ _ _ _ h hob
      refine triv n1 (fun _ h => by cases h) fun C hC => .block ((g1 C hC).mono (At.mono ?_))
      cases e with
      | exit i => exact absurd h (by intro hh; exact hne _ _ _ hh)
      | normal => exact ⟨rfl, rfl⟩
      | ret => exact ⟨rfl, rfl⟩
      | panic x => exact ⟨rfl, rfl⟩
  | scope c =>
    obtain ⟨n1, g1, _⟩ := hr _ _ _ _ h hob
    exact triv n1 (fun _ h => by cases h) fun C hC => .scope (g1 C hC)
  | cond x a b =>
    simp only [runCode] at h
    split at h
    · rename_i v hx
      split at h
      · rename_i o hw
        obtain ⟨o', hh, rfl⟩ := app_some h; replace h := hh
        obtain ⟨n1, g1, _⟩ := hr _ _ _ _ h hob.right
        have := way_ok (orc := S.orc) (nt := nt) (x := x) (b := v) (by rw [hw]; exact hob.left)
        rw [hw] at this
        simp only [] at this
        subst this
        exact triv n1 (fun _ h => by cases h) fun C hC => .cond hx (fun _ => g1 C hC) (fun h => by cases h)
      · rename_i o hw
        obtain ⟨o', hh, rfl⟩ := app_some h; replace h := hh
        obtain ⟨n1, g1, _⟩ := hr _ _ _ _ h hob.right
        have := way_ok (orc := S.orc) (nt := nt) (x := x) (b := v) (by rw [hw]; exact hob.left)
        rw [hw] at this
        simp only [] at this
        subst this
        exact triv n1 (fun _ h => by cases h) fun C hC => .cond hx (fun h => by cases h) (fun _ => g1 C hC)
    · cases h
  | loop c =>
    simp only [runCode] at h
    have fin : noPan e = true → (∃ m, ∀ C : Ctx, C.nt = nt → SRounds G C c (At e s) m st) → Good G (.code nt (.loop c) st) e s := fun h1 ⟨m, h2⟩ =>
      ⟨h1, fun C hC => (h2 C hC).loop, fun c' hc => by cases hc; exact ⟨m, h2⟩⟩
    split at h
    · rename_i s1 o h1
      obtain ⟨o', hh, rfl⟩ := app_some h; replace h := hh
      obtain ⟨_, g1, _⟩ := hr _ _ _ _ h1 hob.left
      obtain ⟨n2, _, g2⟩ := hr _ _ _ _ h hob.right
      obtain ⟨m, g3⟩ := g2 c rfl
      exact fin n2 ⟨m + 1, fun C hC => (g1 C hC).mono (At.mono (g3 C hC))⟩
    · rename_i hne
      obtain ⟨n1, g1, _⟩ := hr _ _ _ _ h hob
      refine fin n1 ⟨1, fun C hC => (g1 C hC).mono (At.mono ?_)⟩
      cases e with
      | normal => exact absurd h (by intro hh; exact hne _ _ hh)
      | exit i => exact ⟨rfl, rfl⟩
      | ret => exact ⟨rfl, rfl⟩
      | panic x => exact ⟨rfl, rfl⟩
  | region id ops draw =>
    cases draw with
    | false =>
      obtain ⟨rfl, g1⟩ := hr _ _ _ _ h hob
      exact triv rfl (fun _ h => by cases h) fun C hC => .plain rfl (g1 C hC)
    | true =>
      simp only [runCode] at h
      split at h
      · rename_i r hrr
        cases h
        obtain ⟨rfl, g1⟩ := hr _ _ _ _ hrr hob
        exact triv rfl (fun _ h => by cases h) fun C hC => .draw _ _ rfl (g1 C hC)
      · unfold drawAll at h
        split at h
        · rename_i z zs o hz
          cases h
          refine triv rfl (fun _ h => by cases h) fun C hC => ?_
          subst hC
          have h1 : SWP G C (.region id ops true) (fun e s => e = .normal ∧ s ∈ z :: zs) st := .draw _ _ rfl (runL_ok hr (fun x t ⟨h, _⟩ => by cases h) _ _ _ _ hz hob.left fun s hs => ⟨rfl, hs⟩)
          refine SWP.normQ (h1.mono fun e s ⟨he, hs⟩ => ⟨slotsOf ops st, he, ?_⟩)
          rcases List.mem_cons.1 hs with rfl | hs
          · rfl
          · exact of_sameS (hob (_, true) (List.mem_append_right _ (List.mem_map.2 ⟨s, hs, rfl⟩)))
        · cases h
  | rangeFunc | goto | refuse => cases h
theorem runOps_ok (hr : Snd G rec) {nt : Nat} {l : List SO} {e : AEx} {s : AS} {ob : Ob} (h : runOps S rec nt st l = some (e, s, ob)) (hob : okO ob) : Good G (.ops nt l st) e s := by
  unfold runOps at h
  split at h
  · cases h; exact ⟨rfl, fun C hC => .nil ⟨rfl, rfl⟩⟩
  · split at h
    · rename_i d op r z o hz
      split at h
      · rename_i z2 o2 hz2
        obtain ⟨o', hh, rfl⟩ := app_some h; replace h := hh
        obtain ⟨rfl, g1⟩ := hr _ _ _ _ h hob.right
        exact ⟨rfl, fun C hC => .cons (by subst hC; exact (opStep_ok hr hz hob.left.left (adj_ok hz2 hob.left.right (g1 C rfl))).1)⟩
      · cases h
    · cases h
  · split at h
    · rename_i b hb
      split at h
      · rename_i hd
        split at h
        rename_i v o hw
        split at h
        · rename_i hbw
          split at h
          · rename_i z o2 hz
            split at h
            · rename_i z2 o3 hz2
              obtain ⟨o', hh, rfl⟩ := app_some h; replace h := hh
              obtain ⟨rfl, g1⟩ := hr _ _ _ _ h hob.right
              have hv := way_ok (by rw [hw]; exact hob.left.left.left)
              rw [hw] at hv
              simp only [] at hv
              subst hv
              exact ⟨rfl, fun C hC => .guard hb (by subst hC; exact hd) (fun _ => by subst hC; exact (opStep_ok hr hz hob.left.left.right (adj_ok hz2 hob.left.right (g1 C rfl))).1) (fun hb' => by rw [hb'] at hbw; simp at hbw)⟩
            · cases h
          · cases h
        · rename_i hbw
          obtain ⟨o', hh, rfl⟩ := app_some h; replace h := hh
          obtain ⟨rfl, g1⟩ := hr _ _ _ _ h hob.right
          have hv := way_ok (by rw [hw]; exact hob.left)
          rw [hw] at hv
          simp only [] at hv
          subst hv
          exact ⟨rfl, fun C hC => .guard hb (by subst hC; exact hd) (fun hb' => by rw [hb'] at hbw; simp at hbw) (fun _ => g1 C hC)⟩
      · cases h
    · rename_i hb
      split at h
      · rename_i hd
        obtain ⟨rfl, g1⟩ := hr _ _ _ _ h hob
        exact ⟨rfl, fun C hC => .guardU hb (by subst hC; exact hd) (g1 C hC)⟩
      · cases h
    · cases h
  · cases h
theorem runAny_ok (hr : Snd G rec) {nt : Nat} {ops : Array Oper} {ds : List Nat} {n : Nat} {l : Array Bool} {e : AEx} {s : AS} {ob : Ob} (h : runAny S rec nt ops ds l st n = some (e, s, ob)) (hob : okO ob) : Good G (.any nt ops ds n l st) e s := by
  cases n with
  | zero =>
    simp only [runAny] at h
    split at h
    · rename_i h1
      cases h
      exact ⟨rfl, fun C hC => .done (by rw [h1]; rfl) ⟨rfl, rfl⟩⟩
    · cases h
  | succ n =>
    simp only [runAny] at h
    split at h
    · rename_i h1
      cases h
      exact ⟨rfl, fun C hC => .done (by rw [h1]; rfl) ⟨rfl, rfl⟩⟩
    · split at h
      · rename_i l' z o hz
        obtain ⟨o', hh, rfl⟩ := app_some h; replace h := hh
        obtain ⟨rfl, g1⟩ := hr _ _ _ _ h hob.right
        exact ⟨rfl, fun C hC => by subst hC; exact pick1_ok (panic_At rfl) hob.left _ hz (g1 C rfl)⟩
      · split at h
        · rename_i lst i hri
          split at h
          · rename_i l' z o hz
            obtain ⟨o', hh, rfl⟩ := app_some h; replace h := hh
            obtain ⟨rfl, g1⟩ := hr _ _ _ _ h hob.right
            refine ⟨rfl, fun C hC => ?_⟩
            subst hC
            unfold anyOne at hz
            split at hz
            · rename_i oo hi
              split at hz
              · rename_i hg
                split at hz
                · rename_i z' o2 hz'
                  split at hz
                  · rename_i z2 o3 hz2
                    cases hz
                    obtain ⟨e1, e2⟩ := adj_eq hz2 hob.left.right
                    obtain ⟨k1, k2⟩ := opStep_ok (Q := At .normal s) hr hz' hob.left.left (SAny.same e1 e2 (g1 C rfl))
                    by_cases hds : i ∈ ds
                    · exact .lastT hi hg (by simp [readyOk, hri]) hds (k1 oo rfl rfl)
                    · exact .oneT hi hg (by simp [readyOk, hri]) (k2 (by simpa using hds) oo rfl rfl)
                  · cases hz
                · cases hz
              · rename_i hg
                split at hz
                · rename_i hd
                  cases hz
                  exact .oneF hi hg hd (by simp [readyOk, hri]) (g1 C rfl)
                · cases hz
              · cases hz
            · cases hz
          · cases h
        · cases h
theorem finish_ok {fn : Func} {nb : Nat} {s z : AS} {e : AEx} {o o2 : Ob} (h : finish G fn nb s o = some (e, z, o2)) : o2 = o ∧ ∃ k r tl bx' rw, z = ⟨(k, r) :: tl, ⟨bx', rw⟩⟩ ∧ ∃ (m : Nat), nb ≤ m ∧ m ≤ s.h.bx.length ∧ aret G fn s = some r ∧ r.sc m = true ∧ ((s.h.bx.take m).all fun b => scL m b.cs) = true ∧ bx' = s.h.bx.take m := by
  unfold finish at h
  split at h
  · rename_i r hr
    split at h
    · rename_i hc
      cases h
      simp only [Bool.and_eq_true, Nat.ble_eq] at hc
      exact ⟨rfl, _, _, _, _, _, rfl, nb, Nat.le_refl _, hc.2, hr, hc.1.1, hc.1.2, rfl⟩
    · split at h
      · rename_i hc
        cases h
        simp only [Bool.and_eq_true, Nat.ble_eq] at hc
        exact ⟨rfl, _, _, _, _, _, rfl, s.h.bx.length, hc.2, Nat.le_refl _, hr, hc.1.1, by rw [List.take_length]; exact hc.1.2, rfl⟩
      · cases h
  · cases h
theorem runCall_ok (hr : Snd G rec) {f : Nat} {args : List PV} {bx : List Box} {e : AEx} {s : AS} {ob : Ob} (h : runCall S rec f args bx = some (e, s, ob)) (hob : okO ob) : Good G (.call f args bx) e s := by
  unfold runCall at h
  split at h
  · rename_i fn hF
    obtain ⟨a1, _, _⟩ := S.hF _ _ hF
    split at h
    · rename_i c hb hn
      have go : ∀ (e0 : AEx) (s0 : AS) (o : Ob), e0 = .normal ∨ e0 = .ret → rec (.code fn.ntmps c ⟨enum 0 args, ⟨bx, []⟩⟩) = some (e0, s0, o) → finish G fn bx.length (frzAll s0) o = some (e, s, ob) → Good G (.call f args bx) e s := fun e0 s0 o he0 h1 h2 => by
        obtain ⟨rfl, k, r, tl, bx', rw, rfl, m, h3, h4, h5, h6, h7, h8⟩ := finish_ok h2
        obtain ⟨_, g1, _⟩ := hr _ _ _ _ h1 hob
        refine ⟨k, r, tl, bx', rw, rfl, .of_swp a1 hb (by simpa using hn) fun w0 E0 => .frzAll ((g1 _ rfl).mono (At.mono ?_))⟩
        rcases he0 with rfl | rfl
        · exact ⟨m, r, h3, h4, h5, h6, h7, rfl, h8.symm⟩
        · exact ⟨m, r, h3, h4, h5, h6, h7, rfl, h8.symm⟩
      split at h
      · rename_i s0 o h1; exact go _ _ _ (.inl rfl) h1 h
      · rename_i s0 o h1; exact go _ _ _ (.inr rfl) h1 h
      · cases h
    · cases h
  · cases h
theorem run_ok (S : Cfg G) (n : Nat) : Snd G (run S n) := by
  induction n with
  | zero => intro cmd e s o h; cases h
  | succ n ih =>
    intro cmd e s o h hob
    have h' : stepR S (run S n) cmd = some (e, s, o) := h
    cases cmd with
    | code nt c st => exact runCode_ok ih h' hob
    | ops nt l st => exact runOps_ok ih h' hob
    | op => cases h'
    | any nt ops ds n l st => exact runAny_ok ih h' hob
    | call f args bx => exact runCall_ok ih h' hob
/-- What a call of closed arguments gives, and what is taken for true. -/
noncomputable def call (S : Cfg G) (n : Nat) (f : Nat) (args : List PV) : Option (PV × Ob) := match run S n (.call f args []) with
  | some (_, ⟨(_, r) :: _, ⟨[], _⟩⟩, o) => some (r, o)
  | _ => none
theorem Pure.runO {S : Cfg G} (n : Nat) {f : Nat} {args : List PV} {r : PV} {o : Ob} (h : call S n f args = some (r, o)) (ho : okO o) : Pure G f args (fun x => x = r) := by
  unfold call at h
  split at h
  · rename_i e k r' tl rw o' hrec
    cases h
    obtain ⟨k', r', tl', bx', rw', he, hc⟩ := run_ok S n _ _ _ _ hrec ho
    cases he
    exact hc.mono fun o b ⟨ho, hb⟩ => ⟨hb, _, ho, rfl⟩
  · cases h
theorem Pure.run {S : Cfg G} (n : Nat) {f : Nat} {args : List PV} {r : PV} (h : call S n f args = some (r, [])) : Pure G f args (fun x => x = r) := .runO n h (fun p hp => by cases hp)
end
end Go.AS
