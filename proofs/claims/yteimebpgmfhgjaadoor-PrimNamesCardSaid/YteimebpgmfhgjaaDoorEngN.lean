/- Abstract states (own engine), part N: regions that draw their order, with guards; the interpreter of closed runs. -/
import Derived.Test.YteimebpgmfhgjaaDoorEngM
namespace Go.AS
open Go.RowKit
set_option linter.unusedVariables false
set_option linter.unusedSimpArgs false

/-- Is the operation wanted? -/
def gq (ops : Array Oper) (st : AS) (o : Oper) : Option Bool := match o.guard with
  | none => some true
  | some (j, want) => match (ops[j]?).bind (·.dst) with
    | some d => match lk st.t d with
      | .bool b => some (b == want)
      | .tup [] => some false
      | _ => none
    | none => none
section
variable {G : Prg} {C : Ctx} {Q : AEx → AS → Prop} {K : AS → Prop} {st : AS} {ops : Array Oper} {ds : List Nat} {n : Nat}
theorem gq_ok {E : Env} {w : World} {tmps : Array Value} (hf : FRep E w st.t tmps) {o : Oper} {b : Bool} (h : gq ops st o = some b) : Region.wanted o (yielded ops tmps) = b := by
  unfold gq at h
  split at h
  · rename_i hg; cases h; simp [Region.wanted, hg]
  · rename_i j want hg
    split at h
    · rename_i d hj
      split at h
      · rename_i b' hb
        cases h
        have hv := hf d
        rw [hb] at hv
        simp only [Region.wanted, hg, yielded, hj]
        have := hv.bool_inv
        have hsz : tmps[d]? = some (.bool b') := by
          rw [Array.getD_eq_getD_getElem?] at this
          cases h : tmps[d]? with
          | none => rw [h] at this; simp [undef] at this
          | some v => rw [h] at this; simp at this; rw [this]
        simp [hsz]
      · rename_i hb
        cases h
        have hv := hf d
        rw [hb] at hv
        have hu := hv.und_inv
        simp only [Region.wanted, hg, yielded, hj]
        rw [Array.getD_eq_getD_getElem?] at hu
        cases h : tmps[d]? with
        | none => simp [h]
        | some v => rw [h] at hu; simp at hu; subst hu; simp [h, undef]
      · cases h
    · cases h
/-- The value of an operation that only computes, or isn't wanted. -/
def gval (G : Prg) (ops : Array Oper) (st : AS) (o : Oper) : Option PV := match gq ops st o with
  | some true => aval G st o.op
  | some false => some und
  | none => none
theorem SAny.takeG {i : Nat} {o : Oper} {l l' : Array Bool} {x : PV} (hi : ops[i]? = some o) (hx : gval G ops st o = some x) (hd : dstOk C.nt o.dst = true) (hc : takeOk ops ds l l' i = true)
    (hQ : PanicT Q) (h : SAny G C ops Q ds n l' (st.put o.dst x)) : SAny G C ops Q ds (n + 1) l st := fun E a w hr => by
  have key : ∃ v, YieldsIf G.P ops (From w) o v a ∧ VRep E w x v := by
    unfold gval at hx
    split at hx
    · rename_i hg
      obtain ⟨v, hrun, hv⟩ := aval_ok hr.fr hr.hp hx
      exact ⟨v, .inl ⟨gq_ok hr.fr hg, fun w' hw' => hrun w' hw'.1⟩, hv⟩
    · rename_i hg
      cases hx
      exact ⟨undef, .inr ⟨gq_ok hr.fr hg, rfl⟩, .und _ _⟩
    · cases hx
  obtain ⟨v, hy, hv⟩ := key
  simp only [takeOk, Bool.and_eq_true, beq_iff_eq] at hc
  obtain ⟨⟨⟨⟨⟨h1, h2⟩, h3⟩, h4⟩, h5⟩, rfl⟩ := hc
  refine wpG_first (w0 := w) hi (Region.noSelect_spec h1) (fun c a w => hQ.put o.dst v c a w) ops.size n l a w (Region.free_spec hi h2) (closed_of h4)
    (fun d hm hun => by have := List.all_eq_true.1 h5 d hm; rw [hun] at this; simpa using this) (by simpa using h3) hy ⟨Gr.refl w, Nat.le_refl _⟩ ?_
  exact h E _ w (hr.put hd hv)
theorem wpOp_wanted {P : Program} {Q : Exit → Act → World → Prop} {i : Nat} {o : Oper} (hi : ops[i]? = some o) {a : Act} (hg : Region.wanted o (yielded ops a.tmps) = true) {K : Act → World → Prop} {w : World} (h : o.wp P a w K Q) : wpOp P ops Q i K a w := by
  unfold wpOp
  simp only [hi, hg, if_true]
  exact .inl h
theorem wpOp_unwanted {P : Program} {Q : Exit → Act → World → Prop} {i : Nat} {o : Oper} (hi : ops[i]? = some o) {a : Act} (hg : Region.wanted o (yielded ops a.tmps) = false) {K : Act → World → Prop} {w : World} (h : K (a.put o.dst undef) w) : wpOp P ops Q i K a w := by
  unfold wpOp
  simp only [hi, hg]
  exact h
theorem SAny.oneF {i : Nat} {o : Oper} {l l' : Array Bool} (hi : ops[i]? = some o) (hg : gq ops st o = some false) (hd : dstOk C.nt o.dst = true) (hc : readyOk ops l [(i, l')] = true) (h : SAny G C ops Q ds n l' (st.put o.dst und)) : SAny G C ops Q ds (n + 1) l st := fun E a w hr => by
  simp only [readyOk, Bool.and_eq_true, beq_iff_eq, List.map_cons, List.map_nil, List.all_cons, List.all_nil, and_true] at hc
  obtain ⟨h1, rfl⟩ := hc
  refine ⟨fun h0 => (by rw [h0] at h1; cases h1), fun j hj => ?_⟩
  rw [h1] at hj
  obtain rfl : j = i := by simpa using hj
  exact wpOp_unwanted hi (gq_ok hr.fr hg) ⟨fun _ => ⟨Gr.refl w, Nat.le_refl _⟩, h E _ w (hr.put hd (.und _ _))⟩
theorem SAny.oneT {i : Nat} {o : Oper} {l l' : Array Bool} (hi : ops[i]? = some o) (hg : gq ops st o = some true) (hc : readyOk ops l [(i, l')] = true) (h : SOpG G C o Q (SAny G C ops Q ds n l') st) : SAny G C ops Q ds (n + 1) l st := fun E a w hr => by
  simp only [readyOk, Bool.and_eq_true, beq_iff_eq, List.map_cons, List.map_nil, List.all_cons, List.all_nil, and_true] at hc
  obtain ⟨h1, rfl⟩ := hc
  refine ⟨fun h0 => (by rw [h0] at h1; cases h1), fun j hj => ?_⟩
  rw [h1] at hj
  obtain rfl : j = i := by simpa using hj
  exact wpOp_wanted hi (gq_ok hr.fr hg) (Oper.wp_mono (fun a' w' ⟨hgr, s, E', k, r⟩ => ⟨fun _ => hgr, k E' a' w' r⟩) (h E a w hr))
theorem SAny.lastT {i : Nat} {o : Oper} {l l' : Array Bool} (hi : ops[i]? = some o) (hg : gq ops st o = some true) (hc : readyOk ops l [(i, l')] = true) (hd : i ∈ ds) (h : SOp G C o Q (SAny G C ops Q ds n l') st) : SAny G C ops Q ds (n + 1) l st := fun E a w hr => by
  simp only [readyOk, Bool.and_eq_true, beq_iff_eq, List.map_cons, List.map_nil, List.all_cons, List.all_nil, and_true] at hc
  obtain ⟨h1, rfl⟩ := hc
  refine ⟨fun h0 => (by rw [h0] at h1; cases h1), fun j hj => ?_⟩
  rw [h1] at hj
  obtain rfl : j = i := by simpa using hj
  exact wpOp_wanted hi (gq_ok hr.fr hg) (Oper.wp_mono (fun a' w' ⟨s, E', k, r⟩ => ⟨fun hn => absurd hd hn, k E' a' w' r⟩) (h E a w hr))
end

mutual
/-- The rows that a value refers to. -/
def PV.refs : PV → List Nat
  | .own r _ | .rpos r _ => [r]
  | .func _ cap => refsL cap
  | .agg cs => refsL cs
  | .tup cs => refsL cs
  | .iface _ x => x.refs
  | .int _ _ | .bool _ | .str _ | .slice _ _ | .nil | .epos _ | .ptr _ _ | .bsl _ _ _ | .nilptr | .nilfunc | .niliface | .junk => []
def refsL : List PV → List Nat
  | [] => []
  | x :: xs => x.refs ++ refsL xs
end

/-- What a closed run needs: the functions, and laws of some. -/
structure Cfg (G : Prg) where
  F : Nat → Option Func
  hF : ∀ f fn, F f = some fn → G.P.funcs[f]? = some fn ∧ (fn.name == "runtime.NumGoroutine") = false ∧ fn.body.isSome = true
  S : Nat → List PV → Option (PV × List (Bool × Bool))
  hS : ∀ f args r o, S f args = some (r, o) → (∀ p ∈ o, p.1 = p.2) → pureL args = true → Pure G f args (fun x => x = r)
  orc : Nat → Nat → Option Bool := fun _ _ => none
  B : Nat → List PV → Box → Option (PV × Box × List (Bool × Bool)) := fun _ _ _ => none
  hB : ∀ f xs x r x' o, B f xs x = some (r, x', o) → (∀ p ∈ o, p.1 = p.2) → PCalls G f xs [x] (fun o' b' => o' = .ret r ∧ b' = [x']) ∧ r.sc 0 = true ∧ scL 0 x.cs = true ∧ scL 0 x'.cs = true := by intro _ _ _ _ _ _ h; cases h
  D : Nat → Bool := fun _ => false
  val : Nat → Nat → Option PV := fun _ _ => none
  W : Nat → List PV → Option (Row × List (Bool × Bool)) := fun _ _ => none
  hW : ∀ f args row o, W f args = some (row, o) → (∀ p ∈ o, p.1 = p.2) → Fresh G f args row := by intro _ _ _ _ h; cases h
  tst : Bool := false

open Classical in
/-- Two values are one: the kernel never looks. -/
noncomputable def same (x y : PV) : Bool := decide (x = y)
theorem same_of {x y : PV} (h : x = y) : same x y = true := by unfold same; classical exact decide_eq_true h
theorem of_same {x y : PV} (h : same x y = true) : x = y := by unfold same at h; classical exact of_decide_eq_true h

inductive Cmd where
  | code (nt : Nat) (c : Code) (st : AS)
  | ops (nt : Nat) (l : List SO) (st : AS)
  | op (nt : Nat) (d : Option Tmp) (op : Op) (row g : Bool) (st : AS)
  | any (nt : Nat) (ops : Array Oper) (ds : List Nat) (n : Nat) (l : Array Bool) (st : AS)
  | call (f : Nat) (args : List PV) (bx : List Box)

/-- The slot is the first argument of an append further on. -/
def grows (d : Option Tmp) : List SO → Bool
  | [] => false
  | ⟨_, .call ⟨.builtin .append, ⟨.tmp t :: _⟩, _⟩, _⟩ :: r => (match d with | some k => Nat.beq k t | none => false) || grows d r
  | _ :: r => grows d r
def isDs (D : Nat → Bool) : Op → Bool
  | .store .. | .call ⟨.builtin .append, _, _⟩ | .call ⟨.value (.tmp _), _, _⟩ => true
  | .call ⟨.value (.func f), _, _⟩ => D f
  | _ => false
/-- A slice that is written out for an append. -/
def isRow (ops : Array Oper) (o : Oper) : Bool := match o.op with
  | .buildSlice _ _ _ => grows o.dst (strip ops.toList ops.toList)
  | _ => false
def dsOf (D : Nat → Bool) (ops : Array Oper) : List Nat := (List.range ops.size).filter fun i => match ops[i]? with
  | some o => isDs D o.op || isRow ops o
  | none => false
/-- What a run takes for true: pairs that are equal. -/
abbrev Ob := List (Bool × Bool)
def okO (o : Ob) : Prop := ∀ p ∈ o, p.1 = p.2
def told (orc : Nat → Nat → Option Bool) (nt : Nat) (d : Option Tmp) : Bool := match d with
  | some k => match orc nt k with
    | some _ => true
    | none => false
  | none => false
/-- A value that hangs on what is told: a divisor isn't zero, an index is in range, what is read is long enough. -/
def tval (G : Prg) (st : AS) : Op → Option (PV × Ob)
  | .binOp .quo _ x y _ => match st.ev G.Γ x, st.ev G.Γ y with
    | .int k a, .int j b => match decide (k = j) with
      | true => some (.int k (k.wrap (a.tdiv b)), [(decide (b = 0), false)])
      | false => none
    | _, _ => none
  | .binOp .rem _ x y _ => match st.ev G.Γ x, st.ev G.Γ y with
    | .int k a, .int j b => match decide (k = j) with
      | true => some (.int k (a.tmod b), [(decide (b = 0), false)])
      | false => none
    | _, _ => none
  | .indexAddr t x y => match G.T t, st.ev G.Γ x, st.ev G.Γ y with
    | some ⟨.slice e, _, _, _⟩, .slice m cs, .int _ i => match G.T e with
      | some td => some (.epos (cs.drop (i.toNat * td.size)), [(decide (0 ≤ i ∧ i < (m : Int)), true)])
      | none => none
    | some ⟨.slice e, _, _, _⟩, .own r n, .int _ i => match G.T e, st.h.rw[r]? with
      | some td, some (some _) => some (.rpos r (i.toNat * td.size), [(decide (0 ≤ i ∧ i < (n : Int)), true)])
      | _, _ => none
    | _, _, _ => none
  | .load t x => match G.T t, st.cellsAt (st.ev G.Γ x) with
    | some td, some cs => match Nat.ble 1 td.size with
      | true => match td.k.agg with
        | true => some (.agg (cs.take td.size), [(decide (td.size ≤ cs.length), true)])
        | false => match Nat.beq td.size 1 with
          | true => some (cs.headD .junk, [(decide (td.size ≤ cs.length), true)])
          | false => none
      | false => none
    | _, _ => none
  | .index t x y => match G.T t, st.ev G.Γ x, st.ev G.Γ y with
    | some ⟨.str, _, _, _⟩, .str s, .int _ i => some (.int .u8 (bt s i), [(decide (0 ≤ i ∧ i < (s.size : Int)), true)])
    | _, _, _ => none
  | .slice t x lo hi none => match G.T t, st.ev G.Γ x with
    | some ⟨.str, _, _, _⟩, .str s => match bound 0 (lo.map (st.ev G.Γ)), bound s.size (hi.map (st.ev G.Γ)) with
      | some l, some h => some (.str (s.extract l.toNat h.toNat), [(decide (0 ≤ l ∧ l ≤ h ∧ h ≤ (s.size : Int)), true)])
      | _, _ => none
    | some ⟨.slice e, _, _, _⟩, .slice n cs => match G.T e, bound 0 (lo.map (st.ev G.Γ)), bound n (hi.map (st.ev G.Γ)) with
      | some td, some l, some h => some (.slice (h.toNat - l.toNat) ((cs.drop (l.toNat * td.size)).take ((h.toNat - l.toNat) * td.size)), [(decide (0 ≤ l ∧ l ≤ h ∧ h ≤ (n : Int) ∧ cs.length = n * td.size), true)])
      | _, _, _ => none
    | _, _ => none
  | _ => none
theorem tval_ok {G : Prg} {st : AS} {op : Op} {x : PV} {o : Ob} (h : tval G st op = some (x, o)) (ho : okO o) : aval G st op = some x := by
  have one : ∀ {p : Bool × Bool}, okO [p] → p.1 = p.2 := fun h => h _ (List.mem_singleton.2 rfl)
  unfold tval at h
  split at h
  · split at h
    · rename_i k a j b hx hy
      split at h
      · rename_i hc
        cases h
        obtain rfl := of_decide_eq_true hc
        have hb : ¬ b = 0 := by simpa using one ho
        simp [aval, hx, hy, abin, hb]
      · cases h
    · cases h
  · split at h
    · rename_i k a j b hx hy
      split at h
      · rename_i hc
        cases h
        obtain rfl := of_decide_eq_true hc
        have hb : ¬ b = 0 := by simpa using one ho
        simp [aval, hx, hy, abin, hb]
      · cases h
    · cases h
  · split at h
    · rename_i e a b c m cs k i ht hx hy
      split at h
      · rename_i td hte
        cases h
        have hb : 0 ≤ i ∧ i < (m : Int) := by simpa using one ho
        simp [aval, aidx, ht, hx, hy, hte, hb]
      · cases h
    · rename_i e a b c r n k i ht hx hy
      split at h
      · rename_i td row hte hrow
        cases h
        have hb : 0 ≤ i ∧ i < (n : Int) := by simpa using one ho
        simp [aval, aidx, ht, hx, hy, hte, hrow, hb]
      · cases h
    · cases h
  · split at h
    · rename_i td cs ht hx
      split at h
      · rename_i hc
        simp only [Nat.ble_eq] at hc
        split at h
        · rename_i ha
          cases h
          have hb : td.size ≤ cs.length := by simpa using one ho
          simp only [aval, aload, ht, hx]
          rw [if_pos ⟨hb, hc⟩, if_pos ha]
        · rename_i ha
          split at h
          · rename_i h1
            cases h
            have hb : td.size ≤ cs.length := by simpa using one ho
            simp only [aval, aload, ht, hx]
            rw [if_pos ⟨hb, hc⟩, if_neg (by rw [ha]; simp), if_pos (Nat.eq_of_beq_eq_true h1)]
          · cases h
      · cases h
    · cases h
  · split at h
    · rename_i a b c s k i ht hx hy
      cases h
      have hb : 0 ≤ i ∧ i < (s.size : Int) := by simpa using one ho
      simp [aval, aindex, ht, hx, hy, hb]
    · cases h
  · split at h
    · rename_i a b c s ht hx
      split at h
      · rename_i l h' h1 h2
        cases h
        have hb : 0 ≤ l ∧ l ≤ h' ∧ h' ≤ (s.size : Int) := by simpa using one ho
        simp only [aval, aslice, ht, hx, h1, h2]
        rw [if_pos hb]
      · cases h
    · rename_i e a b c n cs ht hx
      split at h
      · rename_i td l h' hte h1 h2
        cases h
        have hb : 0 ≤ l ∧ l ≤ h' ∧ h' ≤ (n : Int) ∧ cs.length = n * td.size := by simpa using one ho
        simp only [aval, aslice, ht, hx, hte, h1, h2]
        rw [if_pos hb]
      · cases h
    · cases h
  · cases h
/-- The value of an operation that only computes, or isn't wanted; told or not. -/
def gvalT (G : Prg) (orc : Nat → Nat → Option Bool) (nt : Nat) (ops : Array Oper) (st : AS) (o : Oper) : Option (PV × Ob) := match gq ops st o with
  | some true => match told orc nt o.dst, tval G st o.op with
    | true, some r => some r
    | _, _ => match aval G st o.op with
      | some x => some (x, [])
      | none => none
  | some false => some (und, [])
  | none => none
theorem gvalT_ok {G : Prg} {orc : Nat → Nat → Option Bool} {nt : Nat} {ops : Array Oper} {st : AS} {o : Oper} {x : PV} {ob : Ob} (h : gvalT G orc nt ops st o = some (x, ob)) (ho : okO ob) : gval G ops st o = some x := by
  unfold gvalT at h
  unfold gval
  split at h
  · rename_i hg
    split at h
    · rename_i r _ ht
      cases h
      exact tval_ok ht ho
    · split at h
      · rename_i hx; cases h; exact hx
      · cases h
  · rename_i hg
    cases h
    rfl
  · cases h
/-- A value, by another word for it. -/
noncomputable def sub (val : Nat → Nat → Option PV) (nt : Nat) (d : Option Tmp) (x : PV) (o : Ob) : PV × Ob := match d with
  | none => (x, o)
  | some k => match val nt k with
    | none => (x, o)
    | some y => (y, o ++ [(same x y, true)])
theorem sub_ok {val : Nat → Nat → Option PV} {nt : Nat} {d : Option Tmp} {x y : PV} {o ob : Ob} (h : sub val nt d x o = (y, ob)) (ho : okO ob) : y = x ∧ okO o := by
  unfold sub at h
  split at h
  · cases h; exact ⟨rfl, ho⟩
  · split at h
    · cases h; exact ⟨rfl, ho⟩
    · cases h
      exact ⟨(of_same (ho _ (List.mem_append_right _ (List.mem_singleton.2 rfl)))).symm, fun p hp => ho p (List.mem_append_left _ hp)⟩
/-- The first that may be taken, of those that are ready. -/
noncomputable def pick1 (G : Prg) (orc : Nat → Nat → Option Bool) (val : Nat → Nat → Option PV) (nt : Nat) (ops : Array Oper) (ds : List Nat) (l : Array Bool) (st : AS) : List Nat → Option (Array Bool × AS × Ob)
  | [] => none
  | i :: is => match ops[i]? with
    | some o => match gvalT G orc nt ops st o with
      | some (x, ob) => match dstOk nt o.dst && takeOk ops ds l (l.setIfInBounds i true) i with
        | true => match sub val nt o.dst x ob with
          | (y, ob') => some (l.setIfInBounds i true, st.put o.dst y, ob')
        | false => pick1 G orc val nt ops ds l st is
      | none => pick1 G orc val nt ops ds l st is
    | none => pick1 G orc val nt ops ds l st is
theorem pick1_ok {G : Prg} {C : Ctx} {orc : Nat → Nat → Option Bool} {val : Nat → Nat → Option PV} {ops : Array Oper} {ds : List Nat} {l l' : Array Bool} {st s : AS} {ob : Ob} {Q : AEx → AS → Prop} {n : Nat} (hQ : PanicT Q) (ho : okO ob) : ∀ is : List Nat, pick1 G orc val C.nt ops ds l st is = some (l', s, ob) → SAny G C ops Q ds n l' s → SAny G C ops Q ds (n + 1) l st := by
  intro is
  induction is with
  | nil => intro h; cases h
  | cons i is ih =>
    intro h
    simp only [pick1] at h
    split at h
    · rename_i o hi
      split at h
      · rename_i x ob' hx
        split at h
        · rename_i hc
          cases h
          obtain ⟨h2, h3⟩ := sub_ok (y := (sub val C.nt o.dst x ob').1) rfl ho
          simp only [Bool.and_eq_true] at hc
          rw [h2]
          exact fun h => .takeG hi (gvalT_ok hx h3) hc.1 hc.2 hQ h
        · exact ih h
      · exact ih h
    · exact ih h
section
variable {G : Prg} {C : Ctx} {Q : AEx → AS → Prop} {K : AS → Prop} {st : AS}
def SOneG (G : Prg) (C : Ctx) (d : Option Tmp) (op : Op) (Q : AEx → AS → Prop) (K : AS → Prop) (st : AS) : Prop := ∀ o : Oper, o.dst = d → o.op = op → SOpG G C o Q K st
theorem SOneG.one {d : Option Tmp} {op : Op} (h : SOneG G C d op Q K st) : SOne G C d op Q K st := fun o h1 h2 => (h o h1 h2).op
/-- What leaves all as it was. -/
def stepG (G : Prg) (n : Nat) (st : AS) (d : Option Tmp) : Op → Option AS
  | .box t x => match (st.ev G.Γ x).part && dstOk n d with
    | true => some (st.newBox (st.ev G.Γ x).cells t d)
    | false => none
  | .alloc t => match G.T t with
    | some td => match dstOk n d with
      | true => some (st.newBox td.zero t d)
      | false => none
    | none => none
  | op => match aval G st op with
    | some x => match dstOk n d with
      | true => some (st.put d x)
      | false => none
    | none => none
theorem stepG_ok {d : Option Tmp} {op : Op} {s : AS} (h : stepG G C.nt st d op = some s) (hK : K s) : SOneG G C d op Q K st := fun o hd ho => by
  unfold stepG at h
  split at h
  · rename_i t x
    split at h
    · rename_i h1
      cases h
      subst hd
      simp only [Bool.and_eq_true] at h1
      exact .box ho h1.1 h1.2 hK
    · cases h
  · rename_i t
    split at h
    · rename_i td h1
      split at h
      · rename_i h2
        cases h
        subst hd
        exact .alloc ho h1 h2 hK
      · cases h
    · cases h
  · split at h
    · rename_i x h1
      split at h
      · rename_i h2
        cases h
        subst hd
        rw [← ho] at h1
        exact .val h1 h2 hK
      · cases h
    · cases h
/-- A slice that is written out. -/
def sliceAt (G : Prg) (n : Nat) (st : AS) (d : Option Tmp) (row : Bool) (t : TypeId) (len : Nat) (parts : Array (Nat × Operand)) : Option AS :=
  match G.T t with
  | some ⟨.slice e, _, _, _⟩ => match G.T e with
    | some td => match abuildSlice td.size len (parts.toList.map fun p => (p.1, st.ev G.Γ p.2)) with
      | some out => match Nat.ble (len * td.size) 16777216 && Nat.ble len 16777216 && pureL out && allOne out && dstOk n d with
        | true => some (bif row then (st.newRow ⟨out, len, e, td.size⟩).put d (.own st.h.rw.length len) else st.put d (.slice len out))
        | false => none
      | none => none
    | none => none
  | _ => none
theorem sliceAt_ok {d : Option Tmp} {row : Bool} {t : TypeId} {len : Nat} {parts : Array (Nat × Operand)} {s : AS} (h : sliceAt G C.nt st d row t len parts = some s) (hK : K s) :
    SOne G C d (.buildSlice t len parts) Q K st ∧ (row = false → SOneG G C d (.buildSlice t len parts) Q K st) := by
  unfold sliceAt at h
  split at h
  · rename_i e a b c ht
    split at h
    · rename_i td hte
      split at h
      · rename_i out hout
        split at h
        · rename_i hc
          simp only [Bool.and_eq_true, Nat.ble_eq] at hc
          obtain ⟨⟨⟨⟨h1, h2⟩, h3⟩, h4⟩, h5⟩ := hc
          cases row with
          | true =>
            cases h
            exact ⟨fun o hd ho => by subst hd; exact .buildRow ho ht rfl hte hout h1 h2 h3 h4 h5 hK, fun h => by cases h⟩
          | false =>
            cases h
            have : SOneG G C d (.buildSlice t len parts) Q K st := fun o hd ho => by subst hd; exact .buildSlice ho ht rfl hte hout h1 h3 h4 h5 hK
            exact ⟨this.one, fun _ => this⟩
        · cases h
      · cases h
    · cases h
  · cases h
def stepSl (G : Prg) (n : Nat) (st : AS) (d : Option Tmp) (row : Bool) (t : TypeId) (len : Nat) (parts : Array (Nat × Operand)) : Option AS :=
  sliceAt G n (frz (refsL (parts.toList.map fun p => st.ev G.Γ p.2)) st) d row t len parts
theorem stepSl_ok {d : Option Tmp} {row : Bool} {t : TypeId} {len : Nat} {parts : Array (Nat × Operand)} {s : AS} (h : stepSl G C.nt st d row t len parts = some s) (hK : K s) :
    SOne G C d (.buildSlice t len parts) Q K st ∧ (row = false → SOneG G C d (.buildSlice t len parts) Q K st) := by
  have := sliceAt_ok (Q := Q) h hK
  exact ⟨fun o h1 h2 => .frz _ (this.1 o h1 h2), fun hr o h1 h2 => .frz _ (this.2 hr o h1 h2)⟩
/-- A store. -/
def stepSt (G : Prg) (n : Nat) (tst : Bool) (st0 : AS) (d : Option Tmp) (t : TypeId) (p v : Operand) : Option (AS × Ob) := match d with
  | some _ => none
  | none => match st0.ev G.Γ p with
    | .ptr b k => match st0.h.bx[b]? with
      | some x => match G.T t with
        | some td => match (st0.ev G.Γ v).part && allOne (st0.ev G.Γ v).cells && Nat.beq (st0.ev G.Γ v).cells.length td.size && Nat.ble (k + td.size) x.cs.length with
          | true => some (st0.storeBox b k x (st0.ev G.Γ v).cells, [])
          | false => none
        | none => none
      | none => none
    | .rpos _ _ =>
      let st := frz (st0.ev G.Γ v).refs st0
      match st.ev G.Γ p with
      | .rpos r k => match st.h.rw[r]? with
        | some (some x) => match G.T t with
          | some td => match (st.ev G.Γ v).part && allOne (st.ev G.Γ v).cells && pureL (st.ev G.Γ v).cells && Nat.beq (st.ev G.Γ v).cells.length td.size with
            | true => match tst with
              | true => some (st.storeRow r k x (st.ev G.Γ v).cells, [(Nat.ble (k + td.size) x.cs.length, true)])
              | false => match Nat.ble (k + td.size) x.cs.length with
                | true => some (st.storeRow r k x (st.ev G.Γ v).cells, [])
                | false => none
            | false => none
          | none => none
        | _ => none
      | _ => none
    | _ => none
theorem stepSt_ok {d : Option Tmp} {t : TypeId} {p v : Operand} {s : AS} {tst : Bool} {ob : Ob} (h : stepSt G C.nt tst st d t p v = some (s, ob)) (hob : okO ob) (hK : K s) : SOne G C d (.store t p v) Q K st := fun o hd ho => by
  unfold stepSt at h
  split at h
  · cases h
  split at h
  · rename_i b k hp
    split at h
    · rename_i x hb
      split at h
      · rename_i td ht
        split at h
        · rename_i hc
          cases h
          simp only [Bool.and_eq_true, Nat.ble_eq, Nat.beq_eq] at hc
          exact .store ho hd hp hb ht hc.1.1.1 hc.1.1.2 hc.1.2 hc.2 hK
        · cases h
      · cases h
    · cases h
  · simp only [] at h
    split at h
    · rename_i r k hp
      split at h
      · rename_i x hx
        split at h
        · rename_i td ht
          split at h
          · rename_i hc
            simp only [Bool.and_eq_true, Nat.beq_eq] at hc
            split at h
            · cases h
              have h5 := hob _ (List.mem_singleton.2 rfl)
              simp only [Nat.ble_eq] at h5
              exact .frz _ (.storeRow ho hd hp hx ht hc.1.1.1 hc.1.1.2 hc.1.2 hc.2 h5 hK)
            · split at h
              · rename_i h5
                cases h
                simp only [Nat.ble_eq] at h5
                exact .frz _ (.storeRow ho hd hp hx ht hc.1.1.1 hc.1.1.2 hc.1.2 hc.2 h5 hK)
              · cases h
          · cases h
        · cases h
      · cases h
    · cases h
  · cases h
/-- An append. -/
def appendAt (G : Prg) (n : Nat) (st : AS) (d : Option Tmp) (tl : Bool) (s x : Operand) (t : TypeId) : Option (AS × Ob) :=
  match st.ev G.Γ s with
  | .own r k => match srcOf (st.ev G.Γ x), st.h.rw[r]?, G.T t with
    | some (m, cs), some (some row), some ⟨.slice e, _, _, _⟩ => match G.T e with
      | some td => match Nat.beq row.ty e && Nat.beq row.sz td.size && Nat.beq td.zero.length td.size && Nat.ble 1 td.size && dstOk n d with
        | true => match tl with
          | true => some ((st.setRow r ⟨row.cs ++ cs, row.n + m, row.ty, row.sz⟩).put d (.own r (row.n + m)), [(Nat.beq cs.length (m * td.size), true), (Nat.ble ((row.n + m) * td.bytes) 140737488355328, true), (Nat.ble (row.n + m) 9223372036854775807, true)])
          | false => match Nat.beq cs.length (m * td.size) && Nat.ble ((row.n + m) * td.bytes) 140737488355328 && Nat.ble (row.n + m) 9223372036854775807 with
            | true => some ((st.setRow r ⟨row.cs ++ cs, row.n + m, row.ty, row.sz⟩).put d (.own r (row.n + m)), [])
            | false => none
        | false => none
      | none => none
    | _, _, _ => none
  | _ => none
theorem appendAt_ok {o : Oper} {s x : Operand} {t : TypeId} {z : AS} (ho : o.op = .call ⟨.builtin .append, #[s, x], #[t, t]⟩) {tl : Bool} {ob : Ob} (h : appendAt G C.nt st o.dst tl s x t = some (z, ob)) (hob : okO ob) (hK : K z) : SOp G C o Q K st := by
  unfold appendAt at h
  split at h
  · rename_i r k hs
    split at h
    · rename_i m cs row e a b c hx hrow ht
      split at h
      · rename_i td hte
        split at h
        · rename_i hc
          simp only [Bool.and_eq_true, Nat.ble_eq, Nat.beq_eq] at hc
          obtain ⟨⟨⟨⟨h1, h2⟩, h3⟩, h4⟩, h6⟩ := hc
          split at h
          · cases h
            have h5 := hob (Nat.beq cs.length (m * td.size), true) (by simp)
            have h7 := hob (Nat.ble ((row.n + m) * td.bytes) 140737488355328, true) (by simp)
            have h8 := hob (Nat.ble (row.n + m) 9223372036854775807, true) (by simp)
            simp only [Nat.ble_eq, Nat.beq_eq] at h5 h7 h8
            exact .append ho hs hx hrow ht rfl hte h1 h2 h3 h4 h5 h6 h7 h8 hK
          · split at h
            · rename_i hc
              cases h
              simp only [Bool.and_eq_true, Nat.ble_eq, Nat.beq_eq] at hc
              exact .append ho hs hx hrow ht rfl hte h1 h2 h3 h4 hc.1.1 h6 hc.1.2 hc.2 hK
            · cases h
        · cases h
      · cases h
    · cases h
  · cases h
def ownAp (G : Prg) (n : Nat) (st : AS) (d : Option Tmp) (tl : Bool) (s x : Operand) (t : TypeId) : Option (AS × Ob) :=
  match s with
  | .tmp k => match lk st.t k with
    | .own _ _ => appendAt G n st d tl (.tmp k) x t
    | .nil => match G.T t with
      | some ⟨.slice e, _, _, _⟩ => match G.T e with
        | some td => appendAt G n (st.adopt k e td.size) d tl (.tmp k) x t
        | none => none
      | _ => none
    | _ => none
  | _ => none
theorem ownAp_ok {o : Oper} {s x : Operand} {t : TypeId} {z : AS} (ho : o.op = .call ⟨.builtin .append, #[s, x], #[t, t]⟩) {tl : Bool} {ob : Ob} (h : ownAp G C.nt st o.dst tl s x t = some (z, ob)) (hob : okO ob) (hK : K z) : SOp G C o Q K st := by
  unfold ownAp at h
  split at h
  · rename_i k
    split at h
    · exact appendAt_ok ho h hob hK
    · rename_i hs
      split at h
      · split at h
        · exact .adopt k _ _ hs (appendAt_ok ho h hob hK)
        · cases h
      · cases h
    · cases h
  · cases h
def stepAp (G : Prg) (n : Nat) (st : AS) (d : Option Tmp) (tl : Bool) (s x : Operand) (t t' : TypeId) : Option (AS × Ob) :=
  match Nat.beq t t' with
  | false => none
  | true => ownAp G n (frz (st.ev G.Γ x).refs st) d tl s x t
theorem stepAp_ok {d : Option Tmp} {s x : Operand} {t t' : TypeId} {z : AS} {tl : Bool} {ob : Ob} (h : stepAp G C.nt st d tl s x t t' = some (z, ob)) (hob : okO ob) (hK : K z) : SOne G C d (.call ⟨.builtin .append, #[s, x], #[t, t']⟩) Q K st := fun o hd ho => by
  unfold stepAp at h
  split at h
  · cases h
  · rename_i ht
    obtain rfl : t = t' := Nat.eq_of_beq_eq_true ht
    subst hd
    exact .frz _ (ownAp_ok ho h hob hK)
end
section
variable {G : Prg} {C : Ctx} {Q : AEx → AS → Prop} {st : AS} {ops : Array Oper} {ds : List Nat} {n : Nat}
/-- Each that is ready. -/
theorem SAny.all {l : Array Bool} (hne : Region.ready .any ops l ≠ []) (h : ∀ i ∈ Region.ready .any ops l, ∃ o, ops[i]? = some o ∧
    ((gq ops st o = some true ∧ ((i ∈ ds ∧ SOp G C o Q (SAny G C ops Q ds n (l.setIfInBounds i true)) st) ∨ SOpG G C o Q (SAny G C ops Q ds n (l.setIfInBounds i true)) st)) ∨
     (gq ops st o = some false ∧ dstOk C.nt o.dst = true ∧ SAny G C ops Q ds n (l.setIfInBounds i true) (st.put o.dst und)))) : SAny G C ops Q ds (n + 1) l st := fun E a w hr => by
  refine ⟨fun h0 => absurd h0 hne, fun i hi => ?_⟩
  obtain ⟨o, ho, h | ⟨hg, hd, h⟩⟩ := h i hi
  · obtain ⟨hg, ⟨hm, h⟩ | h⟩ := h
    · exact wpOp_wanted ho (gq_ok hr.fr hg) (Oper.wp_mono (fun a' w' ⟨s, E', k, r⟩ => ⟨fun hn => absurd hm hn, k E' a' w' r⟩) (h E a w hr))
    · exact wpOp_wanted ho (gq_ok hr.fr hg) (Oper.wp_mono (fun a' w' ⟨hgr, s, E', k, r⟩ => ⟨fun _ => hgr, k E' a' w' r⟩) (h E a w hr))
  · exact wpOp_unwanted ho (gq_ok hr.fr hg) ⟨fun _ => ⟨Gr.refl w, Nat.le_refl _⟩, h E _ w (hr.put hd (.und _ _))⟩
abbrev Outs := List AS × Ob
def pre (o : Ob) : Option Outs → Option Outs
  | some (l, o') => some (l, o ++ o')
  | none => none
theorem pre_some {o : Ob} {r : Option Outs} {outs : Outs} (h : pre o r = some outs) : ∃ o', r = some (outs.1, o') ∧ outs.2 = o ++ o' := by
  cases r with
  | none => cases h
  | some l => obtain ⟨l, o'⟩ := l; cases h; exact ⟨o', rfl, rfl⟩
def eachOf (f : Nat → Option Outs) : List Nat → Option Outs
  | [] => some ([], [])
  | i :: is => match f i, eachOf f is with
    | some (a, o), some (b, o') => some (a ++ b, o ++ o')
    | _, _ => none
theorem eachOf_some {f : Nat → Option Outs} : ∀ {is : List Nat} {outs : Outs}, eachOf f is = some outs → ∀ i ∈ is, ∃ a, f i = some a ∧ (∀ p ∈ a.1, p ∈ outs.1) ∧ ∀ p ∈ a.2, p ∈ outs.2
  | [], _, _, i, hi => by cases hi
  | j :: is, outs, h, i, hi => by
    simp only [eachOf] at h
    split at h
    · rename_i a o b o' ha hb
      cases h
      rcases List.mem_cons.1 hi with rfl | hi
      · exact ⟨_, ha, fun p hp => List.mem_append_left _ hp, fun p hp => List.mem_append_left _ hp⟩
      · obtain ⟨c, h1, h2, h3⟩ := eachOf_some hb i hi
        exact ⟨c, h1, fun p hp => List.mem_append_right _ (h2 p hp), fun p hp => List.mem_append_right _ (h3 p hp)⟩
    · cases h
/-- The first that hangs on no world. -/
def pickF (G : Prg) (nt : Nat) (ops : Array Oper) (l : Array Bool) (st : AS) : List Nat → Option (Array Bool × AS)
  | [] => none
  | i :: is => match ops[i]? with
    | some o => match o.guard, mval G st o.op with
      | none, some v => match dstOk nt o.dst && freeOk ops l (l.setIfInBounds i true) i with
        | true => some (l.setIfInBounds i true, st.put o.dst v)
        | false => pickF G nt ops l st is
      | _, _ => pickF G nt ops l st is
    | none => pickF G nt ops l st is
theorem pickF_ok {l l' : Array Bool} {s : AS} (hQ : PanicT Q) : ∀ is : List Nat, pickF G C.nt ops l st is = some (l', s) → SAny G C ops Q ds n l' s → SAny G C ops Q ds (n + 1) l st := by
  intro is
  induction is with
  | nil => intro h; cases h
  | cons i is ih =>
    intro h
    simp only [pickF] at h
    split at h
    · rename_i o hi
      split at h
      · rename_i v hg hv
        split at h
        · rename_i hc
          cases h
          simp only [Bool.and_eq_true] at hc
          exact fun h => .free hi hg hv hc.1 hc.2 hQ h
        · exact ih h
      · exact ih h
    · exact ih h
end
end Go.AS
