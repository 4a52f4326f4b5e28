/- PrimBig: the laws that its walk takes. -/
import Derived.Test.YteimebpgmfhgjaaDoorDrawn1
namespace Go.AS
section
variable {G : Prg}
theorem VRep.nil0 {E : Env} {w : World} {a b c : PV} {v : Value} (h : VRep E w (.agg [a, b, c, .nil]) v) : VRep E w (.agg [a, b, c, .slice 0 []]) v := by
  obtain ⟨vs, rfl, g⟩ := h.agg_inv
  obtain ⟨v1, vs, rfl, h1, g⟩ := g.cons_inv
  obtain ⟨v2, vs, rfl, h2, g⟩ := g.cons_inv
  obtain ⟨v3, vs, rfl, h3, g⟩ := g.cons_inv
  obtain ⟨v4, vs, rfl, h4, g⟩ := g.cons_inv
  obtain rfl := g.nil_inv
  have h5 := h4.nil_slice
  exact .agg rfl fun j x v hx hv => by
    match j, hx, hv with
    | 0, hx, hv => cases hx; cases hv; exact h1
    | 1, hx, hv => cases hx; cases hv; exact h2
    | 2, hx, hv => cases hx; cases hv; exact h3
    | 3, hx, hv => cases hx; cases hv; exact h5
    | j + 4, hx, hv => cases hx
theorem Pure.weak {f : FuncId} {args : List PV} {r r' : PV} (hw : ∀ E w v, VRep E w r v → VRep E w r' v) (h : Pure G f args (fun x => x = r)) : Pure G f args (fun x => x = r') := fun E w vs hh hv =>
  (h E w vs hh hv).mono fun e w' ⟨o, bx', E', ⟨hb, x, ho, hx⟩, hout, hrest⟩ => by
    subst ho
    subst hx
    obtain ⟨v, rfl, hv⟩ := hout
    exact ⟨.ret r', bx', E', ⟨hb, r', rfl, rfl⟩, ⟨v, rfl, hw _ _ _ hv⟩, hrest⟩
theorem VRep.tnil0 {E : Env} {w : World} {a b c x y : PV} {v : Value} (h : VRep E w (.tup [.agg [a, b, c, .nil], x, y]) v) : VRep E w (.tup [.agg [a, b, c, .slice 0 []], x, y]) v := by
  obtain ⟨vs, rfl, g⟩ := h.tup_inv
  obtain ⟨v1, vs, rfl, h1, g⟩ := g.cons_inv
  obtain ⟨v2, vs, rfl, h2, g⟩ := g.cons_inv
  obtain ⟨v3, vs, rfl, h3, g⟩ := g.cons_inv
  obtain rfl := g.nil_inv
  have h5 := h1.nil0
  exact .tup rfl fun j x v hx hv => by
    match j, hx, hv with
    | 0, hx, hv => cases hx; cases hv; exact h5
    | 1, hx, hv => cases hx; cases hv; exact h2
    | 2, hx, hv => cases hx; cases hv; exact h3
    | j + 3, hx, hv => cases hx
end
end Go.AS
namespace Go.Proofs.YteimebpgmfhgjaaDoor
open Go.AS
set_option linter.unusedVariables false
set_option linter.unusedSimpArgs false
set_option maxRecDepth 100000
namespace Seat
theorem list_nil : Pure G0 19 [.nil] (fun r => r = .agg [.int .i64 3, .int .i64 0, .str ⟨#[]⟩, .slice 0 []]) := Pure.run (S := S0) 50 (by kernel_rfl)
theorem number_is (n : Int) : Pure G0 20 [.int .i64 n] (fun r => r = .agg [.int .i64 1, .int .i64 n, .str ⟨#[]⟩, .slice 0 []]) := Pure.weak (fun _ _ _ h => h.nil0) (Pure.run (S := S0) 50 (by kernel_rfl))
theorem same_none : Pure G0 14 [.agg [.int .i64 0, .int .i64 0, .str ⟨#[]⟩, .slice 0 []], .agg [.int .i64 0, .int .i64 0, .str ⟨#[]⟩, .nil]] (fun r => r = .bool true) := Pure.run (S := S0) 100 (by kernel_rfl)
def ConsBig (k n : Int) (s : ByteArray) (l : Nat) (cs : List PV) (n2 : Int) (s2 : ByteArray) (l2 : Nat) (cs2 : List PV) : Prop := ∃ ks k2s : Dats, ks.cells = cs ∧ ks.len = l ∧ k2s.cells = cs2 ∧ k2s.len = l2 ∧ Good (.mk k n s ks) ∧ chkD (.mk k n s ks) = 0 ∧ Good (.mk 3 n2 s2 k2s) ∧ chkD (.mk 3 n2 s2 k2s) = 0 ∧ smallD (.mk 3 0 ⟨#[]⟩ (.cons (.mk k n s ks) k2s)) ∧ Good (.mk 3 0 ⟨#[]⟩ (.cons (.mk k n s ks) k2s)) ∧ chkD (.mk 3 0 ⟨#[]⟩ (.cons (.mk k n s ks) k2s)) ≠ 0
open Classical in
noncomputable def consBig (k n : Int) (s : ByteArray) (l : Nat) (cs : List PV) (n2 : Int) (s2 : ByteArray) (l2 : Nat) (cs2 : List PV) : Bool := decide (ConsBig k n s l cs n2 s2 l2 cs2)
theorem consBig_at {k n : Int} {s : ByteArray} {l : Nat} {cs : List PV} {n2 : Int} {s2 : ByteArray} {l2 : Nat} {cs2 : List PV} (h : ConsBig k n s l cs n2 s2 l2 cs2) : consBig k n s l cs n2 s2 l2 cs2 = true := by
  unfold consBig
  classical exact decide_eq_true h
theorem consBig_of {k n : Int} {s : ByteArray} {l : Nat} {cs : List PV} {n2 : Int} {s2 : ByteArray} {l2 : Nat} {cs2 : List PV} (h : consBig k n s l cs n2 s2 l2 cs2 = true) : ConsBig k n s l cs n2 s2 l2 cs2 := by
  unfold consBig at h
  classical exact of_decide_eq_true h
noncomputable def bigS (big : Bool) (f : Nat) (args : List PV) : Option (PV × Ob) := match f, args with
  | 19, [.nil] => some (.agg [.int .i64 3, .int .i64 0, .str ⟨#[]⟩, .slice 0 []], [])
  | 20, [.int .i64 n] => some (.agg [.int .i64 1, .int .i64 n, .str ⟨#[]⟩, .slice 0 []], [])
  | 14, [.agg [.int .i64 0, .int .i64 0, .str ⟨⟨[]⟩⟩, .slice 0 []], .agg [.int .i64 0, .int .i64 0, .str ⟨⟨[]⟩⟩, .nil]] => some (.bool true, [])
  | f, args => match big, f, args with
    | true, 12, [.str ⟨⟨[99, 111, 110, 115]⟩⟩, .slice 2 [.int .i64 k, .int .i64 n, .str s, .slice l cs, .int .i64 3, .int .i64 n2, .str s2, .slice l2 cs2]] => some (.tup [.agg [.int .i64 0, .int .i64 0, .str ⟨#[]⟩, .slice 0 []], .int .i64 (-6), .int .i64 0], [(consBig k n s l cs n2 s2 l2 cs2, true)])
    | _, f, args => lsS f args
theorem bigS_ok (big : Bool) (f : Nat) (args : List PV) (r : PV) (o : Ob) (h : bigS big f args = some (r, o)) (ho : ∀ p ∈ o, p.1 = p.2) (hpu : pureL args = true) : Pure G0 f args (fun x => x = r) := by
  unfold bigS at h
  split at h
  · cases h; exact list_nil
  · cases h; exact number_is _
  · cases h; exact same_none
  · split at h
    · cases h
      obtain ⟨ks, k2s, rfl, rfl, rfl, rfl, h1, h2, h3, h4, h5, h6, h7⟩ := consBig_of (ho _ (List.mem_singleton.2 rfl))
      exact Pure.weak (fun _ _ _ h => h.tnil0) ((do_cons _ _ _ _ _ ks k2s h1 h2 h3 h4 h5 h6).2 h7)
    · exact lsS_ok _ _ _ _ h ho hpu
noncomputable def SBg (big : Bool) (l : List (Nat × List (Nat × Bool))) (v : List (Nat × List (Nat × PV))) : Cfg G0 := { F := F, hF := hF, S := bigS big, hS := bigS_ok big, orc := orcM l, val := valM v }
/-- The children of a chain of lists. -/
def kids : Nat → Dats
  | 0 => .nil
  | j + 1 => .cons (.mk 3 0 ⟨#[]⟩ (kids j)) .nil
/-- Ones behind. -/
def Dats.ones : Nat → Dats
  | 0 => .nil
  | j + 1 => .cons (.mk 1 1 ⟨#[]⟩ .nil) (ones j)
def bigK (t m : Nat) : Dats := .cons (.mk 3 0 ⟨#[]⟩ (kids t)) (Dats.ones m)
end Seat
end Go.Proofs.YteimebpgmfhgjaaDoor
