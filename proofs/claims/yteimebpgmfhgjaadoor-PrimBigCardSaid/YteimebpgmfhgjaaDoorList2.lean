/- PrimLists: the laws that its walk takes. -/
import Derived.Test.YteimebpgmfhgjaaDoorCons1
import Derived.Test.YteimebpgmfhgjaaDoorEng1
namespace Go.Proofs.YteimebpgmfhgjaaDoor
open Go.AS
set_option linter.unusedVariables false
set_option linter.unusedSimpArgs false
set_option maxRecDepth 100000
namespace Seat
/-- What cons of these asks. -/
def ConsOk (k n : Int) (s : ByteArray) (l : Nat) (cs : List PV) (n2 : Int) (s2 : ByteArray) (l2 : Nat) (cs2 : List PV) : Prop := ∃ ks k2s : Dats, ks.cells = cs ∧ ks.len = l ∧ k2s.cells = cs2 ∧ k2s.len = l2 ∧ Good (.mk k n s ks) ∧ chkD (.mk k n s ks) = 0 ∧ Good (.mk 3 n2 s2 k2s) ∧ chkD (.mk 3 n2 s2 k2s) = 0 ∧ smallD (.mk 3 0 ⟨#[]⟩ (.cons (.mk k n s ks) k2s)) ∧ Good (.mk 3 0 ⟨#[]⟩ (.cons (.mk k n s ks) k2s)) ∧ chkD (.mk 3 0 ⟨#[]⟩ (.cons (.mk k n s ks) k2s)) = 0
open Classical in
noncomputable def consOk (k n : Int) (s : ByteArray) (l : Nat) (cs : List PV) (n2 : Int) (s2 : ByteArray) (l2 : Nat) (cs2 : List PV) : Bool := decide (ConsOk k n s l cs n2 s2 l2 cs2)
theorem consOk_at {k n : Int} {s : ByteArray} {l : Nat} {cs : List PV} {n2 : Int} {s2 : ByteArray} {l2 : Nat} {cs2 : List PV} (h : ConsOk k n s l cs n2 s2 l2 cs2) : consOk k n s l cs n2 s2 l2 cs2 = true := by
  unfold consOk
  classical exact decide_eq_true h
theorem consOk_of {k n : Int} {s : ByteArray} {l : Nat} {cs : List PV} {n2 : Int} {s2 : ByteArray} {l2 : Nat} {cs2 : List PV} (h : consOk k n s l cs n2 s2 l2 cs2 = true) : ConsOk k n s l cs n2 s2 l2 cs2 := by
  unfold consOk at h
  classical exact of_decide_eq_true h
noncomputable def lsS (f : Nat) (args : List PV) : Option (PV × Ob) := match listS f args with
  | some r => some r
  | none => match f, args with
    | 12, [.str ⟨⟨[99, 111, 110, 115]⟩⟩, .slice 2 [.int .i64 k, .int .i64 n, .str s, .slice l cs, .int .i64 3, .int .i64 n2, .str s2, .slice l2 cs2]] => some (.tup [.agg [.int .i64 3, .int .i64 0, .str ⟨#[]⟩, .slice (1 + l2) (.int .i64 k :: .int .i64 n :: .str s :: .slice l cs :: cs2)], .int .i64 0, .int .i64 0], [(consOk k n s l cs n2 s2 l2 cs2, true)])
    | _, _ => none
theorem lsS_ok (f : Nat) (args : List PV) (r : PV) (o : Ob) (h : lsS f args = some (r, o)) (ho : ∀ p ∈ o, p.1 = p.2) (hpu : pureL args = true) : Pure G0 f args (fun x => x = r) := by
  unfold lsS at h
  split at h
  · rename_i r' hl
    cases h
    exact listS_ok f args r o hl ho hpu
  · clear hpu
    split at h
    · cases h
      obtain ⟨ks, k2s, rfl, rfl, rfl, rfl, h1, h2, h3, h4, h5, h6, h7⟩ := consOk_of (ho _ (List.mem_singleton.2 rfl))
      exact (do_cons _ _ _ _ _ ks k2s h1 h2 h3 h4 h5 h6).1 h7
    · cases h
noncomputable def SLs (l : List (Nat × List (Nat × Bool))) (v : List (Nat × List (Nat × PV))) : Cfg G0 := { F := F, hF := hF, S := lsS, hS := lsS_ok, orc := orcM l, val := valM v }
end Seat
end Go.Proofs.YteimebpgmfhgjaaDoor
