/- datum.each: what its yields do: Parts$1 counts, Deep$1 keeps the greatest length. -/
import Derived.Test.YteimebpgmfhgjaaDoorBase
namespace Go.Proofs.YteimebpgmfhgjaaDoor
open Go.AS
set_option linter.unusedVariables false
set_option linter.unusedSimpArgs false
set_option maxRecDepth 100000
namespace Seat
def ctr (n : Int) : Box := ⟨[.int .i64 n], 3⟩
/-- A box whose cells nobody looks at. -/
def scr (m : Nat) : Box := ⟨List.replicate m .junk, 3⟩
theorem scL_rep (k m : Nat) : scL k (List.replicate m PV.junk) = true := by
  induction m with
  | zero => rfl
  | succ m ih => rw [List.replicate_succ]; simp only [scL, ih, Bool.and_true]; rfl
def yOf (Y : Nat) : PV := .func (.func Y) [.ptr 0 0]
/-- What a yield does: the counter turns by f. -/
structure Yok (Y : Nat) (f : Int → Nat → Int) : Prop where
  fn : ∃ q, F Y = some q
  nil : ∀ (k n : Int) (s : ByteArray) (m : Nat) (cs : List PV) (cnt : Int), PCalls G0 Y [.agg [.int .i64 k, .int .i64 n, .str s, .slice m cs], .nil, .ptr 0 0] [ctr cnt] (fun o b => o = .ret (.bool true) ∧ b = [ctr (f cnt 0)])
  scr : ∀ (k n : Int) (s : ByteArray) (m : Nat) (cs : List PV) (cnt : Int) (pl pm : Nat), pl ≤ pm → PCalls G0 Y [.agg [.int .i64 k, .int .i64 n, .str s, .slice m cs], .bsl 1 pl pm, .ptr 0 0] [ctr cnt, scr pm] (fun o b => o = .ret (.bool true) ∧ b = [ctr (f cnt pl), scr pm])
def fParts (c : Int) (_ : Nat) : Int := IntKind.i64.wrap (c + 1)
def mxi (x y : Int) : Int := if y > x then y else x
def fDeep (c : Int) (n : Nat) : Int := mxi c (IntKind.i64.wrap ((n : Int) + 1))
theorem yParts : Yok 65 fParts where
  fn := ⟨_, rfl⟩
  nil := fun k n s m cs cnt => PCalls.run (S := S0) (o := []) 100 (by kernel_rfl) (fun p h => by cases h)
  scr := fun k n s m cs cnt pl pm h => by
    refine Fn.enterN Tryd.func65 Tryd.ntmps65 rfl (Nat.le_of_ble_eq_true rfl) fun C fr fp hnt hp hfr hfp => ?_
    refine SWP.runQ S0 60 8 hnt [5] (e := .ret) (z := ⟨[(5, .bool true)], ⟨[ctr (fParts cnt pl), Seat.scr pm, ⟨[.int .i64 k, .int .i64 n, .str s, .slice m cs], 24⟩], []⟩⟩) (o := []) (by kernel_rfl) (fun p h => by cases h) (fun s hs => hfr s [5] ?_)
    rw [hs]
    exact ⟨2, .bool true, Nat.le_of_ble_eq_true rfl, Nat.le_of_ble_eq_true rfl, rfl, rfl, by simp only [Seat.scr, ctr, List.take, List.all_cons, List.all_nil, scL_rep]; rfl, rfl, rfl⟩
theorem yDeep : Yok 66 fDeep where
  fn := ⟨_, rfl⟩
  nil := fun k n s m cs cnt => PCalls.run (S := S0) (o := []) 100 (by kernel_rfl) (fun p h => by cases h)
  scr := fun k n s m cs cnt pl pm h => by
    refine Fn.enterN Tryd.func66 Tryd.ntmps66 rfl (Nat.le_of_ble_eq_true rfl) fun C fr fp hnt hp hfr hfp => ?_
    refine SWP.runQ S0 60 11 hnt [5] (e := .ret) (z := ⟨[(5, .bool true)], ⟨[ctr (fDeep cnt pl), Seat.scr pm, ⟨[.int .i64 k, .int .i64 n, .str s, .slice m cs], 24⟩], []⟩⟩) (o := []) (by kernel_rfl) (fun p h => by cases h) (fun s hs => hfr s [5] ?_)
    rw [hs]
    exact ⟨2, .bool true, Nat.le_of_ble_eq_true rfl, Nat.le_of_ble_eq_true rfl, rfl, rfl, by simp only [Seat.scr, ctr, List.take, List.all_cons, List.all_nil, scL_rep]; rfl, rfl, rfl⟩
end Seat
end Go.Proofs.YteimebpgmfhgjaaDoor
