/- Texts of this session, packed: Read7, Lay19, Tok0, Lib1, Rp1, Rp2, Rp3, NumQ, NumR, Rng0, Back0, BackL, Rp4, Eng3, Nz, Rp5, GuardA, Guard1, Rp6, Rp7, LayP, Rp8, LawI. -/
import Derived.Test.YtkblfapbakfgpaaGreatDoorZ5
namespace Go.Proofs.YtkblfapbakfgpaaGreatDoor
open Go.AS Go.RowKit
set_option linter.unusedVariables false
set_option linter.unusedSimpArgs false
set_option maxRecDepth 100000
set_option maxHeartbeats 4000000
namespace Seat
def onX (s : ByteArray) : Nd := (oneR s).1
def onA (s : ByteArray) : Int := (oneR s).2.1
def onE (s : ByteArray) : Int := (oneR s).2.2
open Classical in
noncomputable def isNdo (m : Nat) (cs : List PV) : Bool := decide (∃ ks : Nds, ks.len = m ∧ ks.cells = cs ∧ ks.len ≤ 1099511627777 ∧ ks.ok)
theorem isNdo_at {ks : Nds} (hl : ks.len ≤ 1099511627777) (ho : ks.ok) : isNdo ks.len ks.cells = true := by
  unfold isNdo
  classical exact decide_eq_true ⟨ks, rfl, rfl, hl, ho⟩
theorem isNdo_of {m : Nat} {cs : List PV} (h : isNdo m cs = true) : ∃ ks : Nds, ks.len = m ∧ ks.cells = cs ∧ ks.len ≤ 1099511627777 ∧ ks.ok := by
  unfold isNdo at h
  classical exact of_decide_eq_true h
noncomputable def rrS (f : Nat) (args : List PV) : Option (PV × Ob) := match f, args with
  | 20, [.str s] => some (.tup [.agg (ndC (onX s)), .int .i64 (onA s), .int .i64 (onE s)], [])
  | 21, [.agg [.int .i64 k, .int .i64 n, .str t, .slice m cs, .int .i64 a]] => some (.agg [.int .i64 k, .int .i64 n, .str t, .slice m (ndD cs).cells], [(isNdo m cs, true)])
  | _, _ => none
theorem rrS_ok (f : Nat) (args : List PV) (r : PV) (o : Ob) (h : rrS f args = some (r, o)) (ho : ∀ p ∈ o, p.1 = p.2) (_ : pureL args = true) : Pure G0 f args (fun x => x = r) := by
  unfold rrS at h
  split at h
  · cases h
    exact one_ok _
  · rename_i k n t m cs a _
    cases h
    obtain ⟨ks, rfl, rfl, h2, h3⟩ := isNdo_of (ho (isNdo m cs, true) (List.mem_singleton.2 rfl))
    rw [ndD_at]
    exact dt_at (ks.size + 1) k n t ks a (Nat.lt_succ_self _) h2 h3
  · cases h
noncomputable def SRr (l : List (Nat × List (Nat × Bool))) (v : List (Nat × List (Nat × PV))) : Cfg G0 := { F := F, hF := hF, S := rrS, hS := rrS_ok, orc := orcM l, val := valM v }
theorem Nds.snoc_ok : ∀ (l : Nds) (x : Nd), l.ok → x.ok → (l.snoc x).ok
  | .nil, x, _, hx => ⟨hx, trivial⟩
  | .cons d ds, x, h, hx => ⟨h.1, Nds.snoc_ok ds x h.2 hx⟩
theorem rdL_ok {f : Nat → Nd × RS} {s : ByteArray} (hf : ∀ a, (f a).1.ok) : ∀ k r l, l.ok → (rdL f s k r l).1.ok
  | 0, r, l, h => h
  | k + 1, r, l, h => by
    rw [rdL]
    split
    · exact rdL_ok hf k _ _ (Nds.snoc_ok l _ h (hf r.a))
    · exact h
theorem rdL_len {f : Nat → Nd × RS} {s : ByteArray} : ∀ k r l, (rdL f s k r l).1.len ≤ l.len + k
  | 0, r, l => Nat.le_refl _
  | k + 1, r, l => by
    rw [rdL]
    split
    · have := rdL_len (f := f) (s := s) k ⟨skp s (f r.a).2.a, (f r.a).2.e, (f r.a).2.b⟩ (l.snoc (f r.a).1)
      rw [Nds.snoc_len] at this
      omega
    · show l.len ≤ _; omega
theorem Nd.zero_ok : Nd.zero.ok := ⟨Nat.zero_le _, trivial⟩
theorem atomR_ok (s : ByteArray) (a : Nat) : (atomR s a).1.ok := by
  unfold atomR
  split
  · exact ⟨Nat.zero_le _, trivial⟩
  · split
    · exact ⟨Nat.zero_le _, trivial⟩
    · exact Nd.zero_ok
theorem rdD_ok (s : ByteArray) (hs : s.size ≤ 1099511627776) : ∀ n a, (rdD s n a).1.ok := by
  intro n
  induction n with
  | zero =>
    intro a
    rw [rdD_eq]
    split
    · exact Nd.zero_ok
    · split
      · exact Nd.zero_ok
      · exact Nd.zero_ok
  | succ n ih =>
    intro a
    rw [rdD_eq]
    split
    · exact Nd.zero_ok
    · split
      · exact Nd.zero_ok
      · simp only []
        split
        · exact Nd.zero_ok
        · split
          · exact atomR_ok s a
          · split
            · exact ⟨by simp [Nds.len], ⟨Nat.zero_le _, trivial⟩, ih _, trivial⟩
            · refine ⟨?_, rdL_ok ih _ _ _ trivial⟩
              have := rdL_len (f := rdD s n) (s := s) (s.size + 1) ⟨skp s (a + 1), 0, 0⟩ .nil
              simp only [Nds.len] at this
              omega
theorem onX_ok (s : ByteArray) : (onX s).ok := by
  unfold onX oneR
  split
  · exact Nd.zero_ok
  · split
    · split
      · exact Nd.zero_ok
      · exact rdD_ok s (by omega) _ _
    · exact Nd.zero_ok
def readD (s : ByteArray) : Dat := if onE s = 0 then (onX s).dat else .mk 0 0 ⟨#[]⟩ .nil
theorem onA_zero (s : ByteArray) (h : onE s = 0) : onA s = 0 := by
  unfold onE oneR at h
  unfold onA oneR
  split at h
  · exact absurd h n3
  · rename_i h1
    rw [if_neg h1]
    split at h
    · rename_i h2
      rw [if_pos h2]
      split at h
      · exact absurd h n4
      · rename_i h3
        rw [if_neg h3]
    · rename_i h2
      exact absurd h h2
theorem read_ok (s : ByteArray) : Pure G0 12 [.str s] (fun r => r = .tup [.agg (readD s).cells, .int .i64 (onA s), .int .i64 (onE s)]) := by
  by_cases h0 : onE s = 0
  · have hrd : readD s = (onX s).dat := by rw [readD, if_pos h0]
    refine Fn.enterB Tryz.func12 Tryz.ntmps12 rfl (Nat.le_of_ble_eq_true rfl) fun C fr fp hnt hnb hp hfr hfp => ?_
    refine Q.runSeq (SRr [] []) 100 21 hnt [0, 2, 3, 4] (z := ⟨[(0, .str s), (2, .ptr 0 0), (3, .int .i64 (0 : Int)), (4, .int .i64 (0 : Int))], ⟨[⟨[.int .i64 (0 : Int), .int .i64 (0 : Int), .str ⟨#[]⟩, PV.nil], 24⟩], []⟩⟩) (o := []) (by kernel_rfl) (by repeat' first | exact okO_nil | refine okN ?_ ?_ | assumption | rfl) ?_
    refine Q.runSeq (SRr [] []) 100 21 hnt [2, 5, 6, 7] (z := ⟨[(2, .ptr 0 0), (5, .ptr 1 0), (6, .int .i64 (onA s)), (7, .int .i64 (onE s))], ⟨[⟨[.int .i64 (0 : Int), .int .i64 (0 : Int), .str ⟨#[]⟩, PV.nil], 24⟩, ⟨[.int .i64 (ndK (onX s)), .int .i64 (ndN (onX s)), .str (ndT (onX s)), .slice (Nds.len (ndS (onX s))) (Nds.cells (ndS (onX s))), .int .i64 (ndA (onX s))], 51⟩], []⟩⟩) (o := [(true, true)]) (by kernel_rfl) (by repeat' first | exact okO_nil | refine okN ?_ ?_ | assumption | rfl) ?_
    obtain ⟨x, hx⟩ : ∃ x, x = onX s := ⟨_, rfl⟩
    obtain ⟨a, ha⟩ : ∃ x, x = onA s := ⟨_, rfl⟩
    obtain ⟨e, he⟩ : ∃ x, x = onE s := ⟨_, rfl⟩
    have hok := onX_ok s
    have ha0 := onA_zero s h0
    rw [← hx] at hok hrd
    rw [← ha, ← he, hrd] at hfr
    rw [← ha] at ha0
    rw [← he] at h0
    rw [← hx, ← ha, ← he]
    subst ha0
    have d1 : (!e == (0 : Int)) = false := by rw [h0]; rfl
    obtain ⟨k, n, t, ks, q⟩ := x
    have d2 : isNdo (ndS (Nd.mk k n t ks q)).len (ndS (Nd.mk k n t ks q)).cells = true := isNdo_at hok.1 hok.2
    obtain ⟨x, hx2⟩ : ∃ x, x = Nd.mk k n t ks q := ⟨_, rfl⟩
    rw [← hx2] at d2 ⊢
    refine SWP.runQ (SRr [(21, [(15, false)])] []) 100 21 hnt [2, 3, 4] (e := .ret) (z := ⟨[(2, .ptr 0 0), (3, .int .i64 (0 : Int)), (4, .int .i64 (0 : Int))], ⟨[⟨[.int .i64 (ndK x), .int .i64 (ndN x), .str (ndT x), .slice (Nds.len (ndS x)) (Dats.cells (ndD (Nds.cells (ndS x))))], 24⟩, ⟨[.int .i64 (ndK x), .int .i64 (ndN x), .str (ndT x), .slice (Nds.len (ndS x)) (Nds.cells (ndS x)), .int .i64 (ndA x)], 51⟩], []⟩⟩) (o := [(!e == (0 : Int), false), (false, false), (true, true), (isNdo (Nds.len (ndS x)) (Nds.cells (ndS x)), true)]) (by kernel_rfl) (by repeat' first | exact okO_nil | refine okN ?_ ?_ | assumption | rfl) (fun st hst => hfr st [2, 3, 4] ?_)
    rw [hst, hx2, h0]
    refine ⟨0, .tup [.agg [.int .i64 k, .int .i64 n, .str t, .slice ks.len (ndD ks.cells).cells], .int .i64 0, .int .i64 0], Nat.le_refl _, Nat.zero_le _, rfl, rfl, rfl, rfl, _, rfl, ?_⟩
    rw [ndD_at]
    simp only [Nd.dat, Dat.cells, Nds.dat_len]
  · have hrd : (readD s).cells = [.int .i64 0, .int .i64 0, .str ⟨#[]⟩, .slice 0 []] := by rw [readD, if_neg h0]; rfl
    rw [hrd]
    refine Pure.weak (fun E w v => VRep.tnil0) ?_
    refine Fn.enterB Tryz.func12 Tryz.ntmps12 rfl (Nat.le_of_ble_eq_true rfl) fun C fr fp hnt hnb hp hfr hfp => ?_
    refine Q.runSeq (SRr [] []) 100 21 hnt [0, 2, 3, 4] (z := ⟨[(0, .str s), (2, .ptr 0 0), (3, .int .i64 (0 : Int)), (4, .int .i64 (0 : Int))], ⟨[⟨[.int .i64 (0 : Int), .int .i64 (0 : Int), .str ⟨#[]⟩, PV.nil], 24⟩], []⟩⟩) (o := []) (by kernel_rfl) (by repeat' first | exact okO_nil | refine okN ?_ ?_ | assumption | rfl) ?_
    refine Q.runSeq (SRr [] []) 100 21 hnt [2, 5, 6, 7] (z := ⟨[(2, .ptr 0 0), (5, .ptr 1 0), (6, .int .i64 (onA s)), (7, .int .i64 (onE s))], ⟨[⟨[.int .i64 (0 : Int), .int .i64 (0 : Int), .str ⟨#[]⟩, PV.nil], 24⟩, ⟨[.int .i64 (ndK (onX s)), .int .i64 (ndN (onX s)), .str (ndT (onX s)), .slice (Nds.len (ndS (onX s))) (Nds.cells (ndS (onX s))), .int .i64 (ndA (onX s))], 51⟩], []⟩⟩) (o := [(true, true)]) (by kernel_rfl) (by repeat' first | exact okO_nil | refine okN ?_ ?_ | assumption | rfl) ?_
    obtain ⟨x, hx⟩ : ∃ x, x = onX s := ⟨_, rfl⟩
    obtain ⟨a, ha⟩ : ∃ x, x = onA s := ⟨_, rfl⟩
    obtain ⟨e, he⟩ : ∃ x, x = onE s := ⟨_, rfl⟩
    rw [← ha, ← he] at hfr
    rw [← he] at h0
    rw [← hx, ← ha, ← he]
    have d1 : (!e == (0 : Int)) = true := by rw [beqF h0]; rfl
    refine SWP.runQ (SRr [(21, [(15, true)])] []) 100 21 hnt [2, 3, 4] (e := .ret) (z := ⟨[(2, .ptr 0 0), (3, .int .i64 a), (4, .int .i64 e)], ⟨[⟨[.int .i64 (0 : Int), .int .i64 (0 : Int), .str ⟨#[]⟩, PV.nil], 24⟩, ⟨[.int .i64 (ndK x), .int .i64 (ndN x), .str (ndT x), .slice (Nds.len (ndS x)) (Nds.cells (ndS x)), .int .i64 (ndA x)], 51⟩], []⟩⟩) (o := [(!e == (0 : Int), true), (true, true)]) (by kernel_rfl) (by repeat' first | exact okO_nil | refine okN ?_ ?_ | assumption | rfl) (fun st hst => hfr st [2, 3, 4] ?_)
    rw [hst]
    exact ⟨0, .tup [.agg [.int .i64 0, .int .i64 0, .str ⟨#[]⟩, .nil], .int .i64 a, .int .i64 e], Nat.le_refl _, Nat.zero_le _, rfl, rfl, rfl, rfl, _, rfl, rfl⟩
end Seat
end Go.Proofs.YtkblfapbakfgpaaGreatDoor
namespace Go.Proofs.YtkblfapbakfgpaaGreatDoor
open Go.AS Go.RowKit
set_option linter.unusedVariables false
set_option linter.unusedSimpArgs false
set_option maxRecDepth 100000
set_option maxHeartbeats 4000000
namespace Seat
def exS : ByteArray := ⟨#[40, 105, 102, 32, 40, 60, 32, 110, 32, 50, 41, 32, 110, 32, 40, 43, 32, 49, 32, 110, 41, 41]⟩
def exN (n : Int) : Dat := .mk 1 n ⟨#[]⟩ .nil
def exY (l : Array UInt8) : Dat := .mk 2 0 ⟨l⟩ .nil
def exK : Dats := .cons (exY #[105, 102]) (.cons (.mk 3 0 ⟨#[]⟩ (.cons (exY #[60]) (.cons (exY #[110]) (.cons (exN 2) .nil)))) (.cons (exY #[110]) (.cons (.mk 3 0 ⟨#[]⟩ (.cons (exY #[43]) (.cons (exN 1) (.cons (exY #[110]) .nil)))) .nil)))
def exD : Dat := .mk 3 0 ⟨#[]⟩ exK
theorem ex_read : readD exS = exD ∧ onA exS = 0 ∧ onE exS = 0 := ⟨by kernel_rfl, by kernel_rfl, by kernel_rfl⟩
noncomputable def llC (w : Int) (cs : List PV) : Nat := ofCells (fun d => (metR d w).1) 0 cs
noncomputable def avS (f : Nat) (args : List PV) : Option (PV × Ob) := match f, args with
  | 12, [.str s] => some (.tup [.agg [.int .i64 3, .int .i64 0, .str ⟨#[]⟩, .slice 4 exK.cells], .int .i64 0, .int .i64 0], [(same (.str s) (.str exS), true)])
  | 7, [.agg cs, .int .i64 w] => some (.tup [.str (loBC w cs), .int .i64 (loEC w cs)], [(isSml cs, true)])
  | 17, [.agg cs, .int .i64 w] => some (.tup [.int .i64 (llC w cs), .int .i64 (loEC w cs)], [(isSml cs, true)])
  | _, _ => none
theorem avS_ok (f : Nat) (args : List PV) (r : PV) (o : Ob) (h : avS f args = some (r, o)) (ho : ∀ p ∈ o, p.1 = p.2) (_ : pureL args = true) : Pure G0 f args (fun x => x = r) := by
  unfold avS at h
  split at h
  · rename_i s _
    cases h
    have hs := of_same (ho (same (.str s) (.str exS), true) (List.mem_singleton.2 rfl))
    cases hs
    have key := read_ok exS
    rw [ex_read.1, ex_read.2.1, ex_read.2.2] at key
    exact key
  · rename_i cs w _
    cases h
    obtain ⟨d, rfl, h1⟩ := isSml_of (ho (isSml cs, true) (List.mem_singleton.2 rfl))
    unfold loBC loEC
    rw [ofCells_at, ofCells_at]
    exact lay_ok d h1 w
  · rename_i cs w _
    cases h
    obtain ⟨d, rfl, h1⟩ := isSml_of (ho (isSml cs, true) (List.mem_singleton.2 rfl))
    unfold llC loEC
    rw [ofCells_at, ofCells_at]
    exact lines_ok d h1 w
  · cases h
noncomputable def SAl (l : List (Nat × List (Nat × Bool))) : Cfg G0 := { F := F, hF := hF, S := avS, hS := avS_ok, orc := orcM l }
def exL : ByteArray := ⟨#[40, 105, 102, 10, 32, 32, 40, 60, 32, 110, 32, 50, 41, 10, 32, 32, 110, 10, 32, 32, 40, 43, 32, 49, 32, 110, 41, 41, 10]⟩
theorem ex_e10 : alE (.cons exD .nil) 10 = 0 := by kernel_rfl
theorem ex_e9 : alE (.cons exD .nil) 9 = 2 := by kernel_rfl
theorem ex_b10 : alB (.cons exD .nil) 10 = exL := by kernel_rfl
theorem ex_l10 : (metR exD 10).1 = 4 := by kernel_rfl
theorem ex_small : Small exD := by
  refine ⟨?_, ?_, Nat.le_of_ble_eq_true (by kernel_rfl)⟩
  · simp [exD, exK, exY, exN, Dat.ok, Dats.ok, Dats.len]
  · simp [exD, exK, exY, exN, Dat.rng, Dats.rng]
theorem alive_ok : Pure G0 8 [] (fun r => r = .bool true) := by
  have d1 : isSml exD.cells = true := isSml_at ex_small
  have d2 : (loEC 10 exD.cells == (0 : Int)) = true := by unfold loEC; rw [ofCells_at, ex_e10]; rfl
  have d3 : (loEC 9 exD.cells == (2 : Int)) = true := by unfold loEC; rw [ofCells_at, ex_e9]; rfl
  have d4 : (ByteArray.toList (loBC 10 exD.cells) == ByteArray.toList exL) = true := by unfold loBC; rw [ofCells_at, ex_b10, beq_iff_eq]
  have d5 : (Int.ofNat (llC 10 exD.cells) == (4 : Int)) = true := by unfold llC; rw [ofCells_at, ex_l10]; rfl
  refine Fn.enterB Tryz.func8 Tryz.ntmps8 rfl (Nat.le_of_ble_eq_true rfl) fun C fr fp hnt hnb hp hfr hfp => ?_
  refine SWP.runQ (SAl [(48, [(31, true), (34, true), (38, true), (42, true), (46, true)])]) 100 48 hnt [0] (e := .ret) (z := ⟨[(0, .bool true)], ⟨[⟨exD.cells, 24⟩], []⟩⟩)
    (o := [(true, true), (same (.str exS) (.str exS), true), (true, true), (isSml exD.cells, true), (true, true), (isSml exD.cells, true), (true, true), (isSml exD.cells, true), (loEC 10 exD.cells == (0 : Int), true), (ByteArray.toList (loBC 10 exD.cells) == ByteArray.toList exL, true), (loEC 10 exD.cells == (0 : Int), true), (Int.ofNat (llC 10 exD.cells) == (4 : Int), true), (loEC 9 exD.cells == (2 : Int), true)]) (by kernel_rfl) (by ((repeat' (first | exact okO_nil | refine okN ?_ ?_)); all_goals first | assumption | rfl | exact same_of rfl | exact sameS_self _ | (simp only [decide_eq_true_eq, decide_eq_false_iff_not, Nat.ble_eq, Nat.beq_eq, beq_eq_false_iff_ne, beq_iff_eq, ne_eq] <;> omega))) (fun st hs => hfr st [0] ?_)
  rw [hs]
  exact ⟨0, .bool true, Nat.le_refl _, Nat.zero_le _, rfl, rfl, rfl, rfl, _, rfl, rfl⟩
end Seat
end Go.Proofs.YtkblfapbakfgpaaGreatDoor
namespace Go.Proofs.YtkblfapbakfgpaaGreatDoor
open Go.AS
set_option linter.unusedVariables false
set_option linter.unusedSimpArgs false
namespace Seat
def lbl (c : UInt8) : Bool := blank (c.toNat : Int)
def lle (c : UInt8) : Bool := letC (c.toNat : Int)
def nl10 (c : UInt8) : Bool := decide (c.toNat ≠ 10)
def tokK : Nat → List UInt8 → List (List UInt8)
  | 0, _ => []
  | _ + 1, [] => []
  | k + 1, c :: r => if lbl c = true then tokK k r else if c.toNat = 59 then tokK k (r.dropWhile nl10) else
    if lle c = true then (c :: r.takeWhile lle) :: tokK k (r.dropWhile lle) else [c] :: tokK k r
theorem dropWhile_len {α : Type} (p : α → Bool) : ∀ l : List α, (l.dropWhile p).length ≤ l.length
  | [] => Nat.le_refl _
  | c :: r => by
    rw [List.dropWhile_cons]
    split
    · exact Nat.le_trans (dropWhile_len p r) (Nat.le_succ _)
    · exact Nat.le_refl _
theorem tokK_more : ∀ (k m : Nat) (l : List UInt8), l.length ≤ k → k ≤ m → tokK m l = tokK k l
  | 0, m, l, h, _ => by
    obtain rfl := List.eq_nil_of_length_eq_zero (Nat.le_zero.1 h)
    cases m <;> rfl
  | k + 1, m, [], h, hm => by cases m <;> rfl
  | k + 1, m, c :: r, h, hm => by
    obtain ⟨m, rfl⟩ : ∃ j, m = j + 1 := ⟨m - 1, by omega⟩
    have hr : r.length ≤ k := by simpa using h
    have h1 := dropWhile_len nl10 r
    have h2 := dropWhile_len lle r
    rw [tokK, tokK, tokK_more k m r hr (by omega), tokK_more k m (r.dropWhile nl10) (by omega) (by omega), tokK_more k m (r.dropWhile lle) (by omega) (by omega)]
def tok (l : List UInt8) : List (List UInt8) := tokK l.length l
theorem tok_cons (c : UInt8) (r : List UInt8) : tok (c :: r) = if lbl c = true then tok r else if c.toNat = 59 then tok (r.dropWhile nl10) else
    if lle c = true then (c :: r.takeWhile lle) :: tok (r.dropWhile lle) else [c] :: tok r := by
  have h1 := dropWhile_len nl10 r
  have h2 := dropWhile_len lle r
  unfold tok
  rw [List.length_cons, tokK, tokK_more (r.dropWhile nl10).length r.length _ (Nat.le_refl _) h1, tokK_more (r.dropWhile lle).length r.length _ (Nat.le_refl _) h2]
theorem bt_drop0 (t : ByteArray) (i : Nat) (h : i < t.size) : ∃ c : UInt8, t.data.toList.drop i = c :: t.data.toList.drop (i + 1) ∧ bt t (i : Int) = (c.toNat : Int) := by
  have hlen : t.data.toList.length = t.size := Array.length_toList
  refine ⟨t.data.toList[i]'(by omega), List.drop_eq_getElem_cons (by omega), ?_⟩
  unfold bt
  rw [dif_pos (by rw [Int.toNat_natCast]; exact h)]
  rfl
theorem drop_out (t : ByteArray) (i : Nat) (h : t.size ≤ i) : t.data.toList.drop i = [] := List.drop_of_length_le (by have hlen : t.data.toList.length = t.size := Array.length_toList; omega)
theorem rem_drop (s : ByteArray) : ∀ k a, s.size - a ≤ k → s.data.toList.drop (remE s a) = (s.data.toList.drop a).dropWhile nl10
  | 0, a, h => by
    rw [remE_eq, if_neg (by omega), drop_out s a (by omega)]; rfl
  | k + 1, a, h => by
    rw [remE_eq]
    rcases Nat.lt_or_ge a s.size with hl | hl
    · obtain ⟨c, h1, h2⟩ := bt_drop0 s a hl
      rw [h1, h2]
      by_cases hc : c.toNat = 10
      · rw [if_neg (by omega), h1, List.dropWhile_cons, if_neg (by simp [nl10, hc])]
      · rw [if_pos (by omega), rem_drop s k (a + 1) (by omega), List.dropWhile_cons, if_pos (by simp [nl10, hc])]
    · rw [if_neg (by omega), drop_out s a hl]; rfl
theorem let_drop (s : ByteArray) : ∀ k a, s.size - a ≤ k → s.data.toList.drop (letE s a) = (s.data.toList.drop a).dropWhile lle
  | 0, a, h => by
    rw [letE_eq, if_neg (by omega), drop_out s a (by omega)]; rfl
  | k + 1, a, h => by
    rw [letE_eq]
    rcases Nat.lt_or_ge a s.size with hl | hl
    · obtain ⟨c, h1, h2⟩ := bt_drop0 s a hl
      rw [h1, h2]
      by_cases hc : letC (c.toNat : Int) = true
      · rw [if_pos ⟨hl, hc⟩, let_drop s k (a + 1) (by omega), List.dropWhile_cons, if_pos (show lle c = true from hc)]
      · rw [if_neg (fun g => hc g.2), h1, List.dropWhile_cons, if_neg (show ¬ lle c = true from hc)]
    · rw [if_neg (by omega), drop_out s a hl]; rfl
theorem let_take (s : ByteArray) : ∀ k a, s.size - a ≤ k → (s.data.toList.drop a).take (letE s a - a) = (s.data.toList.drop a).takeWhile lle
  | 0, a, h => by
    rw [letE_eq, if_neg (by omega), drop_out s a (by omega)]; simp
  | k + 1, a, h => by
    rw [letE_eq]
    rcases Nat.lt_or_ge a s.size with hl | hl
    · obtain ⟨c, h1, h2⟩ := bt_drop0 s a hl
      rw [h1, h2]
      by_cases hc : letC (c.toNat : Int) = true
      · have hge := letE_ge s (a + 1)
        rw [if_pos ⟨hl, hc⟩, show letE s (a + 1) - a = (letE s (a + 1) - (a + 1)) + 1 by omega, List.take_succ_cons, let_take s k (a + 1) (by omega), List.takeWhile_cons, if_pos (show lle c = true from hc)]
      · rw [if_neg (fun g => hc g.2), Nat.sub_self, List.takeWhile_cons, if_neg (show ¬ lle c = true from hc)]; rfl
    · rw [if_neg (by omega), drop_out s a hl]; simp
theorem ext_list (s : ByteArray) (a b : Nat) : (s.extract a b).data.toList = (s.data.toList.drop a).take (b - a) := by
  rw [ByteArray.data_extract, Array.toList_extract, List.extract_eq_take_drop]
def toks (s : ByteArray) (a : Nat) : List (List UInt8) := tok (s.data.toList.drop a)
theorem toks_out (s : ByteArray) (a : Nat) (h : s.size ≤ a) : toks s a = [] := by unfold toks; rw [drop_out s a h]; rfl
theorem toks_skp (s : ByteArray) : ∀ k a, s.size - a ≤ k → toks s (skp s a) = toks s a ∧ (skp s a < s.size → lbl (s.data.toList.getD (skp s a) 0) = false ∧ bt s (skp s a : Nat) ≠ 59 ∧ blank (bt s (skp s a : Nat)) = false)
  | 0, a, h => by rw [skp_out s a (by omega)]; exact ⟨rfl, fun h => by omega⟩
  | k + 1, a, h => by
    rcases Nat.lt_or_ge a s.size with hl | hl
    · obtain ⟨c, h1, h2⟩ := bt_drop0 s a hl
      rw [skp_eq, if_pos hl, h2]
      by_cases hb : blank (c.toNat : Int) = true
      · rw [if_pos hb]
        obtain ⟨g1, g2⟩ := toks_skp s k (a + 1) (by omega)
        refine ⟨?_, g2⟩
        rw [g1]
        unfold toks
        rw [h1, tok_cons, if_pos (show lbl c = true from hb)]
      · rw [if_neg hb]
        by_cases h9 : c.toNat = 59
        · rw [if_pos (by omega)]
          have hre := remE_59 hl (by omega)
          obtain ⟨g1, g2⟩ := toks_skp s k (remE s a) (by omega)
          refine ⟨?_, g2⟩
          rw [g1]
          unfold toks
          rw [rem_drop s _ a (Nat.le_refl _), h1, tok_cons, if_neg (show ¬ lbl c = true from hb), if_pos h9, List.dropWhile_cons, if_pos (by simp [nl10, h9])]
        · rw [if_neg (by omega)]
          refine ⟨rfl, fun _ => ⟨?_, by omega, by rw [h2]; simpa using hb⟩⟩
          have hlen : s.data.toList.length = s.size := Array.length_toList
          have e : s.data.toList.getD a 0 = c := by
            have := congrArg (fun l => l.head?) h1
            simp only [List.head?_cons, List.head?_drop] at this
            rw [List.getD, this]; rfl
          rw [e]
          simpa [lbl] using hb
    · rw [skp_out s a hl]; exact ⟨rfl, fun h => by omega⟩
def Clean (s : ByteArray) (a : Nat) : Prop := a < s.size → blank (bt s (a : Int)) = false ∧ bt s (a : Int) ≠ 59
theorem clean_skp (s : ByteArray) (a : Nat) : Clean s (skp s a) := fun h => by
  obtain ⟨_, g⟩ := toks_skp s _ a (Nat.le_refl _)
  exact ⟨(g h).2.2, (g h).2.1⟩
theorem toks_at_let {s : ByteArray} {a : Nat} (h : a < s.size) (hc : Clean s a) (hl : letC (bt s (a : Int)) = true) : toks s a = (s.extract a (letE s a)).data.toList :: toks s (letE s a) := by
  obtain ⟨c, h1, h2⟩ := bt_drop0 s a h
  obtain ⟨g1, g2⟩ := hc h
  have k1 := let_take s _ a (Nat.le_refl _)
  have k2 := let_drop s _ a (Nat.le_refl _)
  rw [ext_list, k1]
  unfold toks
  rw [k2, h1, tok_cons]
  rw [h2] at g1 g2 hl
  have e1 : lle c = true := hl
  rw [if_neg (by rw [show lbl c = blank (c.toNat : Int) from rfl, g1]; decide), if_neg (by omega), if_pos e1, List.takeWhile_cons, if_pos e1, List.dropWhile_cons, if_pos e1]
theorem toks_at {s : ByteArray} {a : Nat} (h : a < s.size) (hc : Clean s a) (hl : letC (bt s (a : Int)) = false) : ∃ c : UInt8, bt s (a : Int) = (c.toNat : Int) ∧ toks s a = [c] :: toks s (a + 1) := by
  obtain ⟨c, h1, h2⟩ := bt_drop0 s a h
  obtain ⟨g1, g2⟩ := hc h
  refine ⟨c, h2, ?_⟩
  unfold toks
  rw [h1, tok_cons]
  rw [h2] at g1 g2 hl
  rw [if_neg (by rw [show lbl c = blank (c.toNat : Int) from rfl, g1]; decide), if_neg (by omega), if_neg (by rw [show lle c = letC (c.toNat : Int) from rfl, hl]; decide)]
theorem Nds.dat_snoc : ∀ (l : Nds) (x : Nd), (l.snoc x).dat = Dats.snoc l.dat x.dat
  | .nil, x => rfl
  | .cons d ds, x => by simp only [Nds.snoc, Nds.dat, Dats.snoc, Nds.dat_snoc ds x]
abbrev Tok := List UInt8
def hd0 : Tok → Int
  | [] => 0
  | c :: _ => (c.toNat : Int)
def mkB (t : Tok) : ByteArray := ⟨t.toArray⟩
def prL (f : List Tok → Option (Dat × List Tok)) : Nat → List Tok → Dats → Option (Dats × List Tok)
  | 0, _, _ => none
  | _ + 1, [], _ => none
  | k + 1, t :: r, l => if hd0 t = 41 then some (l, r) else match f (t :: r) with
    | some (d, r') => prL f k r' (Dats.snoc l d)
    | none => none
def prD : Nat → List Tok → Option (Dat × List Tok)
  | 0, _ => none
  | _ + 1, [] => none
  | n + 1, t :: r => if letC (hd0 t) = true then (if (numV (mkB t)).2 = true then some (.mk 1 (numV (mkB t)).1 ⟨#[]⟩ .nil, r) else if symOk (mkB t) = true then some (.mk 2 0 (mkB t) .nil, r) else none)
    else if hd0 t = 39 then (if n = 0 then none else match prD n r with
      | some (d, r') => some (.mk 3 0 ⟨#[]⟩ (.cons (.mk 2 0 wQuote .nil) (.cons d .nil)), r')
      | none => none)
    else if hd0 t = 40 then (match prL (prD n) (r.length + 1) r .nil with
      | some (l, r') => some (.mk 3 0 ⟨#[]⟩ l, r')
      | none => none)
    else none
def Eats (f : List Tok → Option (Dat × List Tok)) : Prop := ∀ ts d r, f ts = some (d, r) → r.length < ts.length
theorem prL_eats {f : List Tok → Option (Dat × List Tok)} (hf : Eats f) : ∀ k ts l l' r, prL f k ts l = some (l', r) → r.length < ts.length
  | 0, ts, l, l', r, h => by cases h
  | k + 1, [], l, l', r, h => by cases h
  | k + 1, t :: q, l, l', r, h => by
    rw [prL] at h
    split at h
    · cases h; simp
    · split at h
      · rename_i d r' hd
        have h1 := hf _ _ _ hd
        have h2 := prL_eats hf k r' _ l' r h
        omega
      · cases h
theorem prD_eats : ∀ n, Eats (prD n)
  | 0, ts, d, r, h => by cases h
  | n + 1, [], d, r, h => by cases h
  | n + 1, t :: q, d, r, h => by
    rw [prD] at h
    split at h
    · split at h
      · cases h; simp
      · split at h
        · cases h; simp
        · cases h
    · split at h
      · split at h
        · cases h
        · split at h
          · rename_i x r' hx
            have := prD_eats n _ _ _ hx
            cases h
            simp only [List.length_cons]; omega
          · cases h
      · split at h
        · split at h
          · rename_i x r' hx
            have := prL_eats (prD_eats n) _ _ _ _ _ hx
            cases h
            simp only [List.length_cons]; omega
          · cases h
        · cases h
theorem mkB_list (s : ByteArray) : mkB s.data.toList = s := by
  unfold mkB
  cases s with
  | mk d => simp
theorem prL_rd {s : ByteArray} {n : Nat} (ih : ∀ a, a ≤ s.size → Clean s a → prD n (toks s a) = if (rdD s n a).2.e = 0 then some ((rdD s n a).1.dat, toks s (rdD s n a).2.a) else none) :
    ∀ k k' x l, x ≤ s.size → Clean s x → s.size + 1 - x ≤ k → (toks s x).length + 1 ≤ k' →
      prL (prD n) k' (toks s x) l.dat = if (rdL (rdD s n) s k ⟨x, 0, 0⟩ l).2.e = 0 then some ((rdL (rdD s n) s k ⟨x, 0, 0⟩ l).1.dat, toks s ((rdL (rdD s n) s k ⟨x, 0, 0⟩ l).2.a + 1)) else none := by
  intro k
  induction k with
  | zero => intro k' x l hx hc hk _; omega
  | succ k ihk =>
    intro k' x l hx hc hk hk'
    obtain ⟨k', rfl⟩ : ∃ j, k' = j + 1 := ⟨k' - 1, by omega⟩
    have hsx := rdD_steps s n x hx
    have hix := ih x hx hc
    rw [rdL]
    rcases Nat.lt_or_ge x s.size with hlt | hge
    · by_cases h41 : bt s (x : Int) = 41
      · have hg : goes s ⟨x, 0, 0⟩ = false := by
          show ((0 : Int) == 0 && !(decide (x < s.size) && bt s (x : Int) == 41)) = false
          rw [decide_eq_true hlt, h41]; rfl
        rw [hg, if_neg (show ¬ false = true by decide)]
        simp only [if_true]
        obtain ⟨c, h1, h2⟩ := toks_at hlt hc (by rw [h41]; decide)
        rw [h2, prL, if_pos (by show (c.toNat : Int) = 41; rw [← h1]; exact h41)]
      · have hg : goes s ⟨x, 0, 0⟩ = true := by
          show ((0 : Int) == 0 && !(decide (x < s.size) && bt s (x : Int) == 41)) = true
          rw [decide_eq_true hlt, beq_eq_false_iff_ne.2 h41]; rfl
        rw [if_pos hg]
        obtain ⟨t, r, ht, hh⟩ : ∃ t r, toks s x = t :: r ∧ hd0 t = bt s (x : Int) := by
          cases hl : letC (bt s (x : Int)) with
          | true =>
            refine ⟨_, _, toks_at_let hlt hc hl, ?_⟩
            have hgt := letE_gt hlt hl
            rw [ext_list]
            obtain ⟨c, h1, h2⟩ := bt_drop0 s x hlt
            rw [h1, show letE s x - x = (letE s x - x - 1) + 1 by omega, List.take_succ_cons, h2]; rfl
          | false =>
            obtain ⟨c, h1, h2⟩ := toks_at hlt hc hl
            exact ⟨_, _, h2, h1.symm⟩
        rw [ht, prL, if_neg (by rw [hh]; exact h41), ← ht, hix]
        by_cases he : (rdD s n x).2.e = 0
        · rw [if_pos he] at hix ⊢
          have h3 := hsx.2 he
          have h4 := (hsx.1.ok he)
          have h5 := toks_skp s _ (rdD s n x).2.a (Nat.le_refl _)
          have h6 := prD_eats n _ _ _ hix
          have h7 := skp_ge s (rdD s n x).2.a
          have h8 := skp_le s (rdD s n x).2.a h4.1
          simp only []
          rw [he, h4.2, ← Nds.dat_snoc, ← h5.1]
          exact ihk k' _ (l.snoc (rdD s n x).1) h8 (clean_skp s _) (by omega) (by rw [h5.1]; omega)
        · rw [if_neg he]
          have : goes s ⟨skp s (rdD s n x).2.a, (rdD s n x).2.e, (rdD s n x).2.b⟩ = false := goes_err he
          rw [rdL_stop this, if_neg he]
    · have hg : goes s ⟨x, 0, 0⟩ = true := by
        show ((0 : Int) == 0 && !(decide (x < s.size) && bt s (x : Int) == 41)) = true
        rw [decide_eq_false (by omega)]; rfl
      rw [if_pos hg, toks_out s x hge]
      have hz : rdD s n x = (.zero, ⟨x, 4, s.size⟩) := by rw [rdD_eq, if_pos hge]
      rw [hz]
      have : goes s ⟨skp s x, 4, s.size⟩ = false := goes_err n4
      rw [rdL_stop this]
      rfl
theorem prD_rd (s : ByteArray) : ∀ n a, a ≤ s.size → Clean s a → prD n (toks s a) = if (rdD s n a).2.e = 0 then some ((rdD s n a).1.dat, toks s (rdD s n a).2.a) else none := by
  intro n
  induction n with
  | zero =>
    intro a ha hc
    rw [prD, rdD_eq]
    split
    · exact (if_neg n4).symm
    · split
      · exact (if_neg n4).symm
      · exact (if_neg n3).symm
  | succ n ih =>
    intro a ha hc
    have eq := rdD_eq s (n + 1) a
    rcases Nat.lt_or_ge a s.size with hlt | hge
    · rw [if_neg (by omega)] at eq
      cases hl : letC (bt s (a : Int)) with
      | true =>
        have ht := toks_at_let hlt hc hl
        have hgt := letE_gt hlt hl
        have hh : hd0 (s.extract a (letE s a)).data.toList = bt s (a : Int) := by
          rw [ext_list]
          obtain ⟨c, h1, h2⟩ := bt_drop0 s a hlt
          rw [h1, show letE s a - a = (letE s a - a - 1) + 1 by omega, List.take_succ_cons, h2]; rfl
        rw [hl, if_neg (by simp)] at eq
        simp only [] at eq
        have h39 : ¬ bt s (a : Int) = 39 := fun h => by rw [h] at hl; exact absurd hl (by decide)
        rw [if_neg (fun g => h39 g.1), if_pos trivial] at eq
        rw [eq, ht, prD, hh, if_pos hl, mkB_list]
        unfold atomR
        split
        · rfl
        · split
          · rfl
          · rfl
      | false =>
        obtain ⟨c, h1, ht⟩ := toks_at hlt hc hl
        have hh : hd0 [c] = bt s (a : Int) := h1.symm
        rw [ht, prD, hh, if_neg (by rw [hl]; decide)]
        have h5 := toks_skp s _ (a + 1) (Nat.le_refl _)
        have h8 := skp_le s (a + 1) (by omega)
        rw [hl] at eq
        by_cases h39 : bt s (a : Int) = 39
        · rw [if_neg (fun g => g.2.1 h39)] at eq
          simp only [] at eq
          rw [if_pos h39]
          by_cases hn : n = 0
          · rw [if_pos ⟨h39, hn⟩] at eq
            rw [if_pos hn, eq]; rfl
          · rw [if_neg (fun g => hn g.2), if_neg (by decide), if_pos h39] at eq
            rw [if_neg hn, eq, ← h5.1, ih _ h8 (clean_skp s _)]
            by_cases he : (rdD s n (skp s (a + 1))).2.e = 0
            · rw [if_pos he, if_pos he]; rfl
            · rw [if_neg he, if_neg he]
        · rw [if_neg h39]
          by_cases h40 : bt s (a : Int) = 40
          · rw [if_neg (fun g => g.1 h40)] at eq
            simp only [] at eq
            rw [if_neg (fun g => h39 g.1), if_neg (by decide), if_neg h39] at eq
            rw [if_pos h40, eq, ← h5.1]
            have key := prL_rd ih (s.size + 1) ((toks s (skp s (a + 1))).length + 1) (skp s (a + 1)) .nil h8 (clean_skp s _) (by omega) (Nat.le_refl _)
            rw [show (Nds.nil).dat = Dats.nil from rfl] at key
            rw [key]
            by_cases he : (rdL (rdD s n) s (s.size + 1) ⟨skp s (a + 1), 0, 0⟩ .nil).2.e = 0
            · rw [if_pos he, if_pos he]; rfl
            · rw [if_neg he, if_neg he]
          · rw [if_pos ⟨h40, h39, rfl⟩] at eq
            rw [if_neg h40, eq]
            exact (if_neg n4).symm
    · rw [if_pos hge] at eq
      rw [toks_out s a hge, prD, eq]; exact (if_neg n4).symm
end Seat
end Go.Proofs.YtkblfapbakfgpaaGreatDoor
namespace Go.Proofs.YtkblfapbakfgpaaGreatDoor
open Go.AS Go.RowKit
set_option linter.unusedVariables false
set_option linter.unusedSimpArgs false
set_option maxRecDepth 100000
namespace Seat
theorem Pure.of_lib {G : Prg} {f : FuncId} {args : List PV} {r : PV} (h : ∀ E w vs, HRep G.Γ E w ⟨[], []⟩ → VReps E w args vs → Calls G.P f vs.toArray w fun e w' => (∃ v, e = .returned v ∧ IRep E.im w' r v) ∧ Below w.heap.size w w') : Pure G f args (fun x => x = r) := fun E w vs hh hv =>
  (h E w vs hh hv).mono fun e w' ⟨⟨v, he, hi⟩, hb⟩ => ⟨.ret r, [], E, ⟨rfl, _, rfl, rfl⟩, ⟨_, he, .imm hi⟩, hh.grow hb.size hb.block, ⟨hb.size, hb.os, hb.tape, hb.output, fun k hk _ => hb.block k hk, Nat.zero_le _, fun i hi => absurd hi (Nat.not_lt_zero _), fun _ h => h, fun _ h => .inl h, fun i _ hj => by
    have := hh.nb
    simp only [List.length_nil] at this
    omega⟩⟩
theorem indexByteP (t : ByteArray) : Pure G0 71 [.str t, .int .u8 10] (fun r => r = .int .i64 (Go.Lib.indexByte t.data.toList 10)) := Pure.of_lib fun E w vs hh hv => by
  obtain ⟨v, us, rfl, hv1, hus⟩ := hv.cons_inv
  obtain ⟨u, us2, rfl, hv2, hus2⟩ := hus.cons_inv
  obtain rfl := hus2.nil_inv
  obtain rfl := hv1.str_inv
  obtain rfl := hv2.int_inv
  refine (Tryz.strings_IndexByte t 10 w).mono ?_
  rintro e w' ⟨rfl, rfl⟩
  exact ⟨⟨_, rfl, .int _ _⟩, .refl _ _⟩
def TE : TypeId := Tryz.laysC174_ren.t 168
def parOk (l : List UInt8) (v : Int) : Bool := decide (Go.Lib.parseIntB 64 l = .ok v)
def parErr (l : List UInt8) (v : Int) : Bool := decide ((Go.Lib.parseIntB 64 l = Go.Lib.NumEnd.syntax ∧ v = 0) ∨ (Go.Lib.parseIntB 64 l = .range ∧ v = Go.Lib.intSat 64 l))
theorem errVar {E : Env} {w : World} {H : Hp} (hh : HRep G0.Γ E w H) {name : String} {g u : Nat} (hg : Tryz.prog.globalNamed name = some g) (hΓ : Γ0 g = some [.iface u (.epos [])]) : ∃ p, w.var? Tryz.prog name = some #[.iface u p] := by
  obtain ⟨hr, _, vs, ty, fz, hb, hsz⟩ := hh.gl g _ hΓ
  cases hr with
  | @epos _ _ us hl hbk hc hrr =>
    cases us with
    | nil => simp at hl
    | cons x us =>
      cases us with
      | cons y us => simp at hl
      | nil =>
        have hx := hrr 0 _ x rfl rfl
        cases hx with
        | iface _ hp =>
          rename_i q
          have h1 := hc 0 _ rfl
          rw [cell_of_blk (vs := vs.toList) (by simpa using hb)] at h1
          refine ⟨q, ?_⟩
          simp only [World.var?, hg, Option.bind_some, hb]
          congr 1
          apply Array.ext'
          apply List.ext_getElem?
          intro j
          cases j with
          | zero => simpa using h1
          | succ j => rw [List.getElem?_eq_none (by simp at hsz; simp [hsz]), List.getElem?_eq_none (by simp)]
theorem parseOkP (s : ByteArray) (hs : s.size ≤ 1099511627776) (v : Int) (h : parOk s.data.toList v = true) : Pure G0 77 [.str s, .int .i64 10, .int .i64 64] (fun r => r = .tup [.int .i64 v, .niliface]) := Pure.of_lib fun E w vs hh hv => by
  obtain ⟨x, us, rfl, hv1, hus⟩ := hv.cons_inv
  obtain ⟨y, us2, rfl, hv2, hus2⟩ := hus.cons_inv
  obtain ⟨z, us3, rfl, hv3, hus3⟩ := hus2.cons_inv
  obtain rfl := hus3.nil_inv
  obtain rfl := hv1.str_inv
  obtain rfl := hv2.int_inv
  obtain rfl := hv3.int_inv
  refine (Tryz.parseInt_ok s (by omega) v (of_decide_eq_true h) w).mono ?_
  rintro e w' ⟨rfl, hw⟩
  refine ⟨⟨_, rfl, .tup (vs := [.int .i64 v, .nilIface]) rfl fun j x v' hx hv' => ?_⟩, ?_⟩
  · match j with
    | 0 => simp at hx hv'; subst hx; subst hv'; exact .int _ _
    | 1 => simp at hx hv'; subst hx; subst hv'; exact .niliface
    | j + 2 => simp at hx
  · rcases hw with rfl | ⟨t, rfl⟩
    · exact .refl _ _
    · exact Go.Lib.bytesWorld_below _ _ _
theorem parseErrP (s : ByteArray) (hs : s.size ≤ 1099511627776) (v : Int) (h : parErr s.data.toList v = true) : Pure G0 77 [.str s, .int .i64 10, .int .i64 64] (fun r => r = .tup [.int .i64 v, .iface TE (.epos [])]) := Pure.of_lib fun E w vs hh hv => by
  obtain ⟨x, us, rfl, hv1, hus⟩ := hv.cons_inv
  obtain ⟨y, us2, rfl, hv2, hus2⟩ := hus.cons_inv
  obtain ⟨z, us3, rfl, hv3, hus3⟩ := hus2.cons_inv
  obtain rfl := hus3.nil_inv
  obtain rfl := hv1.str_inv
  obtain rfl := hv2.int_inv
  obtain rfl := hv3.int_inv
  have out : ∀ (N : Nat) (w' : World), Below w.heap.size w w' → (∃ u, (Ending.returned (.tuple #[.int .i64 v, .iface TE (.pointer (some ⟨N, 0, none⟩))])) = .returned u ∧ IRep E.im w' (.tup [.int .i64 v, .iface TE (.epos [])]) u) ∧ Below w.heap.size w w' := fun N w' hb =>
    ⟨⟨_, rfl, .tup (vs := [.int .i64 v, .iface TE (.pointer (some ⟨N, 0, none⟩))]) rfl fun j x v' hx hv' => by
      match j with
      | 0 => simp at hx hv'; subst hx; subst hv'; exact .int _ _
      | 1 => simp at hx hv'; subst hx; subst hv'; exact .iface _ (.epos (vs := []) rfl (fun h => absurd h (by simp)) (fun j v h => by simp at h) (fun j x v h => by simp at h))
      | j + 2 => simp at hx⟩, hb⟩
  rcases of_decide_eq_true h with ⟨h1, rfl⟩ | ⟨h1, rfl⟩
  · obtain ⟨p, hp⟩ := errVar hh (name := "strconv.ErrSyntax") (g := 2) (by kernel_rfl) rfl
    refine (Tryz.parseInt_syntax s (by omega) h1 _ p w hp).mono ?_
    rintro e w' ⟨N, rfl, _, _, hb⟩
    exact out N w' hb
  · obtain ⟨p, hp⟩ := errVar hh (name := "strconv.ErrRange") (g := 3) (by kernel_rfl) rfl
    refine (Tryz.parseInt_range s (by omega) h1 _ p w hp).mono ?_
    rintro e w' ⟨N, rfl, _, _, hb⟩
    exact out N w' hb
end Seat
end Go.Proofs.YtkblfapbakfgpaaGreatDoor
namespace Go.Proofs.YtkblfapbakfgpaaGreatDoor
open Go.AS Go.RowKit
set_option linter.unusedVariables false
set_option linter.unusedSimpArgs false
set_option maxRecDepth 100000
set_option maxHeartbeats 4000000
namespace Seat
def rP (s : ByteArray) (a : Nat) : Box := ⟨[.str s, .int .i64 a], 101⟩
def ixB (t : ByteArray) : Int := Go.Lib.indexByte t.data.toList 10
def ixS (f : Nat) (args : List PV) : Option (PV × Ob) := match f, args with
  | 71, [.str t, .int .u8 10] => some (.int .i64 (ixB t), [])
  | _, _ => none
theorem ixS_ok (f : Nat) (args : List PV) (r : PV) (o : Ob) (h : ixS f args = some (r, o)) (ho : ∀ p ∈ o, p.1 = p.2) (_ : pureL args = true) : Pure G0 f args (fun x => x = r) := by
  unfold ixS at h
  split at h
  · cases h
    exact indexByteP _
  · cases h
noncomputable def SPk (l : List (Nat × List (Nat × Bool))) (v : List (Nat × List (Nat × PV))) : Cfg G0 := { F := F, hF := hF, S := ixS, hS := ixS_ok, orc := orcM l, val := valM v }
theorem idx_drop (s : ByteArray) : ∀ k x, s.size - x ≤ k → Go.Lib.indexByte (s.data.toList.drop x) 10 = if remE s x < s.size then ((remE s x - x : Nat) : Int) else -1 := by
  have hlen : s.data.toList.length = s.size := Array.length_toList
  intro k
  induction k with
  | zero =>
    intro x h
    have hr : remE s x = x := by rw [remE_eq, if_neg (fun g => absurd g.1 (by omega))]
    rw [List.drop_of_length_le (by omega), hr, if_neg (by omega)]
    rfl
  | succ k ih =>
    intro x h
    rcases Nat.lt_or_ge x s.size with hx | hx
    · rw [List.drop_eq_getElem_cons (by omega), Go.Lib.indexByte, ih (x + 1) (by omega)]
      have hb : bt s (x : Int) = ((s.data.toList[x]'(by omega)).toNat : Int) := by
        unfold bt
        rw [dif_pos (by rw [Int.toNat_natCast]; exact hx)]
        rfl
      have hge := remE_ge s (x + 1)
      by_cases h10 : s.data.toList[x]'(by omega) = 10
      · have hr : remE s x = x := by rw [remE_eq, if_neg (fun g => g.2 (by rw [hb, h10]; rfl))]
        rw [hr, h10, if_pos (by decide), if_pos hx, Nat.sub_self]; rfl
      · have hr : remE s x = remE s (x + 1) := by
          rw [remE_eq s x, if_pos ⟨hx, fun g => h10 (by
            rw [hb] at g
            have : (s.data.toList[x]'(by omega)).toNat = 10 := by omega
            exact UInt8.toNat_inj.1 this)⟩]
        rw [hr, if_neg (by simpa using h10)]
        by_cases hq : remE s (x + 1) < s.size
        · rw [if_pos hq, if_pos hq, if_neg (by simp <;> omega)]; omega
        · rw [if_neg hq, if_neg hq]; rfl
    · have hr : remE s x = x := by rw [remE_eq, if_neg (fun g => absurd g.1 (by omega))]
      rw [List.drop_of_length_le (by omega), hr, if_neg (by omega)]
      rfl
theorem ixB_at (s : ByteArray) (x : Nat) (h : x ≤ s.size) : ixB (s.extract x s.size) = if remE s x < s.size then ((remE s x - x : Nat) : Int) else -1 := by
  unfold ixB
  rw [Go.Lib.extract_to_end]
  exact idx_drop s _ x (Nat.le_refl _)
theorem skipP_ok (s : ByteArray) (hs : s.size ≤ 1099511627776) (a : Nat) : PCalls G0 61 [.ptr 0 0] [rP s a] (fun o b' => o = .ret (.tup []) ∧ b' = [rP s (skp s a)]) := by
  refine Fn.enterN Tryz.func61 Tryz.ntmps61 rfl (Nat.le_of_ble_eq_true rfl) fun C fr fp hnt hp hfr hfp => ?_
  have fin : ∀ st x, skp s x = x → skp s x = skp s a → nrm [] st = ⟨[], ⟨[rP s x], []⟩⟩ → fr st := fun st x h1 h2 hst => hfr st [] (by
    rw [hst, ← h2.symm.trans h1]
    exact ⟨1, .tup [], Nat.le_refl _, Nat.le_refl _, rfl, rfl, rfl, rfl, rfl⟩)
  let T (x : Nat) : AS := ⟨[(0, .ptr 0 0)], ⟨[rP s x], []⟩⟩
  refine Q.block ?_
  refine Q.loopI (σ := { x : Nat // skp s x = skp s a }) [0] (fun x => T x.1) (fun x => s.size - x.1) ⟨a, rfl⟩ rfl fun ⟨x, hk⟩ => ?_
  show SWP G0 C _ _ ⟨[(0, .ptr 0 0)], ⟨[rP s x], []⟩⟩
  rcases Nat.lt_or_ge x s.size with hlt | hge
  · have d1 := lt_at hlt
    have d2 := in_at hlt
    have wi : IntKind.wrap IntKind.i64 (Int.ofNat (x + 1)) = ((x + 1 : Nat) : Int) := wrapI (x + 1) (by omega)
    have sk := skp_eq s x
    rw [if_pos hlt] at sk
    have bl : blank (bt s (x : Int)) = true → ∀ st, nrm [0] st = ⟨[(0, .ptr 0 0)], ⟨[⟨[.str s, .int .i64 (IntKind.wrap IntKind.i64 (Int.ofNat (x + 1)))], 101⟩], []⟩⟩ → ∃ y : { x : Nat // skp s x = skp s a }, s.size - y.1 < s.size - x ∧ nrm [0] st = T y.1 := fun hb st hst =>
      ⟨⟨x + 1, by rw [← hk, sk, if_pos hb]⟩, Nat.sub_lt_sub_left hlt (Nat.lt_succ_self x), by rw [hst, wi]; rfl⟩
    by_cases c32 : bt s (x : Int) = 32
    · have e1 := beqT c32
      exact SWP.runQ (SPk [(66, [(12, true), (21, true), (23, true)])] []) 100 66 hnt [0] (e := .normal) (z := ⟨[(0, .ptr 0 0)], ⟨[⟨[.str s, .int .i64 (IntKind.wrap IntKind.i64 (Int.ofNat (x + 1)))], 101⟩], []⟩⟩) (o := [(decide ((↑x : Int) < (↑(ByteArray.size s) : Int)), true), (decide (0 ≤ (↑x : Int) ∧ (↑x : Int) < (↑(ByteArray.size s) : Int)), true), (bt s (Int.ofNat x) == (32 : Int), true)]) (by kernel_rfl) (by repeat' first | exact okO_nil | refine okN ?_ ?_ | assumption | rfl) (bl (by rw [c32]; rfl))
    have e1 := beqF c32
    by_cases c9 : bt s (x : Int) = 9
    · have e2 := beqT c9
      exact SWP.runQ (SPk [(66, [(12, true), (21, true), (23, false), (24, true)])] []) 100 66 hnt [0] (e := .normal) (z := ⟨[(0, .ptr 0 0)], ⟨[⟨[.str s, .int .i64 (IntKind.wrap IntKind.i64 (Int.ofNat (x + 1)))], 101⟩], []⟩⟩) (o := [(decide ((↑x : Int) < (↑(ByteArray.size s) : Int)), true), (decide (0 ≤ (↑x : Int) ∧ (↑x : Int) < (↑(ByteArray.size s) : Int)), true), (bt s (Int.ofNat x) == (32 : Int), false), (bt s (Int.ofNat x) == (9 : Int), true)]) (by kernel_rfl) (by repeat' first | exact okO_nil | refine okN ?_ ?_ | assumption | rfl) (bl (by rw [c9]; rfl))
    have e2 := beqF c9
    by_cases c10 : bt s (x : Int) = 10
    · have e3 := beqT c10
      exact SWP.runQ (SPk [(66, [(12, true), (21, true), (23, false), (24, false), (25, true)])] []) 100 66 hnt [0] (e := .normal) (z := ⟨[(0, .ptr 0 0)], ⟨[⟨[.str s, .int .i64 (IntKind.wrap IntKind.i64 (Int.ofNat (x + 1)))], 101⟩], []⟩⟩) (o := [(decide ((↑x : Int) < (↑(ByteArray.size s) : Int)), true), (decide (0 ≤ (↑x : Int) ∧ (↑x : Int) < (↑(ByteArray.size s) : Int)), true), (bt s (Int.ofNat x) == (32 : Int), false), (bt s (Int.ofNat x) == (9 : Int), false), (bt s (Int.ofNat x) == (10 : Int), true)]) (by kernel_rfl) (by repeat' first | exact okO_nil | refine okN ?_ ?_ | assumption | rfl) (bl (by rw [c10]; rfl))
    have e3 := beqF c10
    by_cases c13 : bt s (x : Int) = 13
    · have e4 := beqT c13
      exact SWP.runQ (SPk [(66, [(12, true), (21, true), (23, false), (24, false), (25, false), (26, true)])] []) 100 66 hnt [0] (e := .normal) (z := ⟨[(0, .ptr 0 0)], ⟨[⟨[.str s, .int .i64 (IntKind.wrap IntKind.i64 (Int.ofNat (x + 1)))], 101⟩], []⟩⟩) (o := [(decide ((↑x : Int) < (↑(ByteArray.size s) : Int)), true), (decide (0 ≤ (↑x : Int) ∧ (↑x : Int) < (↑(ByteArray.size s) : Int)), true), (bt s (Int.ofNat x) == (32 : Int), false), (bt s (Int.ofNat x) == (9 : Int), false), (bt s (Int.ofNat x) == (10 : Int), false), (bt s (Int.ofNat x) == (13 : Int), true)]) (by kernel_rfl) (by repeat' first | exact okO_nil | refine okN ?_ ?_ | assumption | rfl) (bl (by rw [c13]; rfl))
    have e4 := beqF c13
    have nb : ¬ blank (bt s (x : Int)) = true := by simp [blank, c32, c9, c10, c13]
    rw [if_neg nb] at sk
    by_cases c59 : bt s (x : Int) = 59
    · have e5 := beqT c59
      rw [if_pos c59] at sk
      have hx : ixB (ByteArray.extract s (Int.toNat (x : Int)) (Int.toNat (s.size : Int))) = _ := ixB_at s x (Nat.le_of_lt hlt)
      have hg := remE_59 hlt c59
      have hl := remE_le s x (Nat.le_of_lt hlt)
      have out : ∀ st, nrm [0] st = T (remE s x) → ∃ z : { x : Nat // skp s x = skp s a }, s.size - z.1 < s.size - x ∧ nrm [0] st = T z.1 := fun st hst => ⟨⟨remE s x, by rw [← hk, sk]⟩, by show s.size - remE s x < _; omega, hst⟩
      by_cases hr : remE s x < s.size
      · rw [if_pos hr] at hx
        have d3 : decide (ixB (ByteArray.extract s (Int.toNat (x : Int)) (Int.toNat (s.size : Int))) < 0) = false := by rw [hx]; exact decide_eq_false (by omega)
        have w2 : IntKind.wrap IntKind.i64 (Int.ofNat x + ixB (ByteArray.extract s (Int.toNat (x : Int)) (Int.toNat (s.size : Int)))) = (remE s x : Int) := by
          rw [hx, IntKind.wrap_i64, Int.ofNat_eq_natCast]; omega
        exact SWP.runQ (SPk [(66, [(12, true), (21, true), (23, false), (24, false), (25, false), (26, false), (35, true), (44, true), (47, false)])] []) 100 66 hnt [0] (e := .normal) (z := ⟨[(0, .ptr 0 0)], ⟨[⟨[.str s, .int .i64 (IntKind.wrap IntKind.i64 (Int.ofNat x + Lib.indexByte (Array.toList (ByteArray.data (ByteArray.extract s (Int.toNat (↑x : Int)) (Int.toNat (↑(ByteArray.size s) : Int))))) 10))], 101⟩], []⟩⟩) (o := [(decide ((↑x : Int) < (↑(ByteArray.size s) : Int)), true), (decide (0 ≤ (↑x : Int) ∧ (↑x : Int) < (↑(ByteArray.size s) : Int)), true), (bt s (Int.ofNat x) == (32 : Int), false), (bt s (Int.ofNat x) == (9 : Int), false), (bt s (Int.ofNat x) == (10 : Int), false), (bt s (Int.ofNat x) == (13 : Int), false), (bt s (Int.ofNat x) == (59 : Int), true), (decide (0 ≤ (↑x : Int) ∧ (↑x : Int) ≤ (↑(ByteArray.size s) : Int) ∧ (↑(ByteArray.size s) : Int) ≤ (↑(ByteArray.size s) : Int)), true), (true, true), (decide (ixB (ByteArray.extract s (Int.toNat (↑x : Int)) (Int.toNat (↑(ByteArray.size s) : Int))) < 0), false), (false, false)]) (by kernel_rfl) (by ((repeat' (first | exact okO_nil | refine okN ?_ ?_)); all_goals first | assumption | rfl | exact same_of rfl | exact sameS_self _ | (simp only [decide_eq_true_eq, decide_eq_false_iff_not, Nat.ble_eq, Nat.beq_eq, beq_eq_false_iff_ne, beq_iff_eq, ne_eq] <;> omega))) (fun st hst => out st (by rw [hst]; exact congrArg (fun z => (⟨[(0, PV.ptr 0 0)], ⟨[⟨[.str s, .int .i64 z], 101⟩], []⟩⟩ : AS)) w2))
      · rw [if_neg hr] at hx
        have d3 : decide (ixB (ByteArray.extract s (Int.toNat (x : Int)) (Int.toNat (s.size : Int))) < 0) = true := by rw [hx]; rfl
        have w2 : IntKind.wrap IntKind.i64 (Int.ofNat x + IntKind.wrap IntKind.i64 (Int.ofNat s.size - Int.ofNat x)) = (remE s x : Int) := by
          rw [IntKind.wrap_i64, IntKind.wrap_i64, Int.ofNat_eq_natCast, Int.ofNat_eq_natCast]; omega
        exact SWP.runQ (SPk [(66, [(12, true), (21, true), (23, false), (24, false), (25, false), (26, false), (35, true), (44, true), (47, true)])] []) 100 66 hnt [0] (e := .normal) (z := ⟨[(0, .ptr 0 0)], ⟨[⟨[.str s, .int .i64 (IntKind.wrap IntKind.i64 (Int.ofNat x + IntKind.wrap IntKind.i64 (Int.ofNat (ByteArray.size s) - Int.ofNat x)))], 101⟩], []⟩⟩) (o := [(decide ((↑x : Int) < (↑(ByteArray.size s) : Int)), true), (decide (0 ≤ (↑x : Int) ∧ (↑x : Int) < (↑(ByteArray.size s) : Int)), true), (bt s (Int.ofNat x) == (32 : Int), false), (bt s (Int.ofNat x) == (9 : Int), false), (bt s (Int.ofNat x) == (10 : Int), false), (bt s (Int.ofNat x) == (13 : Int), false), (bt s (Int.ofNat x) == (59 : Int), true), (decide (0 ≤ (↑x : Int) ∧ (↑x : Int) ≤ (↑(ByteArray.size s) : Int) ∧ (↑(ByteArray.size s) : Int) ≤ (↑(ByteArray.size s) : Int)), true), (true, true), (decide (ixB (ByteArray.extract s (Int.toNat (↑x : Int)) (Int.toNat (↑(ByteArray.size s) : Int))) < 0), true), (true, true)]) (by kernel_rfl) (by ((repeat' (first | exact okO_nil | refine okN ?_ ?_)); all_goals first | assumption | rfl | exact same_of rfl | exact sameS_self _ | (simp only [decide_eq_true_eq, decide_eq_false_iff_not, Nat.ble_eq, Nat.beq_eq, beq_eq_false_iff_ne, beq_iff_eq, ne_eq] <;> omega))) (fun st hst => out st (by rw [hst]; exact congrArg (fun z => (⟨[(0, PV.ptr 0 0)], ⟨[⟨[.str s, .int .i64 z], 101⟩], []⟩⟩ : AS)) w2))
    · have e5 := beqF c59
      rw [if_neg c59] at sk
      exact SWP.runQ (SPk [(66, [(12, true), (21, true), (23, false), (24, false), (25, false), (26, false), (35, false)])] []) 100 66 hnt [] (e := .ret) (z := ⟨[], ⟨[⟨[.str s, .int .i64 (Int.ofNat x)], 101⟩], []⟩⟩) (o := [(decide ((↑x : Int) < (↑(ByteArray.size s) : Int)), true), (decide (0 ≤ (↑x : Int) ∧ (↑x : Int) < (↑(ByteArray.size s) : Int)), true), (bt s (Int.ofNat x) == (32 : Int), false), (bt s (Int.ofNat x) == (9 : Int), false), (bt s (Int.ofNat x) == (10 : Int), false), (bt s (Int.ofNat x) == (13 : Int), false), (bt s (Int.ofNat x) == (59 : Int), false)]) (by kernel_rfl) (by repeat' first | exact okO_nil | refine okN ?_ ?_ | assumption | rfl) (fun st hst => fin st x sk hk hst)
  · have d1 := ge_at hge
    exact SWP.runQ (SPk [(66, [(12, false)])] []) 100 66 hnt [] (e := .exit 0) (z := ⟨[], ⟨[⟨[.str s, .int .i64 (Int.ofNat x)], 101⟩], []⟩⟩) (o := [(decide ((↑x : Int) < (↑(ByteArray.size s) : Int)), false)]) (by kernel_rfl) (by repeat' first | exact okO_nil | refine okN ?_ ?_ | assumption | rfl) (fun st hst => fin st x (skp_out s x hge) hk hst)
end Seat
end Go.Proofs.YtkblfapbakfgpaaGreatDoor
namespace Go.Proofs.YtkblfapbakfgpaaGreatDoor
open Go.AS Go.RowKit
set_option linter.unusedVariables false
set_option linter.unusedSimpArgs false
set_option maxRecDepth 100000
set_option maxHeartbeats 4000000
namespace Seat
def skB (f : Nat) (args : List PV) (x : Box) : Option (PV × Box × Ob) := match f, args, x with
  | 61, [.ptr 0 0], ⟨[.str s, .int .i64 a], ty⟩ => match Nat.beq ty 101 with
    | true => some (.tup [], rP s (skp s a.toNat), [(decide (0 ≤ a), true), (Nat.ble s.size 1099511627776, true)])
    | false => none
  | _, _, _ => none
theorem skB_ok : ∀ f xs x r x' o, skB f xs x = some (r, x', o) → (∀ p ∈ o, p.1 = p.2) → PCalls G0 f xs [x] (fun o' b' => o' = .ret r ∧ b' = [x']) ∧ r.sc 0 = true ∧ scL 0 x.cs = true ∧ scL 0 x'.cs = true := by
  intro f args x r b o h ho
  unfold skB at h
  split at h
  · rename_i s a ty
    split at h
    · rename_i hc
      cases h
      simp only [Nat.beq_eq] at hc
      subst hc
      have h1 : 0 ≤ a := of_decide_eq_true (ho (decide (0 ≤ a), true) (by simp))
      have h2 : s.size ≤ 1099511627776 := Nat.le_of_ble_eq_true (ho (Nat.ble s.size 1099511627776, true) (by simp))
      have key := skipP_ok s h2 a.toNat
      unfold rP at key
      rw [Int.toNat_of_nonneg h1] at key
      exact ⟨key, rfl, rfl, rfl⟩
    · cases h
  · cases h
noncomputable def SPn (l : List (Nat × List (Nat × Bool))) (v : List (Nat × List (Nat × PV))) : Cfg G0 := { F := F, hF := hF, S := fun _ _ => none, hS := (fun _ _ _ _ h => by cases h), B := skB, hB := skB_ok, orc := orcM l, val := valM v }
def nxt (s : ByteArray) (a : Nat) : Int := if skp s a < s.size then bt s (skp s a : Int) else 0
theorem nextP_ok (s : ByteArray) (hs : s.size ≤ 1099511627776) (a : Nat) (ha : a ≤ s.size) : PCalls G0 44 [.ptr 0 0] [rP s a] (fun o b' => o = .ret (.int .u8 (nxt s a)) ∧ b' = [rP s (skp s a)]) := by
  refine Fn.enterN Tryz.func44 Tryz.ntmps44 rfl (Nat.le_of_ble_eq_true rfl) fun C fr fp hnt hp hfr hfp => ?_
  have hle := skp_le s a ha
  have s1 : Nat.ble s.size 1099511627776 = true := Nat.ble_eq_true_of_le hs
  rcases Nat.lt_or_ge (skp s a) s.size with hlt | hge
  · have d1 : (((skp s a : Nat) : Int) == ((s.size : Nat) : Int)) = false := beqF (by omega)
    have d2 := in_at hlt
    have e1 : nxt s a = bt s (skp s a : Int) := if_pos hlt
    exact SWP.runQ (SPn [(24, [(14, false), (23, true)])] []) 100 24 hnt [2] (e := .ret) (z := ⟨[(2, PV.int IntKind.u8 (bt s (Int.ofNat (skp s (Int.toNat (Int.ofNat a))))))], ⟨[⟨[.str s, .int .i64 (Int.ofNat (skp s (Int.toNat (Int.ofNat a))))], 101⟩], []⟩⟩) (o := [(true, true), (Nat.ble (ByteArray.size s) 1099511627776, true), (Int.ofNat (skp s (Int.toNat (Int.ofNat a))) == Int.ofNat (ByteArray.size s), false), (decide (0 ≤ (↑(skp s (Int.toNat (↑a : Int))) : Int) ∧ (↑(skp s (Int.toNat (↑a : Int))) : Int) < (↑(ByteArray.size s) : Int)), true)]) (by kernel_rfl) (by repeat' first | exact okO_nil | refine okN ?_ ?_ | assumption | rfl) (fun st hst => hfr st [2] (by
      rw [hst, e1]
      exact ⟨1, _, Nat.le_refl _, Nat.le_refl _, rfl, rfl, rfl, rfl, rfl⟩))
  · have d1 : (((skp s a : Nat) : Int) == ((s.size : Nat) : Int)) = true := beqT (by omega)
    have e1 : nxt s a = 0 := if_neg (by omega)
    exact SWP.runQ (SPn [(24, [(14, true)])] []) 100 24 hnt [2] (e := .ret) (z := ⟨[(2, PV.int IntKind.u8 (0 : Int))], ⟨[⟨[.str s, .int .i64 (Int.ofNat (skp s (Int.toNat (Int.ofNat a))))], 101⟩], []⟩⟩) (o := [(true, true), (Nat.ble (ByteArray.size s) 1099511627776, true), (Int.ofNat (skp s (Int.toNat (Int.ofNat a))) == Int.ofNat (ByteArray.size s), true)]) (by kernel_rfl) (by repeat' first | exact okO_nil | refine okN ?_ ?_ | assumption | rfl) (fun st hst => hfr st [2] (by
      rw [hst, e1]
      exact ⟨1, _, Nat.le_refl _, Nat.le_refl _, rfl, rfl, rfl, rfl, rfl⟩))
end Seat
end Go.Proofs.YtkblfapbakfgpaaGreatDoor
namespace Go.Proofs.YtkblfapbakfgpaaGreatDoor
open Go.AS Go.RowKit
set_option linter.unusedVariables false
set_option linter.unusedSimpArgs false
set_option maxRecDepth 100000
set_option maxHeartbeats 4000000
namespace Seat
noncomputable def noS (v : Int) (f : Nat) (args : List PV) : Option (PV × Ob) := match f, args with
  | 77, [.str s, .int .i64 10, .int .i64 64] => some (.tup [.int .i64 v, .niliface], [(parOk s.data.toList v, true), (Nat.ble s.size 1099511627776, true)])
  | 69, [.int .i64 n, .int .i64 10] => some (.str (mkS (Go.Lib.itoa n)), [(decide (-9223372036854775808 ≤ n ∧ n ≤ 9223372036854775807), true)])
  | _, _ => none
theorem noS_ok (v : Int) (f : Nat) (args : List PV) (r : PV) (o : Ob) (h : noS v f args = some (r, o)) (ho : ∀ p ∈ o, p.1 = p.2) (_ : pureL args = true) : Pure G0 f args (fun x => x = r) := by
  unfold noS at h
  split at h
  · rename_i s _
    cases h
    exact parseOkP s (Nat.le_of_ble_eq_true (ho (Nat.ble s.size 1099511627776, true) (by simp))) v (ho (parOk s.data.toList v, true) (by simp))
  · cases h
    have := of_decide_eq_true (ho _ (List.mem_singleton.2 rfl))
    exact formatInt _ this.1 this.2
  · cases h
noncomputable def neS (v : Int) (f : Nat) (args : List PV) : Option (PV × Ob) := match f, args with
  | 77, [.str s, .int .i64 10, .int .i64 64] => some (.tup [.int .i64 v, .iface TE (.epos [])], [(parErr s.data.toList v, true), (Nat.ble s.size 1099511627776, true)])
  | _, _ => none
theorem neS_ok (v : Int) (f : Nat) (args : List PV) (r : PV) (o : Ob) (h : neS v f args = some (r, o)) (ho : ∀ p ∈ o, p.1 = p.2) (_ : pureL args = true) : Pure G0 f args (fun x => x = r) := by
  unfold neS at h
  split at h
  · rename_i s _
    cases h
    exact parseErrP s (Nat.le_of_ble_eq_true (ho (Nat.ble s.size 1099511627776, true) (by simp))) v (ho (parErr s.data.toList v, true) (by simp))
  · cases h
noncomputable def SNo (x : Int) (l : List (Nat × List (Nat × Bool))) (v : List (Nat × List (Nat × PV))) : Cfg G0 := { F := F, hF := hF, S := noS x, hS := noS_ok x, orc := orcM l, val := valM v }
noncomputable def SNe (x : Int) (l : List (Nat × List (Nat × Bool))) (v : List (Nat × List (Nat × PV))) : Cfg G0 := { F := F, hF := hF, S := neS x, hS := neS_ok x, orc := orcM l, val := valM v }
def numQ (w : ByteArray) : Int × Bool := match Go.Lib.parseIntB 64 w.data.toList with
  | .ok v => (v, ByteArray.toList (mkS (Go.Lib.itoa v)) == ByteArray.toList w)
  | Go.Lib.NumEnd.syntax => (0, false)
  | .range => (Go.Lib.intSat 64 w.data.toList, false)
theorem numberP (w : ByteArray) (hw : w.size ≤ 1099511627776) : Pure G0 72 [.str w] (fun r => r = .tup [.int .i64 (numQ w).1, .bool (numQ w).2]) := by
  refine Fn.enterN Tryz.func72 Tryz.ntmps72 rfl (Nat.le_of_ble_eq_true rfl) fun C fr fp hnt hp hfr hfp => ?_
  have s1 : Nat.ble w.size 1099511627776 = true := Nat.ble_eq_true_of_le hw
  have fin : ∀ st a b, numQ w = (a, b) → nrm [2, 3] st = ⟨[(2, .int .i64 a), (3, .bool b)], ⟨[], []⟩⟩ → fr st := fun st a b h hst => hfr st [2, 3] (by
    rw [hst, h]
    exact FinR.pure rfl rfl rfl)
  rcases h : Go.Lib.parseIntB 64 w.data.toList with v | _ | _
  · skip
    have p1 : decide (Go.Lib.parseIntB 64 (Array.toList (ByteArray.data w)) = Go.Lib.NumEnd.ok v) = true := decide_eq_true h
    have hb := Go.Lib.parseIntB_bounds h
    have p2 : decide (-9223372036854775808 ≤ v ∧ v ≤ 9223372036854775807) = true := decide_eq_true (by omega)
    have hq : numQ w = (v, ByteArray.toList (mkS (Go.Lib.itoa v)) == ByteArray.toList w) := by unfold numQ; rw [h]
    cases hc : (ByteArray.toList (mkS (Go.Lib.itoa v)) == ByteArray.toList w) with
    | true =>
      rw [hc] at hq
      exact SWP.runQ (SNo v [(20, [(18, true)])] []) 100 20 hnt [2, 3] (e := .ret) (z := ⟨[(2, .int .i64 v), (3, .bool true)], ⟨[], []⟩⟩) (o := [(true, true), (decide (Lib.parseIntB 64 (Array.toList (ByteArray.data w)) = Lib.NumEnd.ok v), true), (Nat.ble (ByteArray.size w) 1099511627776, true), (true, true), (decide (-9223372036854775808 ≤ v ∧ v ≤ 9223372036854775807), true), (ByteArray.toList (mkS (Lib.itoa v)) == ByteArray.toList w, true)]) (by kernel_rfl) (by repeat' first | exact okO_nil | refine okN ?_ ?_ | assumption | rfl) (fun st hst => fin st _ _ hq hst)
    | false =>
      rw [hc] at hq
      exact SWP.runQ (SNo v [(20, [(18, false)])] []) 100 20 hnt [2, 3] (e := .ret) (z := ⟨[(2, .int .i64 v), (3, .bool false)], ⟨[], []⟩⟩) (o := [(true, true), (decide (Lib.parseIntB 64 (Array.toList (ByteArray.data w)) = Lib.NumEnd.ok v), true), (Nat.ble (ByteArray.size w) 1099511627776, true), (true, true), (decide (-9223372036854775808 ≤ v ∧ v ≤ 9223372036854775807), true), (ByteArray.toList (mkS (Lib.itoa v)) == ByteArray.toList w, false)]) (by kernel_rfl) (by repeat' first | exact okO_nil | refine okN ?_ ?_ | assumption | rfl) (fun st hst => fin st _ _ hq hst)
  · skip
    obtain ⟨v, hv⟩ : ∃ v : Int, v = 0 := ⟨0, rfl⟩
    have p1 : decide ((Go.Lib.parseIntB 64 (Array.toList (ByteArray.data w)) = Go.Lib.NumEnd.syntax ∧ v = 0) ∨ (Go.Lib.parseIntB 64 (Array.toList (ByteArray.data w)) = Go.Lib.NumEnd.range ∧ v = Go.Lib.intSat 64 (Array.toList (ByteArray.data w)))) = true := decide_eq_true (.inl ⟨h, hv⟩)
    have hq : numQ w = (v, false) := by unfold numQ; rw [h, hv]
    exact SWP.runQ (SNe v [] []) 100 20 hnt [2, 3] (e := .ret) (z := ⟨[(2, .int .i64 v), (3, .bool false)], ⟨[], []⟩⟩) (o := [(true, true), (decide (Lib.parseIntB 64 (Array.toList (ByteArray.data w)) = Lib.NumEnd.syntax ∧ v = 0 ∨ Lib.parseIntB 64 (Array.toList (ByteArray.data w)) = Lib.NumEnd.range ∧ v = Lib.intSat 64 (Array.toList (ByteArray.data w))), true), (Nat.ble (ByteArray.size w) 1099511627776, true)]) (by kernel_rfl) (by repeat' first | exact okO_nil | refine okN ?_ ?_ | assumption | rfl) (fun st hst => fin st _ _ hq hst)
  · skip
    obtain ⟨v, hv⟩ : ∃ v : Int, v = Go.Lib.intSat 64 w.data.toList := ⟨_, rfl⟩
    have p1 : decide ((Go.Lib.parseIntB 64 (Array.toList (ByteArray.data w)) = Go.Lib.NumEnd.syntax ∧ v = 0) ∨ (Go.Lib.parseIntB 64 (Array.toList (ByteArray.data w)) = Go.Lib.NumEnd.range ∧ v = Go.Lib.intSat 64 (Array.toList (ByteArray.data w)))) = true := decide_eq_true (.inr ⟨h, hv⟩)
    have hq : numQ w = (v, false) := by unfold numQ; rw [h, hv]
    exact SWP.runQ (SNe v [] []) 100 20 hnt [2, 3] (e := .ret) (z := ⟨[(2, .int .i64 v), (3, .bool false)], ⟨[], []⟩⟩) (o := [(true, true), (decide (Lib.parseIntB 64 (Array.toList (ByteArray.data w)) = Lib.NumEnd.syntax ∧ v = 0 ∨ Lib.parseIntB 64 (Array.toList (ByteArray.data w)) = Lib.NumEnd.range ∧ v = Lib.intSat 64 (Array.toList (ByteArray.data w))), true), (Nat.ble (ByteArray.size w) 1099511627776, true)]) (by kernel_rfl) (by repeat' first | exact okO_nil | refine okN ?_ ?_ | assumption | rfl) (fun st hst => fin st _ _ hq hst)
end Seat
end Go.Proofs.YtkblfapbakfgpaaGreatDoor
namespace Go.Proofs.YtkblfapbakfgpaaGreatDoor
open Go.AS
set_option linter.unusedVariables false
set_option linter.unusedSimpArgs false
namespace Seat
def digV : List UInt8 → Nat → Nat
  | [], n => n
  | c :: r, n => digV r (10 * n + (c.toNat - 48))
def allDig (l : List UInt8) : Bool := l.all fun c => decide (48 ≤ c.toNat ∧ c.toNat ≤ 57)
theorem digV_ge : ∀ (l : List UInt8) (n : Nat), n ≤ digV l n
  | [], n => Nat.le_refl _
  | c :: r, n => Nat.le_trans (by omega) (digV_ge r _)
theorem parse_of : ∀ (l : List UInt8) (n : Nat), allDig l = true → digV l n < 18446744073709551616 → Go.Lib.parseUint10 n l = .ok (digV l n)
  | [], n, _, _ => rfl
  | c :: r, n, h, hb => by
    simp only [allDig, List.all_cons, Bool.and_eq_true, decide_eq_true_eq] at h
    have hge := digV_ge r (10 * n + (c.toNat - 48))
    rw [digV] at hb
    simp only [Go.Lib.parseUint10]
    rw [if_pos h.1, if_neg (by omega), if_neg (by omega), digV, Nat.mul_comm n 10]
    exact parse_of r _ h.2 hb
theorem bt_drop (t : ByteArray) (i : Nat) (h : i < t.size) : ∃ c, t.data.toList.drop i = c :: t.data.toList.drop (i + 1) ∧ bt t (i : Int) = (c.toNat : Int) := by
  have hlen : t.data.toList.length = t.size := Array.length_toList
  refine ⟨t.data.toList[i]'(by omega), List.drop_eq_getElem_cons (by omega), ?_⟩
  unfold bt
  rw [dif_pos (by rw [Int.toNat_natCast]; exact h)]
  rfl
theorem numK_eq (t : ByteArray) : ∀ (k i n : Nat), i + k = t.size → numK t k i n = if allDig (t.data.toList.drop i) = true ∧ (k = 0 ∨ digV (t.data.toList.drop i) n ≤ 9223372036854775808) then some (digV (t.data.toList.drop i) n) else none
  | 0, i, n, h => by
    have hlen : t.data.toList.length = t.size := Array.length_toList
    rw [List.drop_of_length_le (by omega), if_pos ⟨rfl, .inl rfl⟩]; rfl
  | k + 1, i, n, h => by
    obtain ⟨c, hc, hb⟩ := bt_drop t i (by omega)
    rw [numK, numK_eq t k (i + 1) _ (by omega), hc, hb]
    have hn : ((c.toNat : Int) - 48).toNat = c.toNat - 48 := by omega
    rw [hn]
    have hge := digV_ge (t.data.toList.drop (i + 1)) (10 * n + (c.toNat - 48))
    have hk : k = 0 → t.data.toList.drop (i + 1) = [] := fun hk => List.drop_of_length_le (by have : t.data.toList.length = t.size := Array.length_toList; omega)
    simp only [allDig, List.all_cons, digV, Bool.and_eq_true, decide_eq_true_eq]
    by_cases h1 : 48 ≤ c.toNat ∧ c.toNat ≤ 57
    · by_cases h2 : 10 * n + (c.toNat - 48) ≤ 9223372036854775808
      · rw [if_pos (by omega)]
        by_cases h0 : k = 0
        · rw [hk h0]; simp [h0, h1, h2, digV]
        · simp [h0, h1]
      · rw [if_neg (by omega), if_neg (by intro g; rcases g.2 with g2 | g2 <;> omega)]
    · rw [if_neg (by omega), if_neg (fun g => h1 g.1.1)]
theorem digV_snoc : ∀ (l : List UInt8) (n : Nat) (d : UInt8), digV (l ++ [d]) n = 10 * digV l n + (d.toNat - 48)
  | [], n, d => rfl
  | c :: r, n, d => digV_snoc r _ d
theorem chr {k : Nat} (h : k < 10) : (UInt8.ofNat (48 + k)).toNat = 48 + k := by
  rw [UInt8.toNat_ofNat']; omega
theorem dec_ok (u : Nat) : allDig (Go.Lib.decDigits u) = true ∧ digV (Go.Lib.decDigits u) 0 = u := by
  induction u using Nat.strongRecOn with
  | _ u ih =>
    rw [Go.Lib.decDigits]
    split
    · rename_i h
      refine ⟨?_, ?_⟩
      · simp only [allDig, List.all_cons, List.all_nil, Bool.and_true, decide_eq_true_eq, chr h]; omega
      · simp only [digV, chr h]; omega
    · rename_i h
      obtain ⟨h1, h2⟩ := ih (u / 10) (by omega)
      have hm : u % 10 < 10 := Nat.mod_lt _ (by omega)
      refine ⟨?_, ?_⟩
      · simp only [allDig, List.all_append, List.all_cons, List.all_nil, Bool.and_true, Bool.and_eq_true, decide_eq_true_eq, chr hm]
        exact ⟨h1, by omega⟩
      · rw [digV_snoc, h2, chr hm]; omega
theorem digV_zero : ∀ (l : List UInt8) (c : UInt8), 49 ≤ c.toNat → 1 ≤ digV (c :: l) 0 := fun l c h => by
  have := digV_ge l (10 * 0 + (c.toNat - 48))
  rw [digV]; omega
theorem dec_of : ∀ (m : Nat) (l : List UInt8), l.length ≤ m → l ≠ [] → allDig l = true → (l.head?.map (·.toNat) ≠ some 48 ∨ l.length = 1) → Go.Lib.decDigits (digV l 0) = l
  | 0, l, h, h0, _, _ => absurd (List.eq_nil_of_length_eq_zero (by omega)) h0
  | m + 1, l, h, h0, hd, hz => by
    rcases List.eq_nil_or_concat l with rfl | ⟨r, d, rfl⟩
    · exact absurd rfl h0
    · rw [List.concat_eq_append] at *
      simp only [allDig, List.all_append, List.all_cons, List.all_nil, Bool.and_true, Bool.and_eq_true, decide_eq_true_eq] at hd
      rw [digV_snoc, Go.Lib.decDigits]
      have hdd : UInt8.ofNat (48 + (d.toNat - 48)) = d := by
        apply UInt8.toNat_inj.1
        rw [UInt8.toNat_ofNat']
        have := d.toNat_lt
        omega
      cases r with
      | nil =>
        rw [dif_pos (by simp only [digV]; omega)]
        simp only [digV, List.nil_append, Nat.mul_zero, Nat.zero_add]
        rw [hdd]
      | cons c r =>
        have hc : allDig (c :: r) = true := hd.1
        have h49 : 49 ≤ c.toNat := by
          simp only [allDig, List.all_cons, Bool.and_eq_true, decide_eq_true_eq] at hc
          rcases hz with hz | hz
          · simp at hz; omega
          · simp at hz
        have h1 := digV_zero r c h49
        rw [dif_neg (by omega)]
        have e1 : (10 * digV (c :: r) 0 + (d.toNat - 48)) / 10 = digV (c :: r) 0 := by omega
        have e2 : (10 * digV (c :: r) 0 + (d.toNat - 48)) % 10 = d.toNat - 48 := by omega
        rw [e1, e2, hdd, dec_of m (c :: r) (by simp at h ⊢; omega) (by simp) hc (.inl (by simp; omega))]
end Seat
end Go.Proofs.YtkblfapbakfgpaaGreatDoor
namespace Go.Proofs.YtkblfapbakfgpaaGreatDoor
open Go.AS
set_option linter.unusedVariables false
set_option linter.unusedSimpArgs false
namespace Seat
theorem bt_head {w : ByteArray} {c : UInt8} {r : List UInt8} (h : w.data.toList = c :: r) : bt w 0 = (c.toNat : Int) := by
  have hlen : w.data.toList.length = w.size := Array.length_toList
  obtain ⟨d, h1, h2⟩ := bt_drop w 0 (by rw [← hlen, h]; simp)
  rw [List.drop_zero, h] at h1
  rw [(List.cons.inj h1).1]
  exact h2
theorem size_cons {w : ByteArray} {c : UInt8} {r : List UInt8} (h : w.data.toList = c :: r) : w.size = r.length + 1 := by
  have hlen : w.data.toList.length = w.size := Array.length_toList
  rw [← hlen, h]; rfl
theorem ge_cons {w : ByteArray} (h : w.size ≠ 0) : ∃ c r, w.data.toList = c :: r := by
  have hlen : w.data.toList.length = w.size := Array.length_toList
  cases hc : w.data.toList with
  | nil => rw [hc] at hlen; exact absurd hlen.symm h
  | cons c r => exact ⟨c, r, rfl⟩
theorem numT_of (t : ByteArray) (b : Bool) (c : UInt8) (r : List UInt8) (hl : t.data.toList = c :: r) (hd : allDig (c :: r) = true) (hz : c.toNat ≠ 48 ∨ (r = [] ∧ b = false)) (hb : digV (c :: r) 0 ≤ 9223372036854775808) :
    numT t b = if b = true then (IntKind.i64.wrap (-(digV (c :: r) 0 : Int)), true) else (IntKind.i64.wrap (digV (c :: r) 0 : Int), decide (digV (c :: r) 0 < 9223372036854775808)) := by
  have hs := size_cons hl
  have hh := bt_head hl
  have hk := numK_eq t t.size 0 0 (by omega)
  rw [List.drop_zero, hl, if_pos ⟨hd, .inr hb⟩] at hk
  unfold numT
  rw [if_neg (by
    rintro (g | ⟨g1, g2⟩)
    · omega
    · rw [hh] at g1
      rcases hz with hz | ⟨rfl, rfl⟩
      · omega
      · rcases g2 with g2 | g2
        · simp at hs; omega
        · cases g2), hk]
theorem numT_true (t : ByteArray) (b : Bool) (x : Int) (h : numT t b = (x, true)) : ∃ c r, t.data.toList = c :: r ∧ allDig (c :: r) = true ∧ (c.toNat ≠ 48 ∨ (r = [] ∧ b = false)) ∧ digV (c :: r) 0 ≤ 9223372036854775808 ∧ (b = true → x = IntKind.i64.wrap (-(digV (c :: r) 0 : Int))) ∧ (b = false → x = IntKind.i64.wrap (digV (c :: r) 0 : Int) ∧ digV (c :: r) 0 < 9223372036854775808) := by
  unfold numT at h
  split at h
  · cases h
  · rename_i hn
    obtain ⟨c, r, hl⟩ := ge_cons (w := t) (fun g => hn (.inl g))
    have hs := size_cons hl
    have hh := bt_head hl
    have hk := numK_eq t t.size 0 0 (by omega)
    rw [List.drop_zero, hl] at hk
    refine ⟨c, r, hl, ?_⟩
    by_cases hc : allDig (c :: r) = true ∧ (t.size = 0 ∨ digV (c :: r) 0 ≤ 9223372036854775808)
    · rw [if_pos hc] at hk
      rw [hk] at h
      refine ⟨hc.1, ?_, by rcases hc.2 with g | g <;> omega, ?_, ?_⟩
      · by_cases h48 : c.toNat = 48
        · refine .inr ?_
          have : ¬ (1 < t.size ∨ b = true) := fun g => hn (.inr ⟨by rw [hh, h48]; rfl, g⟩)
          refine ⟨List.eq_nil_of_length_eq_zero (by have := fun g => this (.inl g); omega), ?_⟩
          cases b with
          | true => exact absurd (.inr rfl) this
          | false => rfl
        · exact .inl h48
      · rintro rfl
        simp only [if_true] at h
        exact (Prod.mk.inj h).1.symm
      · rintro rfl
        simp only [Bool.false_eq_true, if_false] at h
        exact ⟨(Prod.mk.inj h).1.symm, of_decide_eq_true (Prod.mk.inj h).2⟩
    · rw [if_neg hc] at hk
      rw [hk] at h
      cases h
theorem dec_head (u : Nat) : ∃ c r, Go.Lib.decDigits u = c :: r ∧ (1 ≤ u → c.toNat ≠ 48) ∧ (u = 0 → r = []) := by
  induction u using Nat.strongRecOn with
  | _ u ih =>
    rw [Go.Lib.decDigits]
    split
    · rename_i h
      exact ⟨_, _, rfl, fun h1 => by rw [chr h]; omega, fun _ => rfl⟩
    · rename_i h
      obtain ⟨c, r, h1, h2, h3⟩ := ih (u / 10) (by omega)
      rw [h1]
      exact ⟨c, r ++ _, rfl, fun _ => h2 (by omega), fun h0 => by omega⟩
theorem toList_mk (l : List UInt8) : (mkS l).data.toList = l := by simp [mkS]
theorem bl_eq (w : ByteArray) : ByteArray.toList w = w.data.toList := by rw [← ByteArray.toList_eq] 
theorem allDig_head {c : UInt8} {r : List UInt8} (h : allDig (c :: r) = true) : 48 ≤ c.toNat ∧ c.toNat ≤ 57 := by
  simp only [allDig, List.all_cons, Bool.and_eq_true, decide_eq_true_eq] at h
  exact h.1
theorem numB_cons {w : ByteArray} {c : UInt8} {r : List UInt8} (h : w.data.toList = c :: r) : numB w = decide (c.toNat = 45) := by
  unfold numB
  rw [bt_head h, size_cons h]
  simp
  omega
theorem numB_none {w : ByteArray} (h : numB w = true) : ∃ r, w.data.toList = 45 :: r ∧ (w.extract 1 w.size).data.toList = r := by
  have h' := of_decide_eq_true h
  obtain ⟨c, r, hl⟩ := ge_cons (w := w) (by omega)
  rw [bt_head hl] at h'
  have hc : c = 45 := UInt8.toNat_inj.1 (by rw [show (45 : UInt8).toNat = 45 from rfl]; omega)
  subst hc
  refine ⟨r, hl, ?_⟩
  rw [Go.Lib.extract_to_end, hl]; rfl
theorem num_A (w : ByteArray) (x : Int) (h : numV w = (x, true)) : numQ w = (x, true) := by
  have key : Go.Lib.parseIntB 64 w.data.toList = .ok x ∧ Go.Lib.itoa x = w.data.toList := by
    rw [Go.Lib.parseIntB_64]
    unfold numV at h
    split at h
    · rename_i hb
      obtain ⟨r, hl, ht⟩ := numB_none hb
      obtain ⟨c, q, h1, h2, h3, h4, h5, _⟩ := numT_true _ _ _ h
      have hx := h5 rfl
      rw [ht] at h1
      rw [hl, h1]
      have h48 : c.toNat ≠ 48 := by
        rcases h3 with h3 | h3
        · exact h3
        · cases h3.2
      have hdg := allDig_head h2
      have hpos := digV_zero q c (by omega)
      have hw : IntKind.wrap IntKind.i64 (-(digV (c :: q) 0 : Int)) = -(digV (c :: q) 0 : Int) := by rw [IntKind.wrap_i64]; omega
      rw [hw] at hx
      subst hx
      refine ⟨?_, ?_⟩
      · rw [Go.Lib.atoiAll_minus]
        unfold Go.Lib.parseMag
        rw [if_neg (by simp), parse_of _ 0 h2 (by omega)]
        simp only [Go.Lib.signed]
        rw [if_neg (by omega)]
      · unfold Go.Lib.itoa
        rw [if_pos (by omega)]
        have e : (-(digV (c :: q) 0 : Int)).natAbs = digV (c :: q) 0 := by omega
        rw [e, dec_of _ (c :: q) (Nat.le_refl _) (by simp) h2 (.inl (by simp; omega))]
    · rename_i hb
      obtain ⟨c, q, h1, h2, h3, h4, _, h6⟩ := numT_true _ _ _ h
      obtain ⟨hx, hlt⟩ := h6 rfl
      have hdg := allDig_head h2
      have hw : IntKind.wrap IntKind.i64 (digV (c :: q) 0 : Int) = (digV (c :: q) 0 : Int) := by rw [IntKind.wrap_i64]; omega
      rw [hw] at hx
      subst hx
      rw [h1]
      refine ⟨?_, ?_⟩
      · rw [Go.Lib.atoiAll_plain c q (by omega) (by omega)]
        unfold Go.Lib.parseMag
        rw [if_neg (by simp), parse_of _ 0 h2 (by omega)]
        simp only [Go.Lib.signless]
        rw [if_neg (by omega)]
      · unfold Go.Lib.itoa
        rw [if_neg (by omega)]
        have e : ((digV (c :: q) 0 : Int)).toNat = digV (c :: q) 0 := by omega
        rw [e]
        refine dec_of _ (c :: q) (Nat.le_refl _) (by simp) h2 ?_
        rcases h3 with h3 | h3
        · exact .inl (by simp; omega)
        · exact .inr (by rw [h3.1]; rfl)
  unfold numQ
  rw [key.1]
  simp only [key.2]
  rw [bl_eq, beq_self_eq_true]
theorem num_B (w : ByteArray) (x : Int) (h : numQ w = (x, true)) : numV w = (x, true) := by
  have key : (-9223372036854775808 ≤ x ∧ x ≤ 9223372036854775807) ∧ Go.Lib.itoa x = w.data.toList := by
    unfold numQ at h
    split at h
    · rename_i v hv
      have hbd := Go.Lib.parseIntB_bounds hv
      obtain ⟨rfl, h2⟩ := Prod.mk.inj h
      rw [bl_eq, bl_eq, toList_mk] at h2
      exact ⟨by omega, eq_of_beq h2⟩
    · cases h
    · cases h
  obtain ⟨hb, hl⟩ := key
  unfold Go.Lib.itoa at hl
  unfold numV
  split at hl
  · rename_i hneg
    have hl' := hl.symm
    rw [numB_cons hl', if_pos (by decide)]
    obtain ⟨c, r, h1, h2, _⟩ := dec_head x.natAbs
    obtain ⟨d1, d2⟩ := dec_ok x.natAbs
    rw [h1] at d1 d2
    have ht : (w.extract 1 w.size).data.toList = c :: r := by rw [Go.Lib.extract_to_end, hl', h1]; rfl
    rw [numT_of _ true c r ht d1 (.inl (h2 (by omega))) (by omega), if_pos rfl, d2]
    have hw : IntKind.wrap IntKind.i64 (-(x.natAbs : Int)) = x := by rw [IntKind.wrap_i64]; omega
    rw [hw]
  · rename_i hneg
    have hl' := hl.symm
    obtain ⟨c, r, h1, h2, h3⟩ := dec_head x.toNat
    obtain ⟨d1, d2⟩ := dec_ok x.toNat
    rw [h1] at d1 d2 hl'
    have hdg := allDig_head d1
    rw [numB_cons hl', if_neg (by simp; omega)]
    rw [numT_of w false c r hl' d1 (by
      by_cases h0 : x.toNat = 0
      · exact .inr ⟨h3 h0, rfl⟩
      · exact .inl (h2 (by omega))) (by omega), if_neg (by decide), d2]
    have hw : IntKind.wrap IntKind.i64 ((x.toNat : Nat) : Int) = x := by rw [IntKind.wrap_i64]; omega
    rw [hw, decide_eq_true (by omega)]
theorem num_same (w : ByteArray) : (numQ w).2 = (numV w).2 ∧ ((numV w).2 = true → (numQ w).1 = (numV w).1) := by
  rcases hq : numQ w with ⟨a, b⟩
  rcases hv : numV w with ⟨c, d⟩
  cases b with
  | true => rw [num_B w a hq] at hv; cases hv; exact ⟨rfl, fun _ => rfl⟩
  | false =>
    cases d with
    | true => rw [num_A w c hv] at hq; cases hq
    | false => exact ⟨rfl, fun h => by cases h⟩
end Seat
end Go.Proofs.YtkblfapbakfgpaaGreatDoor
namespace Go.Proofs.YtkblfapbakfgpaaGreatDoor
open Go.AS
set_option linter.unusedVariables false
set_option linter.unusedSimpArgs false
set_option maxRecDepth 10000
namespace Seat
theorem wrap_rng (n : Int) : -9223372036854775808 ≤ IntKind.wrap IntKind.i64 n ∧ IntKind.wrap IntKind.i64 n ≤ 9223372036854775807 := by rw [IntKind.wrap_i64]; omega
theorem numT_rng (t : ByteArray) (b : Bool) : -9223372036854775808 ≤ (numT t b).1 ∧ (numT t b).1 ≤ 9223372036854775807 := by
  unfold numT
  split
  · decide
  · split
    · decide
    · split
      · exact wrap_rng _
      · exact wrap_rng _
theorem numV_rng (w : ByteArray) : -9223372036854775808 ≤ (numV w).1 ∧ (numV w).1 ≤ 9223372036854775807 := by
  unfold numV
  split
  · exact numT_rng _ _
  · exact numT_rng _ _
theorem Dats.snoc_rng : ∀ (l : Dats) (x : Dat), l.rng → x.rng → (Dats.snoc l x).rng
  | .nil, x, _, hx => ⟨hx, trivial⟩
  | .cons d ds, x, h, hx => ⟨h.1, Dats.snoc_rng ds x h.2 hx⟩
theorem formedL_snoc : ∀ (l : Dats) (x : Dat), formedL l = true → formedD x = true → formedL (Dats.snoc l x) = true
  | .nil, x, _, hx => by simp only [Dats.snoc, formedL, hx, Bool.and_true]
  | .cons d ds, x, h, hx => by
    simp only [formedL, Bool.and_eq_true] at h
    simp only [Dats.snoc, formedL, Bool.and_eq_true]
    exact ⟨h.1, formedL_snoc ds x h.2 hx⟩
theorem textL_snoc : ∀ (l : Dats) (x : Dat), textL false (Dats.snoc l x) = textL false l ++ 32 :: textD x
  | .nil, x => by simp [Dats.snoc, textL]
  | .cons d ds, x => by simp only [Dats.snoc, textL, textL_snoc ds x]; simp
theorem textL_first : ∀ l : Dats, (textL true l).length ≤ (textL false l).length
  | .nil => Nat.le_refl _
  | .cons d ds => by simp [textL]
theorem parts_snoc : ∀ (l : Dats) (x : Dat), partsL (Dats.snoc l x) = partsL l + parts x
  | .nil, x => by simp [Dats.snoc, partsL]
  | .cons d ds, x => by simp only [Dats.snoc, partsL, parts_snoc ds x]; omega
theorem deep_snoc : ∀ (l : Dats) (x : Dat), deepNL (Dats.snoc l x) = max (deepNL l) (deepN x)
  | .nil, x => by simp [Dats.snoc, deepNL]
  | .cons d ds, x => by simp only [Dats.snoc, deepNL, deep_snoc ds x]; omega
structure Fit (n c : Nat) (d : Dat) : Prop where
  form : formedD d = true
  rng : d.rng
  text : (textD d).length + 1 ≤ 32 * c
  deep : deepN d ≤ n
  part : parts d ≤ 2 * c
theorem rdL_fit {s : ByteArray} {n : Nat} (ih : ∀ a, a ≤ s.size → (rdD s n a).2.e = 0 → Fit n ((rdD s n a).2.a - a) (rdD s n a).1.dat) :
    ∀ k x l, x ≤ s.size → (rdL (rdD s n) s k ⟨x, 0, 0⟩ l).2.e = 0 → formedL l.dat = true → l.dat.rng →
      formedL (rdL (rdD s n) s k ⟨x, 0, 0⟩ l).1.dat = true ∧ (rdL (rdD s n) s k ⟨x, 0, 0⟩ l).1.dat.rng ∧ x ≤ (rdL (rdD s n) s k ⟨x, 0, 0⟩ l).2.a ∧
      (textL false (rdL (rdD s n) s k ⟨x, 0, 0⟩ l).1.dat).length ≤ (textL false l.dat).length + 32 * ((rdL (rdD s n) s k ⟨x, 0, 0⟩ l).2.a - x) ∧
      deepNL (rdL (rdD s n) s k ⟨x, 0, 0⟩ l).1.dat ≤ max (deepNL l.dat) n ∧
      partsL (rdL (rdD s n) s k ⟨x, 0, 0⟩ l).1.dat ≤ partsL l.dat + 2 * ((rdL (rdD s n) s k ⟨x, 0, 0⟩ l).2.a - x) := by
  intro k
  induction k with
  | zero => intro x l hx he hf hr; exact ⟨hf, hr, Nat.le_refl _, by show (textL false l.dat).length ≤ (textL false l.dat).length + 32 * (x - x); omega, by show deepNL l.dat ≤ max (deepNL l.dat) n; omega, by show partsL l.dat ≤ partsL l.dat + 2 * (x - x); omega⟩
  | succ k ihk =>
    intro x l hx he hf hr
    rw [rdL] at he ⊢
    by_cases hg : goes s ⟨x, 0, 0⟩ = true
    · rw [if_pos hg] at he ⊢
      have hs := rdD_steps s n x hx
      simp only [] at he ⊢
      by_cases h0 : (rdD s n x).2.e = 0
      · have hfit := ih x hx h0
        have h1 := hs.1.ok h0
        have h2 := hs.2 h0
        have h3 := skp_ge s (rdD s n x).2.a
        have h4 := skp_le s (rdD s n x).2.a h1.1
        rw [h0, h1.2] at he ⊢
        obtain ⟨g1, g2, g3, g4, g5, g6⟩ := ihk (skp s (rdD s n x).2.a) (l.snoc (rdD s n x).1) h4 he (by rw [Nds.dat_snoc]; exact formedL_snoc _ _ hf hfit.form) (by rw [Nds.dat_snoc]; exact Dats.snoc_rng _ _ hr hfit.rng)
        have hsz : (textL false (l.snoc (rdD s n x).1).dat).length = (textL false l.dat).length + ((textD (rdD s n x).1.dat).length + 1) := by
          rw [Nds.dat_snoc, textL_snoc, List.length_append, List.length_cons]
        have hpp : partsL (l.snoc (rdD s n x).1).dat = partsL l.dat + parts (rdD s n x).1.dat := by rw [Nds.dat_snoc, parts_snoc]
        have hdd : deepNL (l.snoc (rdD s n x).1).dat = max (deepNL l.dat) (deepN (rdD s n x).1.dat) := by rw [Nds.dat_snoc, deep_snoc]
        have t1 := hfit.text
        have t2 := hfit.part
        have t3 := hfit.deep
        exact ⟨g1, g2, by omega, by omega, by omega, by omega⟩
      · have : goes s ⟨skp s (rdD s n x).2.a, (rdD s n x).2.e, (rdD s n x).2.b⟩ = false := goes_err h0
        rw [rdL_stop this] at he
        exact absurd he h0
    · rw [if_neg hg] at he ⊢
      exact ⟨hf, hr, Nat.le_refl _, by show (textL false l.dat).length ≤ (textL false l.dat).length + 32 * (x - x); omega, by show deepNL l.dat ≤ max (deepNL l.dat) n; omega, by show partsL l.dat ≤ partsL l.dat + 2 * (x - x); omega⟩
theorem itoa_len' (n : Int) (h : -9223372036854775808 ≤ n ∧ n ≤ 9223372036854775807) : (Go.Lib.itoa n).length ≤ 21 := itoa_len n h.1 h.2
theorem rdD_fit (s : ByteArray) : ∀ n a, a ≤ s.size → (rdD s n a).2.e = 0 → Fit n ((rdD s n a).2.a - a) (rdD s n a).1.dat := by
  intro n
  induction n with
  | zero =>
    intro a ha he
    rw [rdD_eq] at he
    split at he
    · exact absurd he n4
    · split at he
      · exact absurd he n4
      · exact absurd he n3
  | succ n ih =>
    intro a ha he
    have eq := rdD_eq s (n + 1) a
    rcases Nat.lt_or_ge a s.size with hlt | hge
    · rw [if_neg (by omega)] at eq
      by_cases hb : bt s (a : Int) ≠ 40 ∧ bt s (a : Int) ≠ 39 ∧ letC (bt s (a : Int)) = false
      · rw [if_pos hb] at eq; rw [eq] at he; exact absurd he n4
      · rw [if_neg hb] at eq
        simp only [] at eq
        by_cases h3 : bt s (a : Int) = 39 ∧ n = 0
        · rw [if_pos h3] at eq; rw [eq] at he; exact absurd he n3
        · rw [if_neg h3] at eq
          cases hl : letC (bt s (a : Int)) with
          | true =>
            rw [if_pos hl] at eq
            have hgt := letE_gt hlt hl
            have hle := letE_le s a ha
            have hsz : (s.extract a (letE s a)).size = letE s a - a := by rw [ByteArray.size_extract]; omega
            rw [eq] at he ⊢
            unfold atomR at he ⊢
            split at he
            · rename_i h
              rw [if_pos h]
              have hnr := numV_rng (s.extract a (letE s a))
              have := itoa_len' _ hnr
              exact ⟨rfl, ⟨hnr, trivial⟩, by
                show (Go.Lib.itoa _).length + 1 ≤ 32 * (letE s a - a); omega, by show 0 + 1 ≤ n + 1; omega, by show 0 + 1 ≤ 2 * (letE s a - a); omega⟩
            · rename_i h
              split at he
              · rename_i h2
                rw [if_neg h, if_pos h2]
                refine ⟨?_, ⟨by show -9223372036854775808 ≤ (0 : Int) ∧ (0 : Int) ≤ 9223372036854775807; decide, trivial⟩, ?_, by show 0 + 1 ≤ n + 1; omega, by show 0 + 1 ≤ 2 * (letE s a - a); omega⟩
                · simp only [Nd.dat, formedD, h2, Nds.dat, Dats.len]; rfl
                · show (s.extract a (letE s a)).data.toList.length + 1 ≤ 32 * (letE s a - a)
                  have hlen : (s.extract a (letE s a)).data.toList.length = (s.extract a (letE s a)).size := Array.length_toList
                  omega
              · exact absurd he n4
          | false =>
            rw [if_neg (by rw [hl]; decide)] at eq
            have h8 := skp_le s (a + 1) (by omega)
            have h9 := skp_ge s (a + 1)
            by_cases h39 : bt s (a : Int) = 39
            · rw [if_pos h39] at eq
              rw [eq] at he ⊢
              have hf := ih _ h8 he
              have hg := (rdD_steps s n _ h8).2 he
              have hn : n ≠ 0 := fun h => h3 ⟨h39, h⟩
              have hy : symOk wQuote = true := by decide
              refine ⟨?_, ⟨by decide, ⟨by decide, trivial⟩, hf.rng, trivial⟩, ?_, ?_, ?_⟩
              · simp only [Nd.dat, Nds.dat, formedD, formedL, hf.form, hy, Dats.len]; rfl
              · have t := hf.text
                have e : (textD (Dat.mk 3 0 ⟨#[]⟩ (.cons (.mk 2 0 wQuote .nil) (.cons (rdD s n (skp s (a + 1))).1.dat .nil)))).length = (textD (rdD s n (skp s (a + 1))).1.dat).length + 8 := by
                  simp only [textD, textL, List.length_cons, List.length_append, List.length_nil]
                  simp only [show ¬ (3 : Int) = 1 by decide, show ¬ (3 : Int) = 2 by decide, show ¬ (2 : Int) = 1 by decide, if_false, if_true]
                  simp only [List.length_cons, List.length_append, List.length_nil, show wQuote.data.toList.length = 5 from rfl]
                  simp
                  omega
                show (textD (Dat.mk 3 0 ⟨#[]⟩ (.cons (.mk 2 0 wQuote .nil) (.cons (rdD s n (skp s (a + 1))).1.dat .nil)))).length + 1 ≤ 32 * ((rdD s n (skp s (a + 1))).2.a - a)
                rw [e]
                omega
              · have t := hf.deep
                show max (0 + 1) (max (deepN (rdD s n (skp s (a + 1))).1.dat) 0) + 1 ≤ n + 1
                omega
              · have t := hf.part
                show (0 + 1) + (parts (rdD s n (skp s (a + 1))).1.dat + 0) + 1 ≤ 2 * ((rdD s n (skp s (a + 1))).2.a - a)
                omega
            · rw [if_neg h39] at eq
              rw [eq] at he ⊢
              obtain ⟨g1, g2, g3, g4, g5, g6⟩ := rdL_fit ih (s.size + 1) (skp s (a + 1)) .nil h8 he rfl trivial
              have g4' : (textL false (rdL (rdD s n) s (s.size + 1) ⟨skp s (a + 1), 0, 0⟩ .nil).1.dat).length ≤ 0 + 32 * ((rdL (rdD s n) s (s.size + 1) ⟨skp s (a + 1), 0, 0⟩ .nil).2.a - skp s (a + 1)) := g4
              have g5' : deepNL (rdL (rdD s n) s (s.size + 1) ⟨skp s (a + 1), 0, 0⟩ .nil).1.dat ≤ max 0 n := g5
              have g6' : partsL (rdL (rdD s n) s (s.size + 1) ⟨skp s (a + 1), 0, 0⟩ .nil).1.dat ≤ 0 + 2 * ((rdL (rdD s n) s (s.size + 1) ⟨skp s (a + 1), 0, 0⟩ .nil).2.a - skp s (a + 1)) := g6
              have hfirst := textL_first (rdL (rdD s n) s (s.size + 1) ⟨skp s (a + 1), 0, 0⟩ .nil).1.dat
              refine ⟨?_, ⟨by decide, g2⟩, ?_, ?_, ?_⟩
              · simp only [Nd.dat, formedD, g1]; rfl
              · show (textD (Dat.mk 3 0 ⟨#[]⟩ (rdL (rdD s n) s (s.size + 1) ⟨skp s (a + 1), 0, 0⟩ .nil).1.dat)).length + 1 ≤ 32 * ((rdL (rdD s n) s (s.size + 1) ⟨skp s (a + 1), 0, 0⟩ .nil).2.a + 1 - a)
                rw [textD]
                simp only [show ¬ (3 : Int) = 1 by decide, show ¬ (3 : Int) = 2 by decide, if_false, List.length_cons, List.length_append, List.length_nil]
                omega
              · show deepNL (rdL (rdD s n) s (s.size + 1) ⟨skp s (a + 1), 0, 0⟩ .nil).1.dat + 1 ≤ n + 1
                omega
              · show partsL (rdL (rdD s n) s (s.size + 1) ⟨skp s (a + 1), 0, 0⟩ .nil).1.dat + 1 ≤ 2 * ((rdL (rdD s n) s (s.size + 1) ⟨skp s (a + 1), 0, 0⟩ .nil).2.a + 1 - a)
                omega
    · rw [if_pos hge] at eq; rw [eq] at he; exact absurd he n4
theorem onX_fit (s : ByteArray) (h : onE s = 0) : s.size ≤ 20000 ∧ Fit 1000 s.size (onX s).dat := by
  unfold onE oneR at h
  unfold onX oneR
  split at h
  · exact absurd h n3
  · rename_i h1
    rw [if_neg h1]
    split at h
    · rename_i h2
      rw [if_pos h2]
      split at h
      · exact absurd h n4
      · rename_i h3
        rw [if_neg h3]
        have hf := rdD_fit s 1000 (skp s 0) (skp_le s 0 (Nat.zero_le _)) h2
        have ha : (rdD s 1000 (skp s 0)).2.a ≤ s.size := ((rdD_steps s 1000 (skp s 0) (skp_le s 0 (Nat.zero_le _))).1.ok h2).1
        have t := hf.text
        have t2 := hf.part
        exact ⟨by omega, hf.form, hf.rng, by show (textD (rdD s 1000 (skp s 0)).1.dat).length + 1 ≤ _; omega, hf.deep, by show parts (rdD s 1000 (skp s 0)).1.dat ≤ _; omega⟩
    · rename_i h2
      exact absurd h h2
theorem onX_chk (s : ByteArray) (h : onE s = 0) : chkD (onX s).dat = 0 ∧ (onX s).dat.rng ∧ parts (onX s).dat ≤ 40000 := by
  obtain ⟨h1, hf⟩ := onX_fit s h
  have hp := hf.part
  have hd := hf.deep
  refine ⟨?_, hf.rng, by omega⟩
  unfold chkD
  rw [if_neg (by rw [hf.form]; decide), if_neg (by rw [wrap_in _ (by omega)]; omega), if_neg (by omega)]
end Seat
end Go.Proofs.YtkblfapbakfgpaaGreatDoor
namespace Go.Proofs.YtkblfapbakfgpaaGreatDoor
open Go.AS
set_option linter.unusedVariables false
set_option linter.unusedSimpArgs false
set_option maxRecDepth 10000
namespace Seat
theorem num_C (w : ByteArray) (x : Int) (hb : -9223372036854775808 ≤ x ∧ x ≤ 9223372036854775807) (hl : Go.Lib.itoa x = w.data.toList) : numV w = (x, true) := by
  unfold Go.Lib.itoa at hl
  unfold numV
  split at hl
  · rename_i hneg
    have hl' := hl.symm
    rw [numB_cons hl', if_pos (by decide)]
    obtain ⟨c, r, h1, h2, _⟩ := dec_head x.natAbs
    obtain ⟨d1, d2⟩ := dec_ok x.natAbs
    rw [h1] at d1 d2
    have ht : (w.extract 1 w.size).data.toList = c :: r := by rw [Go.Lib.extract_to_end, hl', h1]; rfl
    rw [numT_of _ true c r ht d1 (.inl (h2 (by omega))) (by omega), if_pos rfl, d2]
    have hw : IntKind.wrap IntKind.i64 (-(x.natAbs : Int)) = x := by rw [IntKind.wrap_i64]; omega
    rw [hw]
  · rename_i hneg
    have hl' := hl.symm
    obtain ⟨c, r, h1, h2, h3⟩ := dec_head x.toNat
    obtain ⟨d1, d2⟩ := dec_ok x.toNat
    rw [h1] at d1 d2 hl'
    have hdg := allDig_head d1
    rw [numB_cons hl', if_neg (by simp; omega)]
    rw [numT_of w false c r hl' d1 (by
      by_cases h0 : x.toNat = 0
      · exact .inr ⟨h3 h0, rfl⟩
      · exact .inl (h2 (by omega))) (by omega), if_neg (by decide), d2]
    have hw : IntKind.wrap IntKind.i64 ((x.toNat : Nat) : Int) = x := by rw [IntKind.wrap_i64]; omega
    rw [hw, decide_eq_true (by omega)]
theorem dig_let {c : UInt8} (h : 48 ≤ c.toNat ∧ c.toNat ≤ 57) : lle c = true := by
  unfold lle letC digC
  simp only [Bool.or_eq_true, decide_eq_true_eq]
  exact .inl (.inr (by omega))
theorem let_clean {c : UInt8} (h : lle c = true) : lbl c = false ∧ c.toNat ≠ 59 := by
  have key : ∀ k : Nat, letC (k : Int) = true → blank (k : Int) = false ∧ k ≠ 59 := by
    intro k hk
    have hb : blank (k : Int) = true → letC (k : Int) = false := by
      intro hb
      unfold blank at hb
      simp only [Bool.or_eq_true, beq_iff_eq] at hb
      rcases hb with ((hb | hb) | hb) | hb <;> rw [hb] <;> decide
    refine ⟨?_, fun h9 => ?_⟩
    · cases hq : blank (k : Int) with
      | false => rfl
      | true => rw [hb hq] at hk; cases hk
    · rw [h9] at hk; exact absurd hk (by decide)
  exact key c.toNat h
theorem takeW_app {α : Type} (p : α → Bool) : ∀ (w r : List α), (∀ x ∈ w, p x = true) → (∀ x ∈ r.head?, p x = false) → (w ++ r).takeWhile p = w ∧ (w ++ r).dropWhile p = r
  | [], [], _, _ => ⟨rfl, rfl⟩
  | [], y :: r, _, h => by
    have := h y rfl
    simp [List.takeWhile_cons, List.dropWhile_cons, this]
  | x :: w, r, hw, h => by
    have hx := hw x (List.mem_cons_self ..)
    obtain ⟨h1, h2⟩ := takeW_app p w r (fun y hy => hw y (List.mem_cons_of_mem _ hy)) h
    exact ⟨by rw [List.cons_append, List.takeWhile_cons, if_pos hx, h1], by rw [List.cons_append, List.dropWhile_cons, if_pos hx, h2]⟩
theorem tok_atom (w r : List UInt8) (h0 : w ≠ []) (hw : ∀ x ∈ w, lle x = true) (hr : ∀ x ∈ r.head?, lle x = false) : tok (w ++ r) = w :: tok r := by
  cases w with
  | nil => exact absurd rfl h0
  | cons c w =>
    have hc := hw c (List.mem_cons_self ..)
    obtain ⟨g1, g2⟩ := let_clean hc
    obtain ⟨h1, h2⟩ := takeW_app lle w r (fun y hy => hw y (List.mem_cons_of_mem _ hy)) hr
    rw [List.cons_append, tok_cons, if_neg (by rw [g1]; decide), if_neg g2, if_pos hc, h1, h2]
theorem tok_sign (c : UInt8) (r : List UInt8) (h1 : lbl c = false) (h2 : c.toNat ≠ 59) (h3 : lle c = false) : tok (c :: r) = [c] :: tok r := by
  rw [tok_cons, if_neg (by rw [h1]; decide), if_neg h2, if_neg (by rw [h3]; decide)]
theorem tok_open (r : List UInt8) : tok (40 :: r) = [40] :: tok r := tok_sign 40 r (by decide) (by decide) (by decide)
theorem tok_close (r : List UInt8) : tok (41 :: r) = [41] :: tok r := tok_sign 41 r (by decide) (by decide) (by decide)
theorem tok_blank (r : List UInt8) : tok (32 :: r) = tok r := by rw [tok_cons, if_pos (by decide)]
mutual
def dtok : Dat → List Tok
  | .mk k n s ks => if k = 1 then [Go.Lib.itoa n] else if k = 2 then [s.data.toList] else [40] :: (dtokL ks ++ [[41]])
def dtokL : Dats → List Tok
  | .nil => []
  | .cons d ds => dtok d ++ dtokL ds
end
theorem itoa_let (n : Int) : Go.Lib.itoa n ≠ [] ∧ ∀ x ∈ Go.Lib.itoa n, lle x = true := by
  have dig : ∀ u : Nat, Go.Lib.decDigits u ≠ [] ∧ ∀ x ∈ Go.Lib.decDigits u, lle x = true := by
    intro u
    obtain ⟨c, r, h1, _⟩ := dec_head u
    obtain ⟨d1, _⟩ := dec_ok u
    refine ⟨by rw [h1]; simp, fun x hx => ?_⟩
    unfold allDig at d1
    rw [List.all_eq_true] at d1
    exact dig_let (of_decide_eq_true (d1 x hx))
  unfold Go.Lib.itoa
  split
  · refine ⟨by simp, fun x hx => ?_⟩
    rcases List.mem_cons.1 hx with rfl | hx
    · decide
    · exact (dig _).2 x hx
  · exact dig _
theorem sym_let {s : ByteArray} (h : symOk s = true) : s.data.toList ≠ [] ∧ (∀ x ∈ s.data.toList, lle x = true) ∧ (numV s).2 = false := by
  unfold symOk at h
  rw [Bool.and_eq_true] at h
  obtain ⟨hb, ha⟩ := h
  have hlen : s.data.toList.length = s.size := Array.length_toList
  simp only [symBad, Bool.not_eq_true', Bool.or_eq_false_iff, decide_eq_false_iff_not] at hb
  have hpos : s.size ≠ 0 := by omega
  refine ⟨fun h => by rw [h] at hlen; exact hpos hlen.symm, fun x hx => ?_, ?_⟩
  · obtain ⟨i, hi, rfl⟩ := List.getElem_of_mem hx
    rw [List.all_eq_true] at ha
    have := ha i (by rw [List.mem_range]; omega)
    obtain ⟨c, h1, h2⟩ := bt_drop0 s i (by omega)
    rw [h2] at this
    rw [List.drop_eq_getElem_cons hi] at h1
    rw [(List.cons.inj h1).1]
    exact this
  · cases hv : (numV s).2 with
    | false => rfl
    | true =>
      exfalso
      have hv' : numV s = ((numV s).1, true) := by rw [← hv]
      unfold numV at hv'
      split at hv'
      · rename_i hB
        obtain ⟨r, hl, ht⟩ := numB_none hB
        obtain ⟨c, q, h1, h2, _⟩ := numT_true _ _ _ hv'
        rw [ht] at h1
        have hdg := allDig_head h2
        have hb0 : bt s 0 = 45 := bt_head hl
        have hsz := size_cons hl
        have hb1 : bt s 1 = (c.toNat : Int) := by
          obtain ⟨e, g1, g2⟩ := bt_drop0 s 1 (by rw [hsz, h1]; simp)
          rw [hl, h1] at g1
          have : c = e := by simpa using (List.cons.inj g1).1
          rw [this]; exact g2
        have hq : 1 < s.size := by rw [hsz, h1]; simp
        revert hb
        simp only [digC, hb0, hb1]
        simp
        omega
      · rename_i hB
        obtain ⟨c, q, h1, h2, _⟩ := numT_true _ _ _ hv'
        have hdg := allDig_head h2
        have hb0 : bt s 0 = (c.toNat : Int) := bt_head h1
        revert hb
        simp only [digC, hb0]
        simp
        omega
theorem len_nil : ∀ {ks : Dats}, ks.len = 0 → ks = .nil
  | .nil, _ => rfl
  | .cons d ds, h => by simp [Dats.len] at h
mutual
theorem tok_text : ∀ (d : Dat) (r : List UInt8), formedD d = true → (∀ x ∈ r.head?, lle x = false) → tok (textD d ++ r) = dtok d ++ tok r
  | .mk k n s ks, r, hf, hr => by
    simp only [formedD, Bool.or_eq_true, Bool.and_eq_true, decide_eq_true_eq] at hf
    rw [textD, dtok]
    by_cases h1 : k = 1
    · rw [if_pos h1, if_pos h1]
      obtain ⟨g1, g2⟩ := itoa_let n
      exact tok_atom _ r g1 g2 hr
    · rw [if_neg h1, if_neg h1]
      by_cases h2 : k = 2
      · rw [if_pos h2, if_pos h2]
        have hs : symOk s = true := by
          rcases hf with (h | h) | h
          · exact absurd h.1.1 h1
          · exact h.1.2
          · omega
        obtain ⟨g1, g2, _⟩ := sym_let hs
        exact tok_atom _ r g1 g2 hr
      · rw [if_neg h2, if_neg h2]
        have hk : formedL ks = true := by
          rcases hf with (h | h) | h
          · exact absurd h.1.1 h1
          · omega
          · exact h.2
        rw [List.cons_append, tok_open, List.append_assoc, List.cons_append, List.nil_append, tok_textL ks true r hk]
        simp
theorem tok_textL : ∀ (ks : Dats) (f : Bool) (r : List UInt8), formedL ks = true → tok (textL f ks ++ 41 :: r) = dtokL ks ++ [41] :: tok r
  | .nil, f, r, _ => by simp only [textL, dtokL, List.nil_append]; exact tok_close r
  | .cons d ds, f, r, hf => by
    simp only [formedL, Bool.and_eq_true] at hf
    have hhead : ∀ x ∈ (textL false ds ++ 41 :: r).head?, lle x = false := by
      intro x hx
      cases ds with
      | nil => simp only [textL, List.nil_append, List.head?_cons, Option.mem_def, Option.some.injEq] at hx; subst hx; decide
      | cons e es => simp only [textL, Bool.false_eq_true, if_false, List.cons_append, List.head?_cons, Option.mem_def, Option.some.injEq] at hx; subst hx; decide
    have key := tok_text d (textL false ds ++ 41 :: r) hf.1 hhead
    rw [tok_textL ds false r hf.2] at key
    simp only [textL, dtokL]
    cases f with
    | true => simp only [if_true, List.nil_append, List.append_assoc]; exact key
    | false =>
      simp only [Bool.false_eq_true, if_false, List.append_assoc, List.cons_append, List.nil_append]
      rw [tok_blank]; exact key
end
theorem hd_let {w : Tok} (h0 : w ≠ []) (hw : ∀ x ∈ w, lle x = true) : letC (hd0 w) = true := by
  cases w with
  | nil => exact absurd rfl h0
  | cons c w => exact hw c (List.mem_cons_self ..)
def appD : Dats → Dats → Dats
  | .nil, b => b
  | .cons d ds, b => .cons d (appD ds b)
theorem appD_nil : ∀ a : Dats, appD a .nil = a
  | .nil => rfl
  | .cons d ds => by simp only [appD, appD_nil ds]
theorem appD_snoc : ∀ (l : Dats) (d : Dat) (ks : Dats), appD (Dats.snoc l d) ks = appD l (.cons d ks)
  | .nil, d, ks => rfl
  | .cons e l, d, ks => by simp only [Dats.snoc, appD, appD_snoc l d ks]
mutual
theorem pr_dtok : ∀ (d : Dat) (n : Nat) (r : List Tok), formedD d = true → d.rng → deepN d ≤ n → prD n (dtok d ++ r) = some (d, r)
  | .mk k m s ks, n, r, hf, hr, hd => by
    simp only [formedD, Bool.or_eq_true, Bool.and_eq_true, decide_eq_true_eq] at hf
    obtain ⟨n, rfl⟩ : ∃ j, n = j + 1 := ⟨n - 1, by simp only [deepN] at hd; omega⟩
    rw [dtok]
    by_cases h1 : k = 1
    · rw [if_pos h1]
      obtain ⟨g1, g2⟩ := itoa_let m
      have hn := num_C (mkB (Go.Lib.itoa m)) m hr.1 (by unfold mkB; simp)
      show prD (n + 1) (Go.Lib.itoa m :: r) = _
      rw [prD, if_pos (hd_let g1 g2), hn, if_pos rfl]
      rcases hf with (h | h) | h
      · have e1 : s = ⟨#[]⟩ := by
          have := h.1.2
          cases s with
          | mk a => congr; exact Array.eq_empty_of_size_eq_zero this
        rw [h1, e1, len_nil h.2]
      · omega
      · omega
    · rw [if_neg h1]
      by_cases h2 : k = 2
      · rw [if_pos h2]
        rcases hf with (h | h) | h
        · exact absurd h.1.1 h1
        · obtain ⟨g1, g2, g3⟩ := sym_let h.1.2
          show prD (n + 1) (s.data.toList :: r) = _
          rw [prD, if_pos (hd_let g1 g2), mkB_list, if_neg (by rw [g3]; decide), if_pos h.1.2, h2, h.1.1.2, len_nil h.2]
        · omega
      · rw [if_neg h2]
        rcases hf with (h | h) | h
        · exact absurd h.1.1 h1
        · omega
        · show prD (n + 1) ([40] :: ((dtokL ks ++ [[41]]) ++ r)) = _
          rw [prD, if_neg (by decide), if_neg (by decide), if_pos (by decide), List.append_assoc]
          have key := pr_dtokL ks n ((dtokL ks ++ ([[41]] ++ r)).length + 1) .nil r h.2 hr.2 (by simp only [deepN] at hd; omega) (by simp)
          rw [show [[41]] ++ r = [41] :: r from rfl] at key ⊢
          rw [key]
          have e1 : s = ⟨#[]⟩ := by
            have := h.1.2
            cases s with
            | mk a => congr; exact Array.eq_empty_of_size_eq_zero this
          rw [h.1.1.1, h.1.1.2, e1]
          rfl
theorem pr_dtokL : ∀ (ks : Dats) (n k : Nat) (l : Dats) (r : List Tok), formedL ks = true → ks.rng → deepNL ks ≤ n → (dtokL ks ++ [41] :: r).length ≤ k → prL (prD n) k (dtokL ks ++ [41] :: r) l = some (appD l ks, r)
  | .nil, n, k, l, r, _, _, _, hk => by
    obtain ⟨k, rfl⟩ : ∃ j, k = j + 1 := ⟨k - 1, by simp at hk; omega⟩
    simp only [dtokL, List.nil_append]
    rw [prL, if_pos (by decide), appD_nil]
  | .cons d ds, n, k, l, r, hf, hr, hd, hk => by
    simp only [formedL, Bool.and_eq_true] at hf
    simp only [deepNL] at hd
    have key := pr_dtok d n (dtokL ds ++ [41] :: r) hf.1 hr.1 (by omega)
    have hne : ∃ t q, dtok d ++ (dtokL ds ++ [41] :: r) = t :: q ∧ hd0 t ≠ 41 := by
      obtain ⟨k', m, s, ks⟩ := d
      rw [dtok]
      have hf1 := hf.1
      simp only [formedD, Bool.or_eq_true, Bool.and_eq_true, decide_eq_true_eq] at hf1
      by_cases h1 : k' = 1
      · rw [if_pos h1]
        obtain ⟨g1, g2⟩ := itoa_let m
        refine ⟨_, _, rfl, fun h => ?_⟩
        have := hd_let g1 g2
        rw [h] at this; exact absurd this (by decide)
      · rw [if_neg h1]
        by_cases h2 : k' = 2
        · rw [if_pos h2]
          rcases hf1 with (h | h) | h
          · exact absurd h.1.1 h1
          · obtain ⟨g1, g2, _⟩ := sym_let h.1.2
            refine ⟨_, _, rfl, fun h => ?_⟩
            have := hd_let g1 g2
            rw [h] at this; exact absurd this (by decide)
          · omega
        · rw [if_neg h2]
          exact ⟨_, _, rfl, by decide⟩
    obtain ⟨t, q, ht, h41⟩ := hne
    simp only [dtokL, List.append_assoc] at hk ⊢
    rw [ht] at key ⊢
    have hlen : (t :: q).length = (dtok d).length + (dtokL ds ++ [41] :: r).length := by rw [← ht, List.length_append]
    rw [ht] at hk
    have heat := prD_eats n _ _ _ key
    obtain ⟨k, rfl⟩ : ∃ j, k = j + 1 := ⟨k - 1, by simp at hk; omega⟩
    rw [prL, if_neg h41, key]
    simp only []
    rw [pr_dtokL ds n k (Dats.snoc l d) r hf.2 hr.2 (by omega) (by omega), appD_snoc]
end
theorem toks_end {s : ByteArray} {a : Nat} (h : toks s a = []) : ¬ skp s a < s.size := by
  intro hl
  have h5 := toks_skp s _ a (Nat.le_refl _)
  rw [← h5.1] at h
  cases hc : letC (bt s (skp s a : Int)) with
  | true => rw [toks_at_let hl (clean_skp s a) hc] at h; cases h
  | false =>
    obtain ⟨c, _, h2⟩ := toks_at hl (clean_skp s a) hc
    rw [h2] at h; cases h
theorem one_toks (s : ByteArray) (d : Dat) (hs : s.size ≤ 20000) (h : prD 1000 (toks s 0) = some (d, [])) : onE s = 0 ∧ (onX s).dat = d ∧ onA s = 0 := by
  have h5 := toks_skp s _ 0 (Nat.le_refl _)
  rw [← h5.1, prD_rd s 1000 (skp s 0) (skp_le s 0 (Nat.zero_le _)) (clean_skp s 0)] at h
  split at h
  · rename_i he
    obtain ⟨h1, h2⟩ := Prod.mk.inj (Option.some.inj h)
    have hend := toks_end h2
    have e : oneR s = (rdX s 1000 (skp s 0), 0, 0) := by
      rw [oneR_eq, if_neg (by omega), if_pos (show rdE s 1000 (skp s 0) = 0 from he), if_neg (show ¬ skp s (rdA s 1000 (skp s 0)) < s.size from hend)]
    unfold onE onX onA
    rw [e]
    exact ⟨rfl, h1, rfl⟩
  · cases h
end Seat
end Go.Proofs.YtkblfapbakfgpaaGreatDoor
namespace Go.Proofs.YtkblfapbakfgpaaGreatDoor
open Go.AS
set_option linter.unusedVariables false
set_option linter.unusedSimpArgs false
set_option maxRecDepth 10000
namespace Seat
theorem tok_blanks (n : Nat) (r : List UInt8) : tok (List.replicate n 32 ++ r) = tok r := by
  induction n with
  | zero => rfl
  | succ n ih => rw [List.replicate_succ, List.cons_append, tok_blank, ih]
theorem tok_line (n : Nat) (r : List UInt8) : tok (10 :: (List.replicate n 32 ++ r)) = tok r := by rw [tok_cons, if_pos (by decide), tok_blanks]
theorem layT_at (w : Nat) (k n : Int) (s : ByteArray) (ks : Dats) (c r : Nat) : layT w (.mk k n s ks) c r = if ks.len = 0 ∨ c + (textD (.mk k n s ks)).length + r ≤ w then textD (.mk k n s ks) else 40 :: (layTL w ks true c r true ++ [41]) := by
  split
  · rename_i h
    show layG rS w (.mk k n s ks) c r [] = _
    rw [layG, show rS.more [] = true from rfl]
    simp only []
    rw [if_pos h]
    exact List.nil_append _
  · rename_i h
    exact layT_list w k n s ks c r h
theorem layTL_at (w : Nat) (d : Dat) (ds : Dats) (f : Bool) (c r : Nat) (l : Bool) : layTL w (.cons d ds) f c r l = (if f = true then [] else 10 :: List.replicate (c + 2) 32) ++ (layT w d (if f = true then c + 1 else c + 2) (if ds.len = 0 ∧ l = true then r + 1 else 0) ++ layTL w ds false c r l) := by
  show layGL rS w (.cons d ds) f c r l [] = _
  rw [layGL, (lay_app w).2, (lay_app w).1, List.append_assoc]
  congr 1
  all_goals (cases f <;> rfl)
mutual
theorem tok_lay (w : Nat) : ∀ (d : Dat) (c r : Nat) (y : List UInt8), formedD d = true → (∀ x ∈ y.head?, lle x = false) → tok (layT w d c r ++ y) = dtok d ++ tok y
  | .mk k n s ks, c, r, y, hf, hy => by
    rw [layT_at]
    split
    · exact tok_text _ y hf hy
    · rename_i h
      have hl : ¬ ks.len = 0 := fun g => h (.inl g)
      simp only [formedD, Bool.or_eq_true, Bool.and_eq_true, decide_eq_true_eq] at hf
      obtain ⟨hk, hfl⟩ : k = 3 ∧ formedL ks = true := by
        rcases hf with (g | g) | g
        · exact absurd g.2 hl
        · exact absurd g.2 hl
        · exact ⟨g.1.1.1, g.2⟩
      rw [List.cons_append, List.append_assoc, tok_open, List.singleton_append, tok_layL w ks true c r true y hfl, dtok, if_neg (by omega), if_neg (by omega)]
      simp
theorem tok_layL (w : Nat) : ∀ (ks : Dats) (f : Bool) (c r : Nat) (l : Bool) (y : List UInt8), formedL ks = true → tok (layTL w ks f c r l ++ 41 :: y) = dtokL ks ++ [41] :: tok y
  | .nil, f, c, r, l, y, _ => by
    show tok ([] ++ 41 :: y) = _
    rw [List.nil_append, tok_close]; rfl
  | .cons d ds, f, c, r, l, y, hf => by
    simp only [formedL, Bool.and_eq_true] at hf
    have hhead : ∀ x ∈ (layTL w ds false c r l ++ 41 :: y).head?, lle x = false := by
      intro x hx
      cases ds with
      | nil =>
        have e : layTL w .nil false c r l = [] := rfl
        rw [e, List.nil_append, List.head?_cons, Option.mem_def, Option.some.injEq] at hx
        subst hx; decide
      | cons e es =>
        rw [layTL_at, if_neg (by decide), List.cons_append, List.cons_append, List.head?_cons, Option.mem_def, Option.some.injEq] at hx
        subst hx; decide
    have ih := tok_layL w ds false c r l y hf.2
    have key := fun c' r' => tok_lay w d c' r' (layTL w ds false c r l ++ 41 :: y) hf.1 hhead
    rw [layTL_at, dtokL]
    cases f with
    | true =>
      rw [if_pos rfl, List.nil_append, List.append_assoc, key, ih, List.append_assoc]
    | false =>
      rw [if_neg (by decide), List.append_assoc, List.append_assoc, List.cons_append, tok_line, key, ih, List.append_assoc]
end
theorem one_lay (w : Nat) (d : Dat) (hf : formedD d = true) (hr : d.rng) (hd : deepN d ≤ 1000) (s : ByteArray) (hs : s.data.toList = layT w d 0 0 ++ [10]) (hl : s.size ≤ 20000) : onE s = 0 ∧ (onX s).dat = d ∧ onA s = 0 := by
  refine one_toks s d hl ?_
  unfold toks
  rw [hs, List.drop_zero, tok_lay w d 0 0 [10] hf (by intro x hx; simp at hx; subst hx; decide)]
  have := pr_dtok d 1000 [] hf hr hd
  exact this
end Seat
end Go.Proofs.YtkblfapbakfgpaaGreatDoor
namespace Go.Proofs.YtkblfapbakfgpaaGreatDoor
open Go.AS Go.RowKit
set_option linter.unusedVariables false
set_option linter.unusedSimpArgs false
set_option maxRecDepth 100000
set_option maxHeartbeats 4000000
namespace Seat
theorem PCalls.toR {G : Prg} {f : FuncId} {args : List PV} {bx : List Box} {R : Out → List Box → Prop} (h : PCalls G f args bx R) : RCalls G f args ⟨bx, []⟩ (fun o H => H.rw = [] ∧ R o H.bx) := fun E w vs hh hv =>
  (h E w vs hh hv).mono fun e w' ⟨o, bx', E', hR, ho, h', hx⟩ => by
    have hlen : E'.nb = bx'.length := h'.nb
    refine ⟨o, ⟨bx', []⟩, { E' with lo := E.lo }, ⟨rfl, hR⟩, ?_, ?_, ?_⟩
    · cases o with
      | ret r => obtain ⟨v, he, hv⟩ := ho; exact ⟨v, he, hv.move (Nat.le_refl _) (Nat.le_refl _) (fun _ _ => rfl) (fun _ _ => rfl) (fun _ h => h) (fun _ _ => rfl)⟩
      | pan r => obtain ⟨v, he, hv⟩ := ho; exact ⟨v, he, hv.move (Nat.le_refl _) (Nat.le_refl _) (fun _ _ => rfl) (fun _ _ => rfl) (fun _ h => h) (fun _ _ => rfl)⟩
    · exact ⟨h'.nb, h'.nr, Nat.le_trans hh.lo hx.sz, fun i b hb => by
        obtain ⟨us, h1, h2⟩ := h'.box i b hb
        exact ⟨us, h1, h2.move fun x v hx => hx.move (Nat.le_refl _) (Nat.le_refl _) (fun _ _ => rfl) (fun _ _ => rfl) (fun _ h => h) (fun _ _ => rfl)⟩, fun i r hr => by simp at hr, h'.inj, h'.rinj, h'.brw, h'.im_lt, h'.im_b, h'.im_r, h'.gl⟩
    · exact ⟨hx.sz, hx.os, hx.tape, hx.out, fun k h1 h2 h3 => hx.keep k h1 h2, by have := hx.more; simp only [] at this ⊢; omega, Nat.le_refl _, hx.β, hx.up, fun k hk => (hx.dn k hk).imp id .inl, fun i h1 h2 => hx.own i h1 (by simp only [] at h2; omega), fun j s k hj => by simp at hj, rfl⟩
def faultV (a e : Int) : PV := .iface 116 (.agg [.int .i64 a, .int .i64 e])
noncomputable def paS (f : Nat) (args : List PV) : Option (PV × Ob) := match f, args with
  | 57, [.int .u8 c] => some (.bool (letC c), [(decide (0 ≤ c ∧ c < 256), true)])
  | 72, [.str w] => some (.tup [.int .i64 (numQ w).1, .bool (numQ w).2], [(Nat.ble w.size 1099511627776, true)])
  | 49, [.str w] => some (.bool (symOk w), [])
  | _, _ => none
theorem paS_ok (f : Nat) (args : List PV) (r : PV) (o : Ob) (h : paS f args = some (r, o)) (ho : ∀ p ∈ o, p.1 = p.2) (_ : pureL args = true) : Pure G0 f args (fun x => x = r) := by
  unfold paS at h
  split at h
  · cases h; exact isAtom_ok _ (of_decide_eq_true (ho _ (List.mem_singleton.2 rfl)))
  · cases h; exact numberP _ (Nat.le_of_ble_eq_true (ho _ (List.mem_singleton.2 rfl)))
  · cases h; exact isSymbol_ok _
  · cases h
noncomputable def SPf (l : List (Nat × List (Nat × Bool))) (v : List (Nat × List (Nat × PV))) : Cfg G0 := { F := F, hF := hF, S := paS, hS := paS_ok, orc := orcM l, val := valM v }
theorem failP (s : ByteArray) (a : Nat) (e : Int) : PCalls G0 45 [.ptr 0 0, .int .i64 e] [rP s a] (fun o b => o = .pan (faultV a e) ∧ b = [rP s a]) := by
  refine Fn.enterN Tryz.func45 Tryz.ntmps45 rfl (Nat.le_of_ble_eq_true rfl) fun C fr fp hnt hp hfr hfp => ?_
  exact SWP.runQ (SPf [] []) 100 11 hnt [] (e := .panic (faultV a e)) (z := ⟨[], ⟨[rP s a], []⟩⟩) (o := []) (by kernel_rfl) okO_nil (fun st hst => hfp _ st (by
    have : st.h = ⟨[rP s a], []⟩ := congrArg AS.h hst
    refine ⟨1, Nat.le_refl _, by rw [this]; exact Nat.le_refl _, rfl, by rw [this]; rfl, ?_⟩
    rw [this]; exact ⟨rfl, rfl⟩))
def paP (f : Nat) (args : List PV) (H : Hp) : Option (PV × Hp × Ob) := match f, args, H with
  | 45, [.ptr 0 0, .int .i64 e], ⟨[⟨[.str s, .int .i64 a], ty⟩], []⟩ => match Nat.beq ty 101 with
    | true => some (faultV a e, ⟨[⟨[.str s, .int .i64 a], ty⟩], []⟩, [(decide (0 ≤ a), true)])
    | false => none
  | _, _, _ => none
theorem paP_ok : ∀ f xs H x H' o, paP f xs H = some (x, H', o) → (∀ p ∈ o, p.1 = p.2) → RCalls G0 f xs H (fun o' H2 => o' = .pan x ∧ H2 = H') ∧ x.scP (belowN H'.bx.length) (belowN H'.rw.length) = true ∧ H'.scB H'.bx.length H'.rw.length = true := by
  intro f xs H x H' o h ho
  unfold paP at h
  split at h
  · rename_i e s a ty
    split at h
    · rename_i hc
      cases h
      simp only [Nat.beq_eq] at hc
      subst hc
      have h1 : 0 ≤ a := of_decide_eq_true (ho _ (List.mem_singleton.2 rfl))
      have key := failP s a.toNat e
      unfold rP faultV at key
      rw [Int.toNat_of_nonneg h1] at key
      exact ⟨(PCalls.toR key).mono fun o' H2 ⟨g1, g2, g3⟩ => ⟨g2, by obtain ⟨b, r⟩ := H2; simp only [] at g1 g3; rw [g1, g3]⟩, rfl, rfl⟩
    · cases h
  · cases h
noncomputable def SPa (l : List (Nat × List (Nat × Bool))) (v : List (Nat × List (Nat × PV))) : Cfg G0 := { F := F, hF := hF, S := paS, hS := paS_ok, orc := orcM l, val := valM v, pn := fun f => Nat.beq f 45, P := paP, hP := paP_ok }
def atQ (w : ByteArray) : Option (List PV) := if (numQ w).2 = true then some [.int .i64 1, .int .i64 (numQ w).1, .str ⟨#[]⟩, .nil] else if symOk w = true then some [.int .i64 2, .int .i64 0, .str w, .nil] else none
theorem atomP (s : ByteArray) (hs : s.size ≤ 1099511627776) (a : Nat) (ha : a ≤ s.size) : PCalls G0 58 [.ptr 0 0] [rP s a] (fun o b => (∃ cs, atQ (s.extract a (letE s a)) = some cs ∧ o = .ret (.agg cs) ∧ b = [rP s (letE s a)]) ∨ (atQ (s.extract a (letE s a)) = none ∧ o = .pan (faultV a 4) ∧ b = [rP s a])) := by
  obtain ⟨w, hw⟩ : ∃ w, w = s.extract a (letE s a) := ⟨_, rfl⟩
  rw [← hw]
  refine Fn.enterN Tryz.func58 Tryz.ntmps58 rfl (Nat.le_of_ble_eq_true rfl) fun C fr fp hnt hp hfr hfp => ?_
  have h1 := letE_ge s a
  have h2 := letE_le s a ha
  refine Q.runSeq (SPa [] []) 100 77 hnt [0, 2] (z := ⟨[(0, .ptr 0 0), (2, .ptr 1 0)], ⟨[⟨[.str s, .int .i64 (Int.ofNat a)], 101⟩, ⟨[.int .i64 (0 : Int), .int .i64 (0 : Int), .str ⟨#[]⟩, PV.nil], 24⟩], []⟩⟩) (o := []) (by kernel_rfl) (by repeat' first | exact okO_nil | refine okN ?_ ?_ | assumption | rfl) ?_
  refine Q.runSeq (SPa [] []) 100 77 hnt [0, 2, 3] (z := ⟨[(0, .ptr 0 0), (2, .ptr 1 0), (3, .int .i64 (0 : Int))], ⟨[⟨[.str s, .int .i64 (Int.ofNat a)], 101⟩, ⟨[.int .i64 (0 : Int), .int .i64 (0 : Int), .str ⟨#[]⟩, PV.nil], 24⟩], []⟩⟩) (o := []) (by kernel_rfl) (by repeat' first | exact okO_nil | refine okN ?_ ?_ | assumption | rfl) ?_
  refine Q.seq fun K hK => ?_
  have rest : ∀ st n, a + n = letE s a → nrm [0, 2, 3] st = ⟨[(0, .ptr 0 0), (2, .ptr 1 0), (3, .int .i64 (n : Nat))], ⟨[rP s a, dZ], []⟩⟩ → K st := fun st n hn hst => hK st (.norm [0, 2, 3] (by
    rw [hst]
    clear hst hK
    have wv : IntKind.wrap IntKind.i64 ((a : Int) + (n : Int)) = ((letE s a : Nat) : Int) := by rw [IntKind.wrap_i64]; omega
    have wv2 : IntKind.wrap IntKind.i64 (Int.ofNat (a + n)) = ((letE s a : Nat) : Int) := wv
    have c0 : decide (0 ≤ (a : Int) ∧ (a : Int) ≤ IntKind.wrap IntKind.i64 ((a : Int) + (n : Int)) ∧ IntKind.wrap IntKind.i64 ((a : Int) + (n : Int)) ≤ (s.size : Int)) = true := by rw [wv, decide_eq_true_eq]; omega
    have c1 : same (PV.str (ByteArray.extract s (Int.toNat (Int.ofNat a)) (Int.toNat (IntKind.wrap IntKind.i64 (Int.ofNat (a + n)))))) (PV.str w) = true := same_of (by rw [wv2, hw]; rfl)
    have c2 : Nat.ble (ByteArray.size w) 1099511627776 = true := by rw [Nat.ble_eq, hw, ByteArray.size_extract]; omega
    refine Q.runSeq (SPa [(77, [(49, true)])] [(77, [(49, .str w)])]) 100 77 hnt [0, 2, 3, 4] (z := ⟨[(0, .ptr 0 0), (2, .ptr 1 0), (3, .int .i64 (Int.ofNat n)), (4, .str w)], ⟨[⟨[.str s, .int .i64 (Int.ofNat a)], 101⟩, ⟨[.int .i64 (0 : Int), .int .i64 (0 : Int), .str ⟨#[]⟩, PV.nil], 24⟩], []⟩⟩) (o := [(decide (0 ≤ (↑a : Int) ∧ (↑a : Int) ≤ IntKind.wrap IntKind.i64 ((↑a : Int) + (↑n : Int)) ∧ IntKind.wrap IntKind.i64 ((↑a : Int) + (↑n : Int)) ≤ (↑(ByteArray.size s) : Int)), true), (same (.str (ByteArray.extract s (Int.toNat (Int.ofNat a)) (Int.toNat (IntKind.wrap IntKind.i64 (Int.ofNat (a + n)))))) (.str w), true)]) (by kernel_rfl) (by repeat' first | exact okO_nil | refine okN ?_ ?_ | assumption | rfl) ?_
    cases h3 : (numQ w).2 with
    | true =>
      have c3 : (!(numQ w).2) = false := by rw [h3]; rfl
      have hat : atQ w = some [.int .i64 1, .int .i64 (numQ w).1, .str ⟨#[]⟩, .nil] := if_pos h3
      exact SWP.runQ (SPa [(77, [(56, false), (72, true)])] []) 100 77 hnt [2] (e := .ret) (z := ⟨[(2, .ptr 1 0)], ⟨[⟨[.str s, .int .i64 (IntKind.wrap IntKind.i64 (Int.ofNat (a + n)))], 101⟩, ⟨[.int .i64 (1 : Int), .int .i64 (Prod.fst (numQ w)), .str ⟨#[]⟩, PV.nil], 24⟩], []⟩⟩) (o := [(true, true), (Nat.ble (ByteArray.size w) 1099511627776, true), (!Prod.snd (numQ w), false), (Prod.snd (numQ w), true), (true, true)]) (by kernel_rfl) (by repeat' first | exact okO_nil | refine okN ?_ ?_ | assumption | rfl) (fun st hst => hfr st [2] (by
        rw [hst, wv2]
        exact ⟨1, _, Nat.le_refl _, Nat.le_of_ble_eq_true rfl, rfl, rfl, rfl, .inl ⟨_, hat, rfl, rfl⟩⟩))
    | false =>
      have c3 : (!(numQ w).2) = true := by rw [h3]; rfl
      cases h4 : symOk w with
      | true =>
        have c4 : (!symOk w) = false := by rw [h4]; rfl
        have hat : atQ w = some [.int .i64 2, .int .i64 0, .str w, .nil] := by unfold atQ; rw [if_neg (by rw [h3]; decide), if_pos h4]
        exact SWP.runQ (SPa [(77, [(56, true), (60, false), (72, false)])] []) 100 77 hnt [2] (e := .ret) (z := ⟨[(2, .ptr 1 0)], ⟨[⟨[.str s, .int .i64 (IntKind.wrap IntKind.i64 (Int.ofNat (a + n)))], 101⟩, ⟨[.int .i64 (2 : Int), .int .i64 (0 : Int), .str w, PV.nil], 24⟩], []⟩⟩) (o := [(true, true), (Nat.ble (ByteArray.size w) 1099511627776, true), (!Prod.snd (numQ w), true), (true, true), (!symOk w, false), (Prod.snd (numQ w), false), (false, false)]) (by kernel_rfl) (by repeat' first | exact okO_nil | refine okN ?_ ?_ | assumption | rfl) (fun st hst => hfr st [2] (by
          rw [hst, wv2]
          exact ⟨1, _, Nat.le_refl _, Nat.le_of_ble_eq_true rfl, rfl, rfl, rfl, .inl ⟨_, hat, rfl, rfl⟩⟩))
      | false =>
        have c4 : (!symOk w) = true := by rw [h4]; rfl
        have hat : atQ w = none := by unfold atQ; rw [if_neg (by rw [h3]; decide), if_neg (by rw [h4]; decide)]
        exact SWP.runQ (SPa [(77, [(56, true), (60, true)])] []) 100 77 hnt [2] (e := .panic (faultV a 4)) (z := ⟨[(2, .ptr 1 0)], ⟨[⟨[.str s, .int .i64 (Int.ofNat a)], 101⟩, ⟨[.int .i64 (0 : Int), .int .i64 (0 : Int), .str ⟨#[]⟩, PV.nil], 24⟩], []⟩⟩) (o := [(true, true), (Nat.ble (ByteArray.size w) 1099511627776, true), (!Prod.snd (numQ w), true), (true, true), (!symOk w, true), (true, true)]) (by kernel_rfl) (by repeat' first | exact okO_nil | refine okN ?_ ?_ | assumption | rfl) (fun st hst => hfp _ st (by
          have e : st.h = ⟨[rP s a, dZ], []⟩ := congrArg AS.h hst
          refine ⟨1, Nat.le_refl _, by rw [e]; exact Nat.le_of_ble_eq_true rfl, rfl, by rw [e]; rfl, .inr ⟨hat, rfl, ?_⟩⟩
          rw [e]; rfl))))
  let T (n : Nat) : AS := ⟨[(0, .ptr 0 0), (2, .ptr 1 0), (3, .int .i64 n)], ⟨[rP s a, dZ], []⟩⟩
  refine Q.block ?_
  refine Q.loopI (σ := { n : Nat // letE s (a + n) = letE s a ∧ a + n ≤ s.size }) [0, 2, 3] (fun x => T x.1) (fun x => s.size - (a + x.1)) ⟨0, rfl, ha⟩ rfl fun ⟨n, hk, hle⟩ => ?_
  show SWP G0 C _ _ ⟨[(0, .ptr 0 0), (2, .ptr 1 0), (3, .int .i64 n)], ⟨[rP s a, dZ], []⟩⟩
  have le := letE_eq s (a + n)
  have wv : IntKind.wrap IntKind.i64 ((a : Int) + (n : Int)) = ((a + n : Nat) : Int) := by rw [IntKind.wrap_i64]; omega
  have wv2 : IntKind.wrap IntKind.i64 (Int.ofNat (a + n)) = ((a + n : Nat) : Int) := wv
  rcases Nat.lt_or_ge (a + n) s.size with hlt | hge
  · have d1 : same (PV.bool (decide (IntKind.wrap IntKind.i64 ((a : Int) + (n : Int)) < (s.size : Int)))) (PV.bool true) = true := sameB (by rw [wv]; exact lt_at hlt)
    have d2 : decide (0 ≤ IntKind.wrap IntKind.i64 ((a : Int) + (n : Int)) ∧ IntKind.wrap IntKind.i64 ((a : Int) + (n : Int)) < (s.size : Int)) = true := by rw [wv]; exact in_at hlt
    have d3 : decide (0 ≤ bt s (IntKind.wrap IntKind.i64 ((a : Int) + (n : Int))) ∧ bt s (IntKind.wrap IntKind.i64 ((a : Int) + (n : Int))) < 256) = true := by rw [wv]; exact decide_eq_true (bt_in s (a + n))
    by_cases hc : letC (bt s ((a + n : Nat) : Int)) = true
    · have d4 : same (PV.bool (letC (bt s (IntKind.wrap IntKind.i64 (Int.ofNat (a + n)))))) (PV.bool true) = true := sameB (by rw [wv2]; exact hc)
      rw [if_pos ⟨hlt, hc⟩] at le
      have wn : IntKind.wrap IntKind.i64 (Int.ofNat (n + 1)) = ((n + 1 : Nat) : Int) := wrapI (n + 1) (by omega)
      exact SWP.runQ (SPa [(77, [(30, true)])] [(77, [(18, .bool true), (31, .bool true)])]) 100 77 hnt [0, 2, 3] (e := .normal) (z := ⟨[(0, .ptr 0 0), (2, .ptr 1 0), (3, .int .i64 (IntKind.wrap IntKind.i64 (Int.ofNat (n + 1))))], ⟨[⟨[.str s, .int .i64 (Int.ofNat a)], 101⟩, ⟨[.int .i64 (0 : Int), .int .i64 (0 : Int), .str ⟨#[]⟩, PV.nil], 24⟩], []⟩⟩) (o := [(same (.bool (decide (IntKind.wrap IntKind.i64 ((↑a : Int) + (↑n : Int)) < (↑(ByteArray.size s) : Int)))) (.bool true), true), (decide (0 ≤ IntKind.wrap IntKind.i64 ((↑a : Int) + (↑n : Int)) ∧ IntKind.wrap IntKind.i64 ((↑a : Int) + (↑n : Int)) < (↑(ByteArray.size s) : Int)), true), (true, true), (decide (0 ≤ bt s (IntKind.wrap IntKind.i64 ((↑a : Int) + (↑n : Int))) ∧ bt s (IntKind.wrap IntKind.i64 ((↑a : Int) + (↑n : Int))) < 256), true), (same (.bool (letC (bt s (IntKind.wrap IntKind.i64 (Int.ofNat (a + n)))))) (.bool true), true)]) (by kernel_rfl) (by repeat' first | exact okO_nil | refine okN ?_ ?_ | assumption | rfl) (fun st hst => ⟨⟨n + 1, le.symm.trans hk, by omega⟩, by show s.size - (a + (n + 1)) < s.size - (a + n); omega, by rw [hst, wn]; rfl⟩)
    · have d4 : same (PV.bool (letC (bt s (IntKind.wrap IntKind.i64 (Int.ofNat (a + n)))))) (PV.bool false) = true := sameB (by rw [wv2]; simpa using hc)
      rw [if_neg (fun h => hc h.2)] at le
      exact SWP.runQ (SPa [(77, [(30, true)])] [(77, [(18, .bool true), (31, .bool false)])]) 100 77 hnt [0, 2, 3] (e := .exit 0) (z := ⟨[(0, .ptr 0 0), (2, .ptr 1 0), (3, .int .i64 (Int.ofNat n))], ⟨[⟨[.str s, .int .i64 (Int.ofNat a)], 101⟩, ⟨[.int .i64 (0 : Int), .int .i64 (0 : Int), .str ⟨#[]⟩, PV.nil], 24⟩], []⟩⟩) (o := [(same (.bool (decide (IntKind.wrap IntKind.i64 ((↑a : Int) + (↑n : Int)) < (↑(ByteArray.size s) : Int)))) (.bool true), true), (decide (0 ≤ IntKind.wrap IntKind.i64 ((↑a : Int) + (↑n : Int)) ∧ IntKind.wrap IntKind.i64 ((↑a : Int) + (↑n : Int)) < (↑(ByteArray.size s) : Int)), true), (true, true), (decide (0 ≤ bt s (IntKind.wrap IntKind.i64 ((↑a : Int) + (↑n : Int))) ∧ bt s (IntKind.wrap IntKind.i64 ((↑a : Int) + (↑n : Int))) < 256), true), (same (.bool (letC (bt s (IntKind.wrap IntKind.i64 (Int.ofNat (a + n)))))) (.bool false), true)]) (by kernel_rfl) (by repeat' first | exact okO_nil | refine okN ?_ ?_ | assumption | rfl) (fun st hst => rest st n (le.symm.trans hk) hst)
  · have d1 : same (PV.bool (decide (IntKind.wrap IntKind.i64 ((a : Int) + (n : Int)) < (s.size : Int)))) (PV.bool false) = true := sameB (by rw [wv]; exact ge_at hge)
    rw [if_neg (fun h => absurd h.1 (by omega))] at le
    exact SWP.runQ (SPa [] [(77, [(18, .bool false)])]) 100 77 hnt [0, 2, 3] (e := .exit 0) (z := ⟨[(0, .ptr 0 0), (2, .ptr 1 0), (3, .int .i64 (Int.ofNat n))], ⟨[⟨[.str s, .int .i64 (Int.ofNat a)], 101⟩, ⟨[.int .i64 (0 : Int), .int .i64 (0 : Int), .str ⟨#[]⟩, PV.nil], 24⟩], []⟩⟩) (o := [(same (.bool (decide (IntKind.wrap IntKind.i64 ((↑a : Int) + (↑n : Int)) < (↑(ByteArray.size s) : Int)))) (.bool false), true)]) (by kernel_rfl) (by repeat' first | exact okO_nil | refine okN ?_ ?_ | assumption | rfl) (fun st hst => rest st n (le.symm.trans hk) hst)
end Seat
end Go.Proofs.YtkblfapbakfgpaaGreatDoor
namespace Go.AS
open Go.RowKit
set_option linter.unusedVariables false
set_option linter.unusedSimpArgs false
section
variable {P : Program} {ops : Array Oper} {Q : Exit → Act → World → Prop}
theorem wpList_then {Q1 : Exit → Act → World → Prop} {l2 : List Oper} (h1 : ∀ a w, Q1 .normal a w → wpList P ops Q l2 a w) (h2 : ∀ e a w, e ≠ .normal → Q1 e a w → Q e a w) : ∀ (l1 : List Oper) (a : Act) (w : World), wpList P ops Q1 l1 a w → wpList P ops Q (l1 ++ l2) a w := by
  have hout : LetsOut Q1 → LetsOut Q := fun ⟨a, w, h⟩ => ⟨a, w, h2 _ _ _ (fun h => by cases h) h⟩
  intro l1
  induction l1 with
  | nil => intro a w h; exact h1 _ _ h
  | cons o l1 ih =>
    intro a w h
    simp only [List.cons_append, wpList] at h ⊢
    split at h
    · rename_i hw
      rw [if_pos hw]
      rcases h with h | ⟨g1, g2⟩
      · refine .inl ?_
        unfold Oper.wp at h ⊢
        generalize (execOp a.eval o).run P w = r at h ⊢
        unfold Oper.upon at h ⊢
        split at h
        · exact ih _ _ h
        · exact ih _ _ h
        · exact ih _ _ h
        · refine h.mono fun e w' he => ?_
          cases e with
          | returned v => exact ih _ _ he
          | panicked c => exact h2 _ _ _ (fun h => by cases h) he
          | outgrown => exact hout he
        · exact Rows.mono h fun v w' hv => ih _ _ hv
        · exact h2 _ _ _ (fun h => by cases h) h
        · exact h.elim
      · exact .inr ⟨g1, hout g2⟩
    · rename_i hw
      rw [if_neg hw]
      exact ih _ _ h
end
structure Guard (G : Prg) (g : FuncId) (T t1 t2 : TypeId) (k1 k2 : IntKind) : Prop where
  idle : ∀ (v1 v2 : Value) (w : World), CallsD G.P g #[v1, v2] .returning w fun e u' w' => (∃ v, e = .returned v) ∧ u' = .returning ∧ Below w.heap.size w w'
  pan : ∀ (b1 b2 : Nat) (x y : Int) (c1 c2 : Value) (w : World), b1 ≠ b2 → w.heap[b1]? = some (.cells #[c1] t1 (0, 0)) → w.heap[b2]? = some (.cells #[c2] t2 (0, 0)) →
    CallsD G.P g #[.pointer (some ⟨b1, 0, none⟩), .pointer (some ⟨b2, 0, none⟩)] (.panicking [{ v := .iface T (.agg #[.int k1 x, .int k2 y]), recovered := false }]) w fun e u' w' =>
      (∃ v, e = .returned v) ∧ u' = .panicking [{ v := .iface T (.agg #[.int k1 x, .int k2 y]), recovered := true }] ∧ Below w.heap.size (putBlk (putBlk w b1 [.int k1 x] t1) b2 [.int k2 y] t2) w'
section
variable {G : Prg}
def setB (st : AS) (b : Nat) (cs : List PV) (t : TypeId) : AS := { st with h := { st.h with bx := st.h.bx.set b ⟨cs, t⟩ } }
def FinD (G : Prg) (fn : Func) (T t1 t2 : TypeId) (k1 k2 : IntKind) (b1 b2 : Nat) (R : Out → List Box → Prop) : AEx → AS → Prop
  | .normal, st | .ret, st => FinR G fn 0 R st
  | .panic x, st => ∃ (n e : Int) (c1 c2 : PV), x = .iface T (.agg [.int k1 n, .int k2 e]) ∧ st.h.bx[b1]? = some ⟨[c1], t1⟩ ∧ st.h.bx[b2]? = some ⟨[c2], t2⟩ ∧ FinR G fn 0 R (setB (setB st b1 [.int k1 n] t1) b2 [.int k2 e] t2)
  | .exit _, _ => False
theorem one_cell {E : Env} {w : World} {c : PV} {vs : List Value} (h : VReps E w [c] vs) : ∃ v, vs = [v] := by
  obtain ⟨v, us, rfl, _, h2⟩ := h.cons_inv
  rw [h2.nil_inv]
  exact ⟨v, rfl⟩
theorem PCalls.deferred {f : FuncId} {fn : Func} {id : Nat} {ops : Array Oper} {rest : Code} {args : List PV} {R : Out → List Box → Prop} {nt : Nat} (hf : G.P.funcs[f]? = some fn) (hk : fn.ntmps = nt) (hb : fn.body = some (.seq (.region id ops false) rest)) (hn : args.length ≤ nt)
    {g : FuncId} {gn : Func} {T t1 t2 : TypeId} {k1 k2 : IntKind} (hG : Guard G g T t1 t2 k1 k2) (hg : G.P.funcs[g]? = some gn) (hname : (gn.name == "runtime.NumGoroutine") = false) (hgb : gn.body.isSome = true)
    {os1 : List Oper} {o : Oper} (hops : ops.toList = os1 ++ [o]) (hgd : o.guard = none) (hdst : o.dst = none) {x y : Operand} {ts : Array TypeId} (hop : o.op = .defer ⟨.value (.func g), #[x, y], ts⟩)
    {s1 : AS} {b1 b2 : Nat} (hx : s1.ev G.Γ x = .ptr b1 0) (hy : s1.ev G.Γ y = .ptr b2 0) (hne : b1 ≠ b2)
    (hrw : s1.h.rw = []) (h1 : ∀ C : Ctx, C.nt = nt → SOps G C ops (At .normal s1) os1 ⟨enum 0 args, ⟨[], []⟩⟩)
    (h2 : ∀ C : Ctx, C.nt = nt → SWP G C rest (FinD G fn T t1 t2 k1 k2 b1 b2 R) s1) : PCalls G f args [] R := fun E w vs hh hv => by
  refine calls_of_wp_defers hf hb ?_
  have hE : HRep G.Γ { E with lo := w.heap.size } w ⟨[], []⟩ := ⟨hh.nb, hh.nr, Nat.le_refl _, fun i b hb => by simp at hb, fun i r hr => by simp at hr, hh.inj, hh.rinj, hh.brw, hh.im_lt, hh.im_b, hh.im_r, hh.gl⟩
  have hv' : VReps { E with lo := w.heap.size } w args vs := hv.move fun x v hx => hx.move (Nat.le_refl _) (Nat.le_refl _) (fun _ _ => rfl) (fun _ _ => rfl) (fun _ h => h) (fun _ _ => rfl)
  have hrel : Rel G (Ctx.of w E 0 fn.ntmps) { E with lo := w.heap.size } ⟨enum 0 args, ⟨[], []⟩⟩ { tmps := vs.toArray ++ Array.replicate (fn.ntmps - vs.toArray.size) undef, defers := [] } w :=
    ⟨rfl, by simp [hv.1]; omega, fun s => by
      rcases lk_enum args vs 0 (fn.ntmps - vs.length) s hv' with h | h
      · have e : (vs.toArray ++ Array.replicate (fn.ntmps - vs.toArray.size) undef).getD s undef = (vs ++ List.replicate (fn.ntmps - vs.length) undef).getD (s - 0) undef := by
          rw [Array.getD_eq_getD_getElem?, List.getD, ← Array.getElem?_toList]
          simp
        rw [e]
        exact h
      · omega, hE, rfl, Nat.zero_le _, fun _ _ => rfl, fun i h1 h2 => absurd (show i < ([] : List Box).length from by have := hh.nb; simp only [] at h2 this; rw [← this]; exact h2) (Nat.not_lt_zero _), fun _ h => h, fun _ h => .inl h, fun _ _ _ _ => rfl, rfl, rfl, rfl, Nat.le_refl _, fun j s k hj => by simp at hj⟩
  refine wp_seq (wp_region_list ?_)
  rw [hops]
  refine wpList_then (Q1 := Post G (Ctx.of w E 0 fn.ntmps) (At .normal s1)) ?_ ?_ os1 _ _ (h1 _ hk _ _ _ hrel)
  rotate_left
  · rintro e a1 w1 hne ⟨ae, s, E1, ⟨rfl, rfl⟩, rfl, r1⟩
    exact absurd rfl hne
  rintro a1 w1 ⟨ae, s, E1, ⟨rfl, rfl⟩, _, r1⟩
  have ex := ev_rep r1.fr r1.hp x
  have ey := ev_rep r1.fr r1.hp y
  rw [hx] at ex
  rw [hy] at ey
  obtain ⟨ex, hb1⟩ := ex.ptr_inv
  obtain ⟨ey, hb2⟩ := ey.ptr_inv
  have hrun : (execOp a1.eval o).run G.P w1 = .ok (.defer ⟨.fn (.func g) #[], #[.pointer (some ⟨E1.β b1, 0, none⟩), .pointer (some ⟨E1.β b2, 0, none⟩)]⟩) w1 := by
    have e0 : a1.eval (.func g) = .func (.func g) #[] #[] := rfl
    simp [execOp, hop, resolve, Deferred.ofValue, e0, ex, ey, Result.andThen]
  refine wpList_plain hgd fun K hK => ?_
  unfold Oper.wp
  rw [hrun]
  refine hK _ _ ?_
  show rest.wp G.P _ _ _
  rw [hdst]
  let d0 : Deferred := ⟨.fn (.func g) #[], #[.pointer (some ⟨E1.β b1, 0, none⟩), .pointer (some ⟨E1.β b2, 0, none⟩)]⟩
  let C2 : Ctx := ⟨w1, E1, E1.nb, fn.ntmps, E1.lo, fun _ => False, [d0]⟩
  have r2 : Rel G C2 E1 s { a1 with defers := d0 :: a1.defers } w1 := ⟨by simp [r1.defers, C2, Ctx.of], r1.size, r1.fr, r1.hp, rfl, Nat.le_refl _, fun _ _ => rfl, fun i h1 h2 => absurd h2 (Nat.not_lt.2 h1), fun _ h => h, fun _ h => .inl h, fun _ _ _ _ => rfl, rfl, rfl, rfl, Nat.le_refl _, fun j t k hj => by rw [hrw] at hj; simp at hj⟩
  have fin : ∀ (E' : Env) (s2 : AS) (a' : Act) (w' : World), Rel G C2 E' s2 a' w' → FinR G fn 0 R s2 →
      ∃ v, (results fn a'.tmps).run G.P w' = .ok v w' ∧ ∃ o bx' E2, R o bx' ∧ OutR E2 w' o (.returned v) ∧ HRep G.Γ E2 w' ⟨bx', []⟩ ∧ PExt 0 E w E2 w' := by
    rintro E' s2 a' w' r ⟨m, rv, h1, h2, h3, h4, h5, h6⟩
    obtain ⟨v, hv1, hv2⟩ := aret_ok r.fr r.hp h3
    have k1 := close_hp r h2 h5
    have hnb := r.hp.nb
    have own1 : ∀ i, i < E1.nb → w.heap.size ≤ E1.β i := fun i hi => r1.own i (Nat.zero_le _) hi
    refine ⟨v, hv1, _, _, { E' with nb := m, nr := 0 }, h6, ⟨v, rfl, hv2.sc h4 (Nat.le_refl _) (fun _ _ => rfl) rfl⟩, k1, ⟨Nat.le_trans r1.sz r.sz, r.os.trans r1.os, r.tape.trans r1.tape, r.out.trans r1.out, fun k hk _ => ?_, Nat.zero_le _, fun i hi => absurd hi (Nat.not_lt_zero _), fun k hk => r.up k (r1.up k hk), fun k hk => ?_, fun i _ hi => ?_⟩⟩
    · exact (r.keep k (Nat.lt_of_lt_of_le hk r1.sz) (fun i hi he => by have := own1 i hi; simp only [C2] at he; omega) (fun h => h)).trans (r1.keep k hk (fun i hi => absurd hi (Nat.not_lt_zero _)) (fun h => h))
    · rcases r.dn k hk with h | h | h
      · rcases r1.dn k h with h | h | h
        · exact .inl h
        · exact .inr h
        · exact h.elim
      · exact .inr (Nat.le_trans r1.sz h)
      · exact h.elim
    · simp only [] at hi
      rcases Nat.lt_or_ge i E1.nb with hlt | hge
      · rw [show (E' : Env).β i = E1.β i from r.β i hlt]; exact own1 i hlt
      · exact Nat.le_trans r1.sz (r.own i hge (by omega))
  have hinv : ∀ w', (invoke d0.target d0.args).run G.P w' = .ok (.enter g d0.args) w' := fun w' => by
    simp only [d0, invoke]
    rw [callFunc_enter hg hname hgb]
    simp
  have back : ∀ (a2 : Act) (w2 : World) (E2 : Env) (s2 : AS), Rel G C2 E2 s2 a2 w2 → FinR G fn 0 R s2 → Leaves G.P fn a2.tmps (fun e w' => ∃ o bx' E', R o bx' ∧ OutR E' w' o e ∧ HRep G.Γ E' w' ⟨bx', []⟩ ∧ PExt ([] : List Box).length E w E' w') a2.defers .returning w2 := by
    intro a2 w2 E2 s2 r3 q
    rw [r3.defers]
    refine leaves_cons (f := g) (args := d0.args) (fun h => by cases h) (hinv w2) ?_
    refine (hG.idle _ _ w2).mono ?_
    rintro e u' w' ⟨⟨v, rfl⟩, rfl, hb⟩
    obtain ⟨v, g1, g2⟩ := fin _ _ _ _ (r3.grow hb.size hb.block hb.os hb.tape hb.output) q
    exact ⟨v, g1, g2⟩
  refine wp_mono (h2 C2 hk _ _ _ r2) ?_
  rintro e a2 w2 ⟨ae, s2, E2, q, hx2, r3⟩
  cases ae with
  | normal => cases hx2; exact back _ _ _ _ r3 q
  | ret => cases hx2; exact back _ _ _ _ r3 q
  | exit i => exact q.elim
  | panic z =>
    obtain ⟨n, e', c1, c2, rfl, hc1, hc2, hfin⟩ := q
    obtain ⟨v, rfl, hv⟩ := hx2
    obtain ⟨u, rfl, hu⟩ := hv.iface_inv
    obtain ⟨us, rfl, hus⟩ := hu.agg_inv
    obtain ⟨v1, us, rfl, hv1, hus⟩ := hus.cons_inv
    obtain ⟨v2, us, rfl, hv2, hus⟩ := hus.cons_inv
    rw [hus.nil_inv]
    have e1 := hv1.int_inv
    have e2 := hv2.int_inv
    subst e1 e2
    obtain ⟨cur1, g1, g2⟩ := r3.hp.box b1 _ hc1
    obtain ⟨cur2, g3, g4⟩ := r3.hp.box b2 _ hc2
    obtain ⟨c1', rfl⟩ := one_cell g2
    obtain ⟨c2', rfl⟩ := one_cell g4
    have hn1 : b1 < E2.nb := by rw [r3.hp.nb]; exact (List.getElem?_eq_some_iff.1 hc1).1
    have hn2 : b2 < E2.nb := by rw [r3.hp.nb]; exact (List.getElem?_eq_some_iff.1 hc2).1
    have hβ1 : E2.β b1 = E1.β b1 := r3.β b1 hb1
    have hβ2 : E2.β b2 = E1.β b2 := r3.β b2 hb2
    show Leaves G.P fn a2.tmps _ a2.defers _ w2
    rw [r3.defers]
    refine leaves_cons (f := g) (args := d0.args) (fun h => by cases h) (hinv w2) ?_
    have hcall := hG.pan (E2.β b1) (E2.β b2) n e' c1' c2' w2 (fun he => hne (r3.hp.inj b1 b2 hn1 hn2 he)) g1 g3
    rw [hβ1, hβ2] at hcall
    refine hcall.mono ?_
    rintro e u' w' ⟨⟨v, rfl⟩, rfl, hb⟩
    have r4 := r3.putBox hc1 (cs := [.int k1 n]) (vs := [.int k1 n]) (.cons (.imm (.int _ _)) (.nil _ _))
    have hc2' : (setB s2 b1 [.int k1 n] t1).h.bx[b2]? = some ⟨[c2], t2⟩ := by
      simp only [setB]; rw [List.getElem?_set_ne hne]; exact hc2
    have r5 := Rel.putBox (st := setB s2 b1 [.int k1 n] t1) r4 hc2' (cs := [.int k2 e']) (vs := [.int k2 e']) (.cons (.imm (.int _ _)) (.nil _ _))
    rw [hβ1, hβ2] at r5
    obtain ⟨v, g5, g6⟩ := fin _ _ _ _ (r5.grow hb.size (fun k hk => hb.block k (by simpa [putBlk_size] using hk)) hb.os hb.tape hb.output) hfin
    exact ⟨v, g5, g6⟩
theorem PCalls.deferred2 {f : FuncId} {fn : Func} {id : Nat} {ops : Array Oper} {c0 rest : Code} {args : List PV} {R : Out → List Box → Prop} {nt : Nat} (hf : G.P.funcs[f]? = some fn) (hk : fn.ntmps = nt) (hb : fn.body = some (.seq c0 (.seq (.region id ops false) rest))) (hn : args.length ≤ nt)
    {g : FuncId} {gn : Func} {T t1 t2 : TypeId} {k1 k2 : IntKind} (hG : Guard G g T t1 t2 k1 k2) (hg : G.P.funcs[g]? = some gn) (hname : (gn.name == "runtime.NumGoroutine") = false) (hgb : gn.body.isSome = true)
    {o : Oper} (hops : ops.toList = [o]) (hgd : o.guard = none) (hdst : o.dst = none) {x y : Operand} {ts : Array TypeId} (hop : o.op = .defer ⟨.value (.func g), #[x, y], ts⟩)
    {s1 : AS} {b1 b2 : Nat} (hx : s1.ev G.Γ x = .ptr b1 0) (hy : s1.ev G.Γ y = .ptr b2 0) (hne : b1 ≠ b2)
    (hrw : s1.h.rw = []) (h1 : ∀ C : Ctx, C.nt = nt → SWP G C c0 (At .normal s1) ⟨enum 0 args, ⟨[], []⟩⟩)
    (h2 : ∀ C : Ctx, C.nt = nt → C.nb = s1.h.bx.length → SWP G C rest (FinD G fn T t1 t2 k1 k2 b1 b2 R) s1) : PCalls G f args [] R := fun E w vs hh hv => by
  refine calls_of_wp_defers hf hb ?_
  have hE : HRep G.Γ { E with lo := w.heap.size } w ⟨[], []⟩ := ⟨hh.nb, hh.nr, Nat.le_refl _, fun i b hb => by simp at hb, fun i r hr => by simp at hr, hh.inj, hh.rinj, hh.brw, hh.im_lt, hh.im_b, hh.im_r, hh.gl⟩
  have hv' : VReps { E with lo := w.heap.size } w args vs := hv.move fun x v hx => hx.move (Nat.le_refl _) (Nat.le_refl _) (fun _ _ => rfl) (fun _ _ => rfl) (fun _ h => h) (fun _ _ => rfl)
  have hrel : Rel G (Ctx.of w E 0 fn.ntmps) { E with lo := w.heap.size } ⟨enum 0 args, ⟨[], []⟩⟩ { tmps := vs.toArray ++ Array.replicate (fn.ntmps - vs.toArray.size) undef, defers := [] } w :=
    ⟨rfl, by simp [hv.1]; omega, fun s => by
      rcases lk_enum args vs 0 (fn.ntmps - vs.length) s hv' with h | h
      · have e : (vs.toArray ++ Array.replicate (fn.ntmps - vs.toArray.size) undef).getD s undef = (vs ++ List.replicate (fn.ntmps - vs.length) undef).getD (s - 0) undef := by
          rw [Array.getD_eq_getD_getElem?, List.getD, ← Array.getElem?_toList]
          simp
        rw [e]
        exact h
      · omega, hE, rfl, Nat.zero_le _, fun _ _ => rfl, fun i h1 h2 => absurd (show i < ([] : List Box).length from by have := hh.nb; simp only [] at h2 this; rw [← this]; exact h2) (Nat.not_lt_zero _), fun _ h => h, fun _ h => .inl h, fun _ _ _ _ => rfl, rfl, rfl, rfl, Nat.le_refl _, fun j s k hj => by simp at hj⟩
  refine wp_seq (wp_mono (h1 _ hk _ _ _ hrel) ?_)
  rintro e a1 w1 ⟨ae, s, E1, ⟨rfl, rfl⟩, rfl, r1⟩
  refine wp_seq (wp_region_list ?_)
  rw [hops]
  have ex := ev_rep r1.fr r1.hp x
  have ey := ev_rep r1.fr r1.hp y
  rw [hx] at ex
  rw [hy] at ey
  obtain ⟨ex, hb1⟩ := ex.ptr_inv
  obtain ⟨ey, hb2⟩ := ey.ptr_inv
  have hrun : (execOp a1.eval o).run G.P w1 = .ok (.defer ⟨.fn (.func g) #[], #[.pointer (some ⟨E1.β b1, 0, none⟩), .pointer (some ⟨E1.β b2, 0, none⟩)]⟩) w1 := by
    have e0 : a1.eval (.func g) = .func (.func g) #[] #[] := rfl
    simp [execOp, hop, resolve, Deferred.ofValue, e0, ex, ey, Result.andThen]
  refine wpList_plain hgd fun K hK => ?_
  unfold Oper.wp
  rw [hrun]
  refine hK _ _ ?_
  show rest.wp G.P _ _ _
  rw [hdst]
  let d0 : Deferred := ⟨.fn (.func g) #[], #[.pointer (some ⟨E1.β b1, 0, none⟩), .pointer (some ⟨E1.β b2, 0, none⟩)]⟩
  let C2 : Ctx := ⟨w1, E1, E1.nb, fn.ntmps, E1.lo, fun _ => False, [d0]⟩
  have r2 : Rel G C2 E1 s { a1 with defers := d0 :: a1.defers } w1 := ⟨by simp [r1.defers, C2, Ctx.of], r1.size, r1.fr, r1.hp, rfl, Nat.le_refl _, fun _ _ => rfl, fun i h1 h2 => absurd h2 (Nat.not_lt.2 h1), fun _ h => h, fun _ h => .inl h, fun _ _ _ _ => rfl, rfl, rfl, rfl, Nat.le_refl _, fun j t k hj => by rw [hrw] at hj; simp at hj⟩
  have fin : ∀ (E' : Env) (s2 : AS) (a' : Act) (w' : World), Rel G C2 E' s2 a' w' → FinR G fn 0 R s2 →
      ∃ v, (results fn a'.tmps).run G.P w' = .ok v w' ∧ ∃ o bx' E2, R o bx' ∧ OutR E2 w' o (.returned v) ∧ HRep G.Γ E2 w' ⟨bx', []⟩ ∧ PExt 0 E w E2 w' := by
    rintro E' s2 a' w' r ⟨m, rv, h1, h2, h3, h4, h5, h6⟩
    obtain ⟨v, hv1, hv2⟩ := aret_ok r.fr r.hp h3
    have k1 := close_hp r h2 h5
    have hnb := r.hp.nb
    have own1 : ∀ i, i < E1.nb → w.heap.size ≤ E1.β i := fun i hi => r1.own i (Nat.zero_le _) hi
    refine ⟨v, hv1, _, _, { E' with nb := m, nr := 0 }, h6, ⟨v, rfl, hv2.sc h4 (Nat.le_refl _) (fun _ _ => rfl) rfl⟩, k1, ⟨Nat.le_trans r1.sz r.sz, r.os.trans r1.os, r.tape.trans r1.tape, r.out.trans r1.out, fun k hk _ => ?_, Nat.zero_le _, fun i hi => absurd hi (Nat.not_lt_zero _), fun k hk => r.up k (r1.up k hk), fun k hk => ?_, fun i _ hi => ?_⟩⟩
    · exact (r.keep k (Nat.lt_of_lt_of_le hk r1.sz) (fun i hi he => by have := own1 i hi; simp only [C2] at he; omega) (fun h => h)).trans (r1.keep k hk (fun i hi => absurd hi (Nat.not_lt_zero _)) (fun h => h))
    · rcases r.dn k hk with h | h | h
      · rcases r1.dn k h with h | h | h
        · exact .inl h
        · exact .inr h
        · exact h.elim
      · exact .inr (Nat.le_trans r1.sz h)
      · exact h.elim
    · simp only [] at hi
      rcases Nat.lt_or_ge i E1.nb with hlt | hge
      · rw [show (E' : Env).β i = E1.β i from r.β i hlt]; exact own1 i hlt
      · exact Nat.le_trans r1.sz (r.own i hge (by omega))
  have hinv : ∀ w', (invoke d0.target d0.args).run G.P w' = .ok (.enter g d0.args) w' := fun w' => by
    simp only [d0, invoke]
    rw [callFunc_enter hg hname hgb]
    simp
  have back : ∀ (a2 : Act) (w2 : World) (E2 : Env) (s2 : AS), Rel G C2 E2 s2 a2 w2 → FinR G fn 0 R s2 → Leaves G.P fn a2.tmps (fun e w' => ∃ o bx' E', R o bx' ∧ OutR E' w' o e ∧ HRep G.Γ E' w' ⟨bx', []⟩ ∧ PExt ([] : List Box).length E w E' w') a2.defers .returning w2 := by
    intro a2 w2 E2 s2 r3 q
    rw [r3.defers]
    refine leaves_cons (f := g) (args := d0.args) (fun h => by cases h) (hinv w2) ?_
    refine (hG.idle _ _ w2).mono ?_
    rintro e u' w' ⟨⟨v, rfl⟩, rfl, hb⟩
    obtain ⟨v, g1, g2⟩ := fin _ _ _ _ (r3.grow hb.size hb.block hb.os hb.tape hb.output) q
    exact ⟨v, g1, g2⟩
  refine wp_mono (h2 C2 hk r1.hp.nb _ _ _ r2) ?_
  rintro e a2 w2 ⟨ae, s2, E2, q, hx2, r3⟩
  cases ae with
  | normal => cases hx2; exact back _ _ _ _ r3 q
  | ret => cases hx2; exact back _ _ _ _ r3 q
  | exit i => exact q.elim
  | panic z =>
    obtain ⟨n, e', c1, c2, rfl, hc1, hc2, hfin⟩ := q
    obtain ⟨v, rfl, hv⟩ := hx2
    obtain ⟨u, rfl, hu⟩ := hv.iface_inv
    obtain ⟨us, rfl, hus⟩ := hu.agg_inv
    obtain ⟨v1, us, rfl, hv1, hus⟩ := hus.cons_inv
    obtain ⟨v2, us, rfl, hv2, hus⟩ := hus.cons_inv
    rw [hus.nil_inv]
    have e1 := hv1.int_inv
    have e2 := hv2.int_inv
    subst e1 e2
    obtain ⟨cur1, g1, g2⟩ := r3.hp.box b1 _ hc1
    obtain ⟨cur2, g3, g4⟩ := r3.hp.box b2 _ hc2
    obtain ⟨c1', rfl⟩ := one_cell g2
    obtain ⟨c2', rfl⟩ := one_cell g4
    have hn1 : b1 < E2.nb := by rw [r3.hp.nb]; exact (List.getElem?_eq_some_iff.1 hc1).1
    have hn2 : b2 < E2.nb := by rw [r3.hp.nb]; exact (List.getElem?_eq_some_iff.1 hc2).1
    have hβ1 : E2.β b1 = E1.β b1 := r3.β b1 hb1
    have hβ2 : E2.β b2 = E1.β b2 := r3.β b2 hb2
    show Leaves G.P fn a2.tmps _ a2.defers _ w2
    rw [r3.defers]
    refine leaves_cons (f := g) (args := d0.args) (fun h => by cases h) (hinv w2) ?_
    have hcall := hG.pan (E2.β b1) (E2.β b2) n e' c1' c2' w2 (fun he => hne (r3.hp.inj b1 b2 hn1 hn2 he)) g1 g3
    rw [hβ1, hβ2] at hcall
    refine hcall.mono ?_
    rintro e u' w' ⟨⟨v, rfl⟩, rfl, hb⟩
    have r4 := r3.putBox hc1 (cs := [.int k1 n]) (vs := [.int k1 n]) (.cons (.imm (.int _ _)) (.nil _ _))
    have hc2' : (setB s2 b1 [.int k1 n] t1).h.bx[b2]? = some ⟨[c2], t2⟩ := by
      simp only [setB]; rw [List.getElem?_set_ne hne]; exact hc2
    have r5 := Rel.putBox (st := setB s2 b1 [.int k1 n] t1) r4 hc2' (cs := [.int k2 e']) (vs := [.int k2 e']) (.cons (.imm (.int _ _)) (.nil _ _))
    rw [hβ1, hβ2] at r5
    obtain ⟨v, g5, g6⟩ := fin _ _ _ _ (r5.grow hb.size (fun k hk => hb.block k (by simpa [putBlk_size] using hk)) hb.os hb.tape hb.output) hfin
    exact ⟨v, g5, g6⟩
theorem PCalls.deferQ {f : FuncId} {fn : Func} {id : Nat} {ops : Array Oper} {c0 rest : Code} {args : List PV} {R : Out → List Box → Prop} {nt : Nat} (hf : G.P.funcs[f]? = some fn) (hk : fn.ntmps = nt) (hb : fn.body = some (.seq c0 (.seq (.region id ops false) rest))) (hn : args.length ≤ nt)
    {g : FuncId} {gn : Func} {T t1 t2 : TypeId} {k1 k2 : IntKind} (hG : Guard G g T t1 t2 k1 k2) (hg : G.P.funcs[g]? = some gn) (hname : (gn.name == "runtime.NumGoroutine") = false) (hgb : gn.body.isSome = true)
    {o : Oper} (hops : ops.toList = [o]) (hgd : o.guard = none) (hdst : o.dst = none) {x y : Operand} {ts : Array TypeId} (hop : o.op = .defer ⟨.value (.func g), #[x, y], ts⟩)
    {s1 : AS} {b1 b2 : Nat} (hx : s1.ev G.Γ x = .ptr b1 0) (hy : s1.ev G.Γ y = .ptr b2 0) (hne : b1 ≠ b2)
    (hrw : s1.h.rw = []) (h1 : ∀ C : Ctx, C.nt = nt → SWP G C c0 (At .normal s1) ⟨enum 0 args, ⟨[], []⟩⟩)
    (h2 : ∀ (C : Ctx) (fr : AS → Prop) (fp : PV → AS → Prop), C.nt = nt → C.nb = s1.h.bx.length → (∀ s sl, FinR G fn 0 R (nrm sl s) → fr s) →
      (∀ n e s sl c1 c2, (nrm sl s).h.bx[b1]? = some ⟨[c1], t1⟩ → (nrm sl s).h.bx[b2]? = some ⟨[c2], t2⟩ → FinR G fn 0 R (setB (setB (nrm sl s) b1 [.int k1 n] t1) b2 [.int k2 e] t2) → fp (.iface T (.agg [.int k1 n, .int k2 e])) s) →
      SWP G C rest (QT fr [] fr fp) s1) : PCalls G f args [] R :=
  PCalls.deferred2 hf hk hb hn hG hg hname hgb hops hgd hdst hop hx hy hne hrw h1 fun C hC hnb => SWP.normQ ((h2 C (fun s => ∃ sl, FinR G fn 0 R (nrm sl s)) (fun x s => ∃ sl, FinD G fn T t1 t2 k1 k2 b1 b2 R (.panic x) (nrm sl s)) hC hnb (fun s sl h => ⟨sl, h⟩)
    (fun n e s sl c1 c2 g1 g2 g3 => ⟨sl, n, e, c1, c2, rfl, g1, g2, g3⟩)).mono fun e s q => by
    cases e with
    | normal => exact q
    | ret => exact q
    | exit i => exact q.elim
    | panic x => exact q)
def recV : FrameMode → Value × FrameMode
  | .panicking ({ v, recovered := false, goexit := false } :: older) => (v, .panicking ({ v, recovered := true } :: older))
  | u => (.nilIface, u)
theorem recoverD_at (c : Frame) (cs : List Frame) : recoverD (c :: cs) = some ((recV c.mode).1, { c with mode := (recV c.mode).2 } :: cs) ∨ (recoverD (c :: cs) = none ∧ recV c.mode = (.nilIface, c.mode)) := by
  unfold recoverD
  simp only []
  split
  · rename_i h; left; rw [h]; rfl
  · rename_i h
    right
    refine ⟨rfl, ?_⟩
    unfold recV
    split
    · rename_i v older hm; exact absurd hm (h v older)
    · rfl
theorem callsD_recover {P : Program} {f : FuncId} {fn : Func} {id : Nat} {o : Oper} {rest : Code} {args : Array Value} {u : FrameMode} {w : World} {R : Ending → FrameMode → World → Prop} (hf : P.funcs[f]? = some fn) (hb : fn.body = some (.seq (.region id #[o] false) rest)) (hg : o.guard = none)
    (hop : ∀ ρ : Operand → Value, (execOp ρ o).run P w = .ok .recover w)
    (h : rest.wp P (bodyPost P fn fun e w' => R e (recV u).2 w') (({ tmps := args ++ Array.replicate (fn.ntmps - args.size) undef, defers := [] } : Act).put o.dst (recV u).1) w) : CallsD P f args u w R := by
  refine callsD_of_wpS hf hb fun c₀ cs hu => ?_
  refine wpS_seq (wpS_region ?_)
  have hr : List.range (#[o] : Array Oper).size = [0] := rfl
  rw [hr]
  simp only [wpOpsS]
  have h0 : (#[o] : Array Oper)[0]? = some o := rfl
  simp only [h0, Region.wanted, hg, if_true, hop]
  have fin : ∀ c1 : Frame, { c1 with mode := (recV u).2 } = { c₀ with mode := (recV u).2 } → rest.wpS P (bodyPostS P fn c₀ cs R) (({ tmps := args ++ Array.replicate (fn.ntmps - args.size) undef, defers := [] } : Act).put o.dst (recV u).1) ({ c₀ with mode := (recV u).2 } :: cs) w := fun _ _ =>
    wpS_of_wp (wp_mono h fun e a w' hq => by
      cases e with
      | normal => obtain ⟨h1, v, h2, h3⟩ := hq; exact ⟨h1, _, rfl, v, h2, h3⟩
      | ret => obtain ⟨h1, v, h2, h3⟩ := hq; exact ⟨h1, _, rfl, v, h2, h3⟩
      | panic ch => exact ⟨hq.1, _, rfl, hq.2⟩
      | outgrown => exact ⟨_, hq⟩
      | exit i => exact hq
      | goto l => exact hq)
  rcases recoverD_at c₀ cs with hr | ⟨hr, hv⟩
  · rw [hr]
    simp only [Exit.thenS]
    rw [hu]
    exact fin c₀ rfl
  · rw [hr]
    simp only [Exit.thenS]
    rw [hu] at hv
    have := fin c₀ rfl
    rw [hv] at this
    have e : ({ c₀ with mode := u } : Frame) = c₀ := by subst hu; rfl
    simp only [e] at this
    exact this
end
end Go.AS
namespace Go.AS
open Go.RowKit
set_option linter.unusedVariables false
set_option linter.unusedSimpArgs false
mutual
def PV.nz : PV → PV
  | .nil => .slice 0 []
  | .slice n cs => .slice n (nzL cs)
  | .agg cs => .agg (nzL cs)
  | .tup cs => .tup (nzL cs)
  | .int k n => .int k n
  | .bool b => .bool b
  | .str s => .str s
  | .epos cs => .epos cs
  | .own r n => .own r n
  | .rpos r o => .rpos r o
  | .ptr b o => .ptr b o
  | .bsl b n m => .bsl b n m
  | .nilptr => .nilptr
  | .func f cs => .func f cs
  | .nilfunc => .nilfunc
  | .iface t x => .iface t x
  | .niliface => .niliface
  | .junk => .junk
def nzL : List PV → List PV
  | [] => []
  | x :: xs => x.nz :: nzL xs
end
theorem nzL_get : ∀ (cs : List PV) (j : Nat), (nzL cs)[j]? = (cs[j]?).map PV.nz
  | [], j => by simp [nzL]
  | x :: xs, 0 => by simp [nzL]
  | x :: xs, j + 1 => by simp only [nzL, List.getElem?_cons_succ]; exact nzL_get xs j
theorem nzL_len : ∀ cs : List PV, (nzL cs).length = cs.length
  | [] => rfl
  | x :: xs => by simp only [nzL, List.length_cons, nzL_len xs]
theorem nzL_app : ∀ xs ys : List PV, nzL (xs ++ ys) = nzL xs ++ nzL ys
  | [], ys => rfl
  | x :: xs, ys => by simp only [List.cons_append, nzL, nzL_app xs ys]
theorem nz_at {cs : List PV} {vs : List Value} {T : PV → Value → Prop} (h : ∀ (j : Nat) (x : PV) (v : Value), cs[j]? = some x → vs[j]? = some v → T x.nz v) : ∀ (j : Nat) (x : PV) (v : Value), (nzL cs)[j]? = some x → vs[j]? = some v → T x v := fun j x v hx hv => by
  rw [nzL_get] at hx
  obtain ⟨y, hy, rfl⟩ := Option.map_eq_some_iff.1 hx
  exact h j y v hy hv
theorem IRep.nz {im : Nat → Prop} {w : World} {x : PV} {v : Value} (h : IRep im w x v) : IRep im w x.nz v := by
  induction h with
  | nil => exact .slice0
  | slice0 => exact .slice0
  | slice hn hl hb hc h1 _ ih => exact .slice hn (hl.trans (nzL_len _).symm) hb hc h1 (nz_at ih)
  | agg hl _ ih => exact .agg (hl.trans (nzL_len _).symm) (nz_at ih)
  | tup hl _ ih => exact .tup (hl.trans (nzL_len _).symm) (nz_at ih)
  | epos hl hb hc hr _ => exact .epos hl hb hc hr
  | iface t h _ => exact .iface t h
  | int | bool | str | nilptr | nilfunc | niliface | func => constructor
theorem VRep.nz {E : Env} {w : World} {x : PV} {v : Value} (h : VRep E w x v) : VRep E w x.nz v := by
  induction h with
  | imm h => exact .imm h.nz
  | own hr h hn => exact .own hr h hn
  | rpos hr h => exact .rpos hr h
  | ptr o hb => exact .ptr o hb
  | bsl hb hn => exact .bsl hb hn
  | func hl hr _ => exact .func hl hr
  | agg hl _ ih => exact .agg (hl.trans (nzL_len _).symm) (nz_at ih)
  | tup hl _ ih => exact .tup (hl.trans (nzL_len _).symm) (nz_at ih)
  | iface t h _ => exact .iface t h
  | junk v => exact .junk v
def Out.nz : Out → Out
  | .ret r => .ret r.nz
  | .pan x => .pan x
theorem PCalls.nz {G : Prg} {f : FuncId} {args : List PV} {bx : List Box} {R : Out → List Box → Prop} (h : PCalls G f args bx (fun o b => R o.nz b)) : PCalls G f args bx R := fun E w vs hh hv =>
  (h E w vs hh hv).mono fun e w' ⟨o, bx', E', hR, hout, hrest⟩ => by
    refine ⟨o.nz, bx', E', hR, ?_, hrest⟩
    cases o with
    | ret r => obtain ⟨v, rfl, hv⟩ := hout; exact ⟨v, rfl, hv.nz⟩
    | pan x => exact hout
theorem Pure.nz {G : Prg} {f : FuncId} {args : List PV} {R : PV → Prop} (h : Pure G f args (fun r => R r.nz)) : Pure G f args R :=
  PCalls.nz (PCalls.mono h fun o b ⟨hb, r, ho, hr⟩ => ⟨hb, r.nz, by rw [ho]; rfl, hr⟩)
mutual
theorem Dat.nz : ∀ d : Dat, nzL d.cells = d.cells
  | .mk k n s ks => by simp only [Dat.cells, nzL, PV.nz, Dats.nz ks]
theorem Dats.nz : ∀ ds : Dats, nzL ds.cells = ds.cells
  | .nil => rfl
  | .cons d ds => by simp only [Dats.cells, nzL_app, Dat.nz d, Dats.nz ds]
end
section
variable {G : Prg} {C : Ctx} {Q : AEx → AS → Prop} {st : AS}
theorem SWP.adoptS {c : Code} (s : Nat) (ty : TypeId) (sz : Nat) (hs : lk st.t s = .nil) (h : SWP G C c Q (st.adopt s ty sz)) : SWP G C c Q st := fun E a w hr => by
  obtain ⟨E', hr'⟩ := hr.adopt hs ty sz
  exact h E' a w hr'
end
end Go.AS
namespace Go.AS
open Go.RowKit
section
variable {G : Prg}
noncomputable def runX (S : Cfg G) (rec : Rec) (nt : Nat) (ops : Array Oper) (ds : List Nat) : Nat → Array Bool → AS → Option Outs
  | 0, _, _ => none
  | n + 1, l, st => match Region.ready .any ops l with
    | [] => none
    | i :: is => match pick1 G S.orc S.val nt ops ds l st (i :: is) with
      | some (l', s, o) => pre o (runX S rec nt ops ds n l' s)
      | none => eachOf (fun j => match ds.contains j, panOne S nt ops st j with
        | true, some (x, s, o) => some ([⟨[(0, x)], s.h⟩], o)
        | _, _ => match anyOne S rec nt ops ds l st j with
          | some (l', s, o) => pre o (runX S rec nt ops ds n l' s)
          | none => none) (i :: is)
variable {C : Ctx} {Q : AEx → AS → Prop} {st : AS} {ops : Array Oper} {ds : List Nat}
theorem runX_ok {S : Cfg G} {rec : Rec} (hr : Snd G rec) (hQ : PanicT Q) : ∀ (n : Nat) (l : Array Bool) (st : AS) (outs : Outs), runX S rec C.nt ops ds n l st = some outs → okO outs.2 → (∀ s ∈ outs.1, ∀ x h, s = ⟨[(0, x)], h⟩ → Q (.panic x) ⟨[], h⟩) → SAny G C ops Q ds n l st := by
  intro n
  induction n with
  | zero => intro l st outs h; cases h
  | succ n ih =>
    intro l st outs h ho hK
    simp only [runX] at h
    split at h
    · cases h
    · rename_i i is hri
      split at h
      · rename_i l' s o hp
        obtain ⟨o', h1, h2⟩ := pre_some h
        rw [h2] at ho
        exact pick1_ok hQ ho.left _ hp (ih _ _ _ h1 ho.right hK)
      · refine .all (by rw [hri]; exact List.cons_ne_nil _ _) fun j hj => ?_
        rw [hri] at hj
        obtain ⟨a, h1, h2, h3⟩ := eachOf_some h j hj
        split at h1
        · rename_i x s o hds hpan
          cases h1
          unfold panOne at hpan
          split at hpan
          · rename_i op hi
            split at hpan
            · rename_i hg
              refine ⟨op, hi, .inl ⟨by unfold gq; rw [hg], .inl ⟨by simpa using hds, ?_⟩⟩⟩
              have hob : okO o := fun p hp => ho p (h3 p hp)
              refine SOp.wkp (Q' := At (.panic x) s) (panStep_ok (Q := At (.panic x) s) hpan hob ⟨rfl, rfl⟩ op rfl rfl) ?_
              rintro e t ⟨rfl, rfl⟩
              exact ⟨[], hK _ (h2 _ (List.mem_singleton.2 rfl)) x t.h rfl, .inl rfl⟩
            · cases hpan
          · cases hpan
        · split at h1
          · rename_i l' s o hone
            obtain ⟨o', h4, h5⟩ := pre_some h1
            have ho' : okO (o ++ o') := fun p hp => ho p (h3 p (by rw [h5]; exact hp))
            exact anyOne_ok hr hone ho'.left (by
              have hl : l' = l.setIfInBounds j true := by
                unfold anyOne at hone
                split at hone
                · split at hone
                  · split at hone
                    · split at hone
                      · cases hone; rfl
                      · cases hone
                    · cases hone
                  · split at hone
                    · cases hone; rfl
                    · cases hone
                  · cases hone
                · cases hone
              subst hl
              exact ih _ _ _ h4 ho'.right fun s hs => hK s (h2 s hs))
          · cases h1
noncomputable def runXP (S : Cfg G) (k nt : Nat) (ops : Array Oper) (st : AS) : Option Outs := runX S (run S k) nt ops (dsOf S.D ops) ops.size (Array.replicate ops.size false) st
theorem SWP.runXQ {id : Nat} (S : Cfg G) (k nt : Nat) (hnt : C.nt = nt) (hQ : PanicT Q) {l : List AS} {o : Ob} (h : runXP S k nt ops st = some (l, o)) (ho : okO o) (hK : ∀ s ∈ l, ∀ x h, s = ⟨[(0, x)], h⟩ → Q (.panic x) ⟨[], h⟩) : SWP G C (.region id ops true) Q st := by
  subst hnt
  exact .draw _ _ rfl (runX_ok (run_ok S k) hQ _ _ _ _ h ho hK)
end
end Go.AS
namespace Go.Proofs.YtkblfapbakfgpaaGreatDoor
open Go.AS Go.RowKit
set_option linter.unusedVariables false
set_option linter.unusedSimpArgs false
set_option maxRecDepth 100000
set_option maxHeartbeats 4000000
namespace Seat
mutual
def Nd.pl : Nd → List PV
  | .mk _ _ _ ks a => [.int .i64 a, .slice ks.len ks.pl]
def Nds.pl : Nds → List PV
  | .nil => []
  | .cons d ds => d.pl ++ ds.pl
end
def pZ : Box := ⟨[.int .i64 0, .nil], 45⟩
def pBR (y : Nat) (x : PV) : Box := ⟨[.int .i64 y, x], 45⟩
def jR (rc : List PV) (m : Nat) : Row := ⟨rc, m, 24, 4⟩
def pR (rc : List PV) (m : Nat) : Row := ⟨rc, m, 45, 2⟩
def ndJ (x : Nd) : List PV := [.int .i64 (ndK x), .int .i64 (ndN x), .str (ndT x), .slice (Dats.len (Nds.dat (ndS x))) (Dats.cells (Nds.dat (ndS x)))]
def ndP (x : Nd) : List PV := [.int .i64 (ndA x), .slice (Nds.len (ndS x)) (Nds.pl (ndS x))]
def qX (s : ByteArray) (n a : Nat) : Nd := rdX s n (skp s a)
def qA (s : ByteArray) (n a : Nat) : Nat := rdA s n (skp s a)
def qE (s : ByteArray) (n a : Nat) : Int := rdE s n (skp s a)
def qF (s : ByteArray) (n a : Nat) : Int := rdF s n (skp s a)
def rF (s : ByteArray) (b : Int) : Box := ⟨[.str s, .int .i64 b], 101⟩
def RpR (s : ByteArray) (n a : Nat) (o : Out) (b : List Box) : Prop := (qE s n a = 0 ∧ o = .ret (.tup [.agg (ndJ (qX s n a)), .agg (ndP (qX s n a))]) ∧ b = [rP s (qA s n a)]) ∨ (qE s n a ≠ 0 ∧ o = .pan (faultV (qF s n a) (qE s n a)) ∧ b = [rF s (qF s n a)])
def RpAt (n : Nat) : Prop := ∀ s : ByteArray, s.size ≤ 1099511627776 → ∀ a, a ≤ s.size → PCalls G0 43 [.ptr 0 0, .int .i64 (1000 - (n : Int))] [rP s a] (RpR s n a)
noncomputable def pdS (f : Nat) (args : List PV) : Option (PV × Ob) := match f, args with
  | 57, [.int .u8 c] => some (.bool (letC c), [(decide (0 ≤ c ∧ c < 256), true)])
  | _, _ => none
theorem pdS_ok (f : Nat) (args : List PV) (r : PV) (o : Ob) (h : pdS f args = some (r, o)) (ho : ∀ p ∈ o, p.1 = p.2) (_ : pureL args = true) : Pure G0 f args (fun x => x = r) := by
  unfold pdS at h
  split at h
  · cases h; exact isAtom_ok _ (of_decide_eq_true (ho _ (List.mem_singleton.2 rfl)))
  · cases h
theorem atQ_some {s : ByteArray} {a : Nat} (h : atE s a = 0) : atQ (s.extract a (letE s a)) = some [.int .i64 (ndK (atX s a)), .int .i64 (ndN (atX s a)), .str (ndT (atX s a)), .nil] ∧ letE s a = atA s a := by
  obtain ⟨h1, h2⟩ := num_same (s.extract a (letE s a))
  unfold atE atX atA atQ at *
  unfold atomR at h ⊢
  rw [h1]
  split at h
  · rename_i hn
    rw [if_pos hn, if_pos hn]
    exact ⟨by rw [h2 hn]; rfl, rfl⟩
  · rename_i hn
    split at h
    · rename_i hs
      rw [if_neg hn, if_neg hn, if_pos hs, if_pos hs]
      exact ⟨rfl, rfl⟩
    · exact absurd h n4
theorem atQ_none {s : ByteArray} {a : Nat} (h : ¬ atE s a = 0) : atQ (s.extract a (letE s a)) = none ∧ atE s a = 4 ∧ atF s a = (a : Int) := by
  obtain ⟨h1, h2⟩ := num_same (s.extract a (letE s a))
  unfold atE atQ atF at *
  unfold atomR at h ⊢
  rw [h1]
  split at h
  · exact absurd rfl h
  · rename_i hn
    split at h
    · exact absurd rfl h
    · rename_i hs
      rw [if_neg hn, if_neg hn, if_neg hs, if_neg hs]
      exact ⟨rfl, rfl, rfl⟩
noncomputable def pdB (u : Bool) (n : Nat) (f : Nat) (args : List PV) (x : Box) : Option (PV × Box × Ob) := match f, args, x with
  | 44, [.ptr 0 0], ⟨[.str s, .int .i64 a], ty⟩ => match Nat.beq ty 101 with
    | true => some (.int .u8 (nxt s a.toNat), rP s (skp s a.toNat), [(decide (0 ≤ a ∧ a ≤ (s.size : Int)), true), (Nat.ble s.size 1099511627776, true)])
    | false => none
  | 58, [.ptr 0 0], ⟨[.str s, .int .i64 a], ty⟩ => match Nat.beq ty 101 with
    | true => some (.agg [.int .i64 (ndK (atX s a.toNat)), .int .i64 (ndN (atX s a.toNat)), .str (ndT (atX s a.toNat)), .nil], rP s (atA s a.toNat), [(decide (0 ≤ a ∧ a ≤ (s.size : Int)), true), (decide (atE s a.toNat = 0), true), (Nat.ble s.size 1099511627776, true)])
    | false => none
  | 43, [.ptr 0 0, .int .i64 w], ⟨[.str s, .int .i64 a], ty⟩ => match u && Nat.beq ty 101 with
    | true => some (.tup [.agg (ndJ (qX s n a.toNat)), .agg (ndP (qX s n a.toNat))], rP s (qA s n a.toNat), [(decide (0 ≤ a ∧ a ≤ (s.size : Int)), true), (decide (w = 1000 - (n : Int)), true), (decide (qE s n a.toNat = 0), true), (Nat.ble s.size 1099511627776, true)])
    | false => none
  | _, _, _ => none
theorem pdB_ok {u : Bool} {n : Nat} (ih : u = true → RpAt n) : ∀ f xs x r x' o, pdB u n f xs x = some (r, x', o) → (∀ p ∈ o, p.1 = p.2) → PCalls G0 f xs [x] (fun o' b' => o' = .ret r ∧ b' = [x']) ∧ r.sc 0 = true ∧ scL 0 x.cs = true ∧ scL 0 x'.cs = true := by
  intro f args x r b o h ho
  unfold pdB at h
  split at h
  · rename_i s a ty
    split at h
    · rename_i hc
      cases h
      simp only [Nat.beq_eq] at hc
      subst hc
      have h1 : 0 ≤ a ∧ a ≤ (s.size : Int) := of_decide_eq_true (ho (decide (0 ≤ a ∧ a ≤ (s.size : Int)), true) (by simp))
      have h2 : s.size ≤ 1099511627776 := Nat.le_of_ble_eq_true (ho (Nat.ble s.size 1099511627776, true) (by simp))
      have key := nextP_ok s h2 a.toNat (by omega)
      unfold rP at key
      rw [Int.toNat_of_nonneg h1.1] at key
      exact ⟨key, rfl, rfl, rfl⟩
    · cases h
  · rename_i s a ty
    split at h
    · rename_i hc
      cases h
      simp only [Nat.beq_eq] at hc
      subst hc
      have h1 : 0 ≤ a ∧ a ≤ (s.size : Int) := of_decide_eq_true (ho (decide (0 ≤ a ∧ a ≤ (s.size : Int)), true) (by simp))
      have h2 : s.size ≤ 1099511627776 := Nat.le_of_ble_eq_true (ho (Nat.ble s.size 1099511627776, true) (by simp))
      have h3 : atE s a.toNat = 0 := of_decide_eq_true (ho (decide (atE s a.toNat = 0), true) (by simp))
      have key := atomP s h2 a.toNat (by omega)
      obtain ⟨e1, e2⟩ := atQ_some h3
      rw [e1] at key
      unfold rP at key
      rw [Int.toNat_of_nonneg h1.1] at key
      refine ⟨key.mono fun o b h => ?_, rfl, rfl, rfl⟩
      rcases h with ⟨cs, g1, g2, g3⟩ | ⟨g1, _⟩
      · cases g1
        exact ⟨g2, by rw [g3, e2]; rfl⟩
      · cases g1
    · cases h
  · rename_i w s a ty
    split at h
    · rename_i hc
      cases h
      simp only [Nat.beq_eq, Bool.and_eq_true] at hc
      obtain ⟨hu, hc⟩ := hc
      subst hc
      have h1 : 0 ≤ a ∧ a ≤ (s.size : Int) := of_decide_eq_true (ho (decide (0 ≤ a ∧ a ≤ (s.size : Int)), true) (by simp))
      have h2 : s.size ≤ 1099511627776 := Nat.le_of_ble_eq_true (ho (Nat.ble s.size 1099511627776, true) (by simp))
      have h3 : w = 1000 - (n : Int) := of_decide_eq_true (ho (decide (w = 1000 - (n : Int)), true) (by simp))
      have h4 : qE s n a.toNat = 0 := of_decide_eq_true (ho (decide (qE s n a.toNat = 0), true) (by simp))
      have key := ih hu s h2 a.toNat (by omega)
      have e1 : rP s a.toNat = ⟨[.str s, .int .i64 a], 101⟩ := by unfold rP; rw [Int.toNat_of_nonneg h1.1]
      rw [e1, ← h3] at key
      refine ⟨key.mono fun o b h => ?_, rfl, rfl, rfl⟩
      rcases h with ⟨_, g2, g3⟩ | ⟨g1, _⟩
      · exact ⟨g2, g3⟩
      · exact absurd h4 g1
    · cases h
  · cases h
noncomputable def pdP (pn u : Bool) (n : Nat) (f : Nat) (args : List PV) (H : Hp) : Option (PV × Hp × Ob) := match f, args, H with
  | 45, [.ptr 0 0, .int .i64 e], ⟨[⟨[.str s, .int .i64 a], ty⟩], []⟩ => match Nat.beq ty 101 with
    | true => some (faultV a e, ⟨[⟨[.str s, .int .i64 a], ty⟩], []⟩, [(decide (0 ≤ a), true)])
    | false => none
  | 58, [.ptr 0 0], ⟨[⟨[.str s, .int .i64 a], ty⟩], []⟩ => match pn && Nat.beq ty 101 with
    | true => some (faultV a 4, ⟨[⟨[.str s, .int .i64 a], ty⟩], []⟩, [(decide (0 ≤ a ∧ a ≤ (s.size : Int)), true), (decide (atE s a.toNat = 0), false), (Nat.ble s.size 1099511627776, true)])
    | false => none
  | 43, [.ptr 0 0, .int .i64 w], ⟨[⟨[.str s, .int .i64 a], ty⟩], []⟩ => match pn && (u && Nat.beq ty 101) with
    | true => some (faultV (qF s n a.toNat) (qE s n a.toNat), ⟨[rF s (qF s n a.toNat)], []⟩, [(decide (0 ≤ a ∧ a ≤ (s.size : Int)), true), (decide (w = 1000 - (n : Int)), true), (decide (qE s n a.toNat = 0), false), (Nat.ble s.size 1099511627776, true)])
    | false => none
  | _, _, _ => none
theorem pdP_ok {pn u : Bool} {n : Nat} (ih : u = true → RpAt n) : ∀ f xs H x H' o, pdP pn u n f xs H = some (x, H', o) → (∀ p ∈ o, p.1 = p.2) → RCalls G0 f xs H (fun o' H2 => o' = .pan x ∧ H2 = H') ∧ x.scP (belowN H'.bx.length) (belowN H'.rw.length) = true ∧ H'.scB H'.bx.length H'.rw.length = true := by
  intro f xs H x H' o h ho
  have fin : ∀ {R : Out → List Box → Prop} {f : Nat} {args : List PV} {b b' : List Box} {x : PV}, PCalls G0 f args b R → (∀ o c, R o c → o = .pan x ∧ c = b') → RCalls G0 f args ⟨b, []⟩ (fun o' H2 => o' = .pan x ∧ H2 = ⟨b', []⟩) := fun hc hR => (PCalls.toR hc).mono fun o' H2 ⟨g1, g2⟩ => by
    obtain ⟨b2, r⟩ := H2
    simp only [] at g1 g2
    obtain ⟨e1, e2⟩ := hR _ _ g2
    rw [g1, e2]; exact ⟨e1, rfl⟩
  unfold pdP at h
  split at h
  · rename_i e s a ty
    split at h
    · rename_i hc
      cases h
      simp only [Nat.beq_eq] at hc
      subst hc
      have h1 : 0 ≤ a := of_decide_eq_true (ho _ (List.mem_singleton.2 rfl))
      have key := failP s a.toNat e
      unfold rP faultV at key
      rw [Int.toNat_of_nonneg h1] at key
      exact ⟨fin key (fun o c h => h), rfl, rfl⟩
    · cases h
  · rename_i s a ty
    split at h
    · rename_i hc
      cases h
      simp only [Nat.beq_eq, Bool.and_eq_true] at hc
      obtain ⟨_, hc⟩ := hc
      subst hc
      have h1 : 0 ≤ a ∧ a ≤ (s.size : Int) := of_decide_eq_true (ho (decide (0 ≤ a ∧ a ≤ (s.size : Int)), true) (by simp))
      have h2 : s.size ≤ 1099511627776 := Nat.le_of_ble_eq_true (ho (Nat.ble s.size 1099511627776, true) (by simp))
      have h3 : ¬ atE s a.toNat = 0 := of_decide_eq_false (ho (decide (atE s a.toNat = 0), false) (by simp))
      have key := atomP s h2 a.toNat (by omega)
      rw [(atQ_none h3).1] at key
      unfold rP at key
      rw [Int.toNat_of_nonneg h1.1] at key
      refine ⟨fin key (fun o c h => ?_), rfl, rfl⟩
      rcases h with ⟨cs, g1, _⟩ | ⟨_, g2, g3⟩
      · cases g1
      · exact ⟨g2, g3⟩
    · cases h
  · rename_i w s a ty
    split at h
    · rename_i hc
      cases h
      simp only [Nat.beq_eq, Bool.and_eq_true] at hc
      obtain ⟨_, hu, hc⟩ := hc
      subst hc
      have h1 : 0 ≤ a ∧ a ≤ (s.size : Int) := of_decide_eq_true (ho (decide (0 ≤ a ∧ a ≤ (s.size : Int)), true) (by simp))
      have h2 : s.size ≤ 1099511627776 := Nat.le_of_ble_eq_true (ho (Nat.ble s.size 1099511627776, true) (by simp))
      have h3 : w = 1000 - (n : Int) := of_decide_eq_true (ho (decide (w = 1000 - (n : Int)), true) (by simp))
      have h4 : ¬ qE s n a.toNat = 0 := of_decide_eq_false (ho (decide (qE s n a.toNat = 0), false) (by simp))
      have key := ih hu s h2 a.toNat (by omega)
      have e1 : rP s a.toNat = ⟨[.str s, .int .i64 a], 101⟩ := by unfold rP; rw [Int.toNat_of_nonneg h1.1]
      rw [e1, ← h3] at key
      refine ⟨fin key (fun o c h => ?_), rfl, rfl⟩
      rcases h with ⟨g1, _⟩ | ⟨_, g2, g3⟩
      · exact absurd g1 h4
      · exact ⟨g2, g3⟩
    · cases h
  · cases h
noncomputable def SPd (pn u : Bool) (n : Nat) (ih : u = true → RpAt n) (l : List (Nat × List (Nat × Bool))) (v : List (Nat × List (Nat × PV))) : Cfg G0 := { F := F, hF := hF, S := pdS, hS := pdS_ok, B := pdB u n, hB := pdB_ok ih, D := fun f => Nat.beq f 43 || Nat.beq f 58, orc := orcM l, val := valM v, pn := fun f => Nat.beq f 45 || (pn && (Nat.beq f 58 || Nat.beq f 43)), P := pdP pn u n, hP := pdP_ok ih }
mutual
theorem Nd.pl_nz : ∀ d : Nd, nzL d.pl = d.pl
  | .mk k n s ks a => by simp only [Nd.pl, nzL, PV.nz, Nds.pl_nz ks]
theorem Nds.pl_nz : ∀ ds : Nds, nzL ds.pl = ds.pl
  | .nil => rfl
  | .cons d ds => by simp only [Nds.pl, nzL_app, Nd.pl_nz d, Nds.pl_nz ds]
end
theorem ndJ_eq (x : Nd) : ndJ x = x.dat.cells := by obtain ⟨k, n, t, ks, a⟩ := x; rfl
theorem ndP_eq (x : Nd) : ndP x = x.pl := by obtain ⟨k, n, t, ks, a⟩ := x; rfl
theorem Nds.snoc_pl : ∀ (ds : Nds) (x : Nd), (ds.snoc x).pl = ds.pl ++ x.pl
  | .nil, x => by simp [Nds.snoc, Nds.pl]
  | .cons d ds, x => by simp only [Nds.snoc, Nds.pl, Nds.snoc_pl ds x, List.append_assoc]
theorem Nds.snoc_dc : ∀ (ds : Nds) (x : Nd), (ds.snoc x).dat.cells = ds.dat.cells ++ x.dat.cells
  | .nil, x => by simp [Nds.snoc, Nds.dat, Dats.cells]
  | .cons d ds, x => by simp only [Nds.snoc, Nds.dat, Dats.cells, Nds.snoc_dc ds x, List.append_assoc]
theorem skp_skp (s : ByteArray) (a : Nat) : skp s (skp s a) = skp s a := by
  rcases Nat.lt_or_ge (skp s a) s.size with h | h
  · obtain ⟨g1, g2⟩ := clean_skp s a h
    rw [skp_eq s (skp s a), if_pos h, if_neg (by rw [g1]; decide), if_neg g2]
  · exact skp_out s _ h
theorem nxt_in (s : ByteArray) (a : Nat) : decide (0 ≤ nxt s a ∧ nxt s a < 256) = true := by
  unfold nxt
  split
  · exact decide_eq_true (bt_in s _)
  · rfl
theorem rdL_err {s : ByteArray} {n x k : Nat} {l : Nds} (hg : goes s ⟨x, 0, 0⟩ = true) (he : ¬ rdE s n x = 0) : (rdL (rdD s n) s (k + 1) ⟨x, 0, 0⟩ l).2.e = rdE s n x ∧ (rdL (rdD s n) s (k + 1) ⟨x, 0, 0⟩ l).2.b = rdF s n x := by
  rw [rdL, if_pos hg]
  have : goes s ⟨skp s (rdD s n x).2.a, (rdD s n x).2.e, (rdD s n x).2.b⟩ = false := goes_err he
  rw [rdL_stop this]
  exact ⟨rfl, rfl⟩
theorem goes_at0 (s : ByteArray) (x : Nat) : goes s ⟨x, 0, 0⟩ = !(decide (x < s.size) && bt s (x : Int) == 41) := rfl
theorem rp_step (u : Bool) (n : Nat) (ih : u = true → RpAt n) (N : Nat) (h1 : u = true → N = n + 1) (h0 : u = false → N = 0) (hN : N ≤ 1000) : RpAt N := by
  intro s hs a ha
  obtain ⟨w, hw⟩ : ∃ w : Int, w = 1000 - (N : Int) := ⟨_, rfl⟩
  rw [← hw]
  refine PCalls.nz ?_
  refine Fn.enterB Tryz.func43 Tryz.ntmps43 rfl (Nat.le_of_ble_eq_true rfl) fun C fr fp hnt hnb hp hfr hfp => ?_
  have hss : Nat.ble s.size 1099511627776 = true := Nat.ble_eq_true_of_le hs
  obtain ⟨y, hy⟩ : ∃ y, y = skp s a := ⟨_, rfl⟩
  have hy2 : y ≤ s.size := by rw [hy]; exact skp_le s a ha
  have hcl : skp s y = y := by rw [hy]; exact skp_skp s a
  have eq := rdD_eq s N y
  have fin : ∀ st d p z bx rw', nrm [4, 5] st = ⟨[(4, .ptr 1 0), (5, .ptr 2 0)], ⟨rP s z :: ⟨d, 24⟩ :: ⟨p, 45⟩ :: bx, rw'⟩⟩ → d.length = 4 → p.length = 2 → scL 1 d = true → scL 1 p = true → (∃ X, rdD s N y = (X, ⟨z, 0, 0⟩) ∧ nzL d = X.dat.cells ∧ nzL p = X.pl) → fr st := fun st d p z bx rw' hst l1 l2 s1 s2 ⟨X, g1, g2, g3⟩ => hfr st [4, 5] (by
    have a1 : qX s N a = X := by unfold qX rdX; rw [← hy, g1]
    have a2 : qA s N a = z := by unfold qA rdA; rw [← hy, g1]
    have a3 : qE s N a = 0 := by unfold qE rdE; rw [← hy, g1]
    rw [hst]
    refine ⟨1, .tup [.agg d, .agg p], Nat.le_refl _, Nat.le_add_left _ _, ?_, ?_, rfl, .inl ⟨a3, ?_, ?_⟩⟩
    · match d, l1, p, l2 with
      | [d1, d2, d3, d4], _, [p1, p2], _ => rfl
    · simp only [PV.sc, scL, s1, s2, Bool.and_true] at *
    · show Out.ret (.tup [.agg (nzL d), .agg (nzL p)]) = _
      rw [g2, g3, a1, ndJ_eq, ndP_eq]
    · rw [a2]; rfl)
  have pan : ∀ st (x e : Int) bx rw', st.h = ⟨rF s x :: bx, rw'⟩ → e ≠ 0 → rdE s N y = e → rdF s N y = x → fp (faultV x e) st := fun st x e bx rw' hst he g1 g2 => hfp _ st (by
    have a3 : qE s N a = e := by unfold qE; rw [← hy]; exact g1
    have a4 : qF s N a = x := by unfold qF; rw [← hy]; exact g2
    refine ⟨1, Nat.le_refl _, by rw [hst]; exact Nat.le_add_left _ _, rfl, by rw [hst]; rfl, .inr ⟨by rw [a3]; exact he, ?_, ?_⟩⟩
    · rw [a3, a4]; rfl
    · rw [hst, a4]; rfl)
  have dy : decide (0 ≤ (a : Int) ∧ (a : Int) ≤ (s.size : Int)) = true := by rw [decide_eq_true_eq]; omega
  have dyy : decide (0 ≤ (y : Int) ∧ (y : Int) ≤ (s.size : Int)) = true := by rw [decide_eq_true_eq]; omega
  have dy0 : decide (0 ≤ (y : Int)) = true := by rw [decide_eq_true_eq]; omega
  refine Q.runSeq (SPd false u n ih [] []) 100 121 hnt [0, 1, 4, 5] (z := ⟨[(0, .ptr 0 0), (1, .int .i64 w), (4, .ptr 1 0), (5, .ptr 2 0)], ⟨[⟨[.str s, .int .i64 (Int.ofNat a)], 101⟩, ⟨[.int .i64 (0 : Int), .int .i64 (0 : Int), .str ⟨#[]⟩, PV.nil], 24⟩, ⟨[.int .i64 (0 : Int), PV.nil], 45⟩], []⟩⟩) (o := []) (by kernel_rfl) (by repeat' first | exact okO_nil | refine okN ?_ ?_ | assumption | rfl) ?_
  refine Q.runSeq (SPd false u n ih [] []) 100 121 hnt [0, 1, 4, 5, 6] (z := ⟨[(0, .ptr 0 0), (1, .int .i64 w), (4, .ptr 1 0), (5, .ptr 2 0), (6, PV.int IntKind.u8 (if skp s (Int.toNat (↑a : Int)) < ByteArray.size s then bt s (Int.ofNat (skp s (Int.toNat (Int.ofNat a)))) else (0 : Int)))], ⟨[⟨[.str s, .int .i64 (Int.ofNat (skp s (Int.toNat (Int.ofNat a))))], 101⟩, ⟨[.int .i64 (0 : Int), .int .i64 (0 : Int), .str ⟨#[]⟩, PV.nil], 24⟩, ⟨[.int .i64 (0 : Int), PV.nil], 45⟩], []⟩⟩) (o := [(decide (0 ≤ (↑a : Int) ∧ (↑a : Int) ≤ (↑(ByteArray.size s) : Int)), true), (Nat.ble (ByteArray.size s) 1099511627776, true)]) (by kernel_rfl) (by repeat' first | exact okO_nil | refine okN ?_ ?_ | assumption | rfl) ?_
  obtain ⟨c, hc⟩ : ∃ c, c = nxt s a := ⟨_, rfl⟩
  have hc8 : decide (0 ≤ c ∧ c < 256) = true := by rw [hc]; exact nxt_in s a
  show SWP G0 C _ _ ⟨[(0, .ptr 0 0), (1, .int .i64 w), (4, .ptr 1 0), (5, .ptr 2 0), (6, .int .u8 (nxt s a))], ⟨[rP s (skp s a), dZ, pZ], []⟩⟩
  rw [← hc, ← hy]
  rw [nxt, ← hy] at hc
  refine Q.runSeq (SPd false u n ih [] []) 100 121 hnt [0, 1, 4, 5, 6, 7] (z := ⟨[(0, .ptr 0 0), (1, .int .i64 w), (4, .ptr 1 0), (5, .ptr 2 0), (6, PV.int IntKind.u8 c), (7, .ptr 3 0)], ⟨[⟨[.str s, .int .i64 (Int.ofNat y)], 101⟩, ⟨[.int .i64 (0 : Int), .int .i64 (0 : Int), .str ⟨#[]⟩, PV.nil], 24⟩, ⟨[.int .i64 (0 : Int), PV.nil], 45⟩, ⟨[.int .i64 (Int.ofNat y), PV.nil], 45⟩], []⟩⟩) (o := []) (by kernel_rfl) (by repeat' first | exact okO_nil | refine okN ?_ ?_ | assumption | rfl) ?_
  by_cases hb : c ≠ 40 ∧ c ≠ 39 ∧ letC c = false
  · have e22 := hb.2.2
    have e25 := beqF hb.1
    have e29 := beqF hb.2.1
    refine Q.runSeq (SPd false u n ih [(121, [(22, false), (25, false), (29, false)])] []) 100 121 hnt [0, 1, 4, 5, 6, 7, 8] (z := ⟨[(0, .ptr 0 0), (1, .int .i64 w), (4, .ptr 1 0), (5, .ptr 2 0), (6, PV.int IntKind.u8 c), (7, .ptr 3 0), (8, .bool false)], ⟨[⟨[.str s, .int .i64 (Int.ofNat y)], 101⟩, ⟨[.int .i64 (0 : Int), .int .i64 (0 : Int), .str ⟨#[]⟩, PV.nil], 24⟩, ⟨[.int .i64 (0 : Int), PV.nil], 45⟩, ⟨[.int .i64 (Int.ofNat y), PV.nil], 45⟩], []⟩⟩) (o := [(true, true), (decide (0 ≤ c ∧ c < 256), true), (letC c, false), (c == (40 : Int), false), (c == (39 : Int), false)]) (by kernel_rfl) (by repeat' first | exact okO_nil | refine okN ?_ ?_ | assumption | rfl) ?_
    refine Q.runSeq (SPd false u n ih [] []) 100 121 hnt [0, 1, 4, 5, 6, 7] (z := ⟨[(0, .ptr 0 0), (1, .int .i64 w), (4, .ptr 1 0), (5, .ptr 2 0), (6, PV.int IntKind.u8 c), (7, .ptr 3 0)], ⟨[⟨[.str s, .int .i64 (Int.ofNat y)], 101⟩, ⟨[.int .i64 (0 : Int), .int .i64 (0 : Int), .str ⟨#[]⟩, PV.nil], 24⟩, ⟨[.int .i64 (0 : Int), PV.nil], 45⟩, ⟨[.int .i64 (Int.ofNat y), PV.nil], 45⟩], []⟩⟩) (o := []) (by kernel_rfl) (by repeat' first | exact okO_nil | refine okN ?_ ?_ | assumption | rfl) ?_
    have key : rdE s N y = 4 ∧ rdF s N y = (y : Int) := by
      unfold rdE rdF
      rcases Nat.lt_or_ge y s.size with hl | hg
      · rw [if_pos hl] at hc
        rw [eq, if_neg (by omega), if_pos ⟨by rw [← hc]; exact hb.1, by rw [← hc]; exact hb.2.1, by rw [← hc]; exact hb.2.2⟩]
        exact ⟨rfl, rfl⟩
      · rw [eq, if_pos hg]
        have : y = s.size := by omega
        exact ⟨rfl, by rw [this]⟩
    exact SWP.runQ (SPd true u n ih [(121, [(40, false), (46, false), (86, false)])] []) 100 121 hnt [] (e := .panic (faultV y 4)) (z := ⟨[], ⟨[⟨[.str s, .int .i64 (Int.ofNat y)], 101⟩, ⟨[.int .i64 (0 : Int), .int .i64 (0 : Int), .str ⟨#[]⟩, PV.nil], 24⟩, ⟨[.int .i64 (0 : Int), PV.nil], 45⟩, ⟨[.int .i64 (Int.ofNat y), PV.nil], 45⟩], []⟩⟩) (o := [(true, true), (decide (0 ≤ c ∧ c < 256), true), (letC c, false), (c == (40 : Int), false), (c == (39 : Int), false), (true, true)]) (by kernel_rfl) (by repeat' first | exact okO_nil | refine okN ?_ ?_ | assumption | rfl) (fun st hst => pan st y 4 _ _ (congrArg AS.h hst) (by decide) key.1 key.2)
  have hlt : y < s.size := by
    rcases Nat.lt_or_ge y s.size with hl | hg
    · exact hl
    · rw [if_neg (by omega)] at hc
      exact absurd ⟨by rw [hc]; decide, by rw [hc]; decide, by rw [hc]; decide⟩ hb
  rw [if_pos hlt] at hc
  rw [if_neg (by omega), ← hc, if_neg hb] at eq
  have beg : ∀ {Q : AEx → AS → Prop} {c0 : Code}, SWP G0 C c0 Q ⟨[(0, .ptr 0 0), (1, .int .i64 w), (4, .ptr 1 0), (5, .ptr 2 0), (6, .int .u8 c), (7, .ptr 3 0), (8, .bool true)], ⟨[rP s y, dZ, pZ, pBR y .nil], []⟩⟩ → SWP G0 C c0 Q ⟨[(0, .ptr 0 0), (1, .int .i64 w), (4, .ptr 1 0), (5, .ptr 2 0), (6, .int .u8 c), (7, .ptr 3 0), (8, .bool true)], ⟨[rP s y, dZ, pZ, pBR y .nil], []⟩⟩ := fun h => h
  refine Q.seq fun K3 hK3 => ?_
  suffices hmain : SWP G0 C _ _ ⟨[(0, .ptr 0 0), (1, .int .i64 w), (4, .ptr 1 0), (5, .ptr 2 0), (6, .int .u8 c), (7, .ptr 3 0), (8, .bool true)], ⟨[rP s y, dZ, pZ, pBR y .nil], []⟩⟩ by
    have go : ∀ st, nrm [0, 1, 4, 5, 6, 7, 8] st = ⟨[(0, .ptr 0 0), (1, .int .i64 w), (4, .ptr 1 0), (5, .ptr 2 0), (6, .int .u8 c), (7, .ptr 3 0), (8, .bool true)], ⟨[rP s y, dZ, pZ, pBR y .nil], []⟩⟩ → K3 st := fun st hst => hK3 st (.norm [0, 1, 4, 5, 6, 7, 8] (by rw [hst]; exact hmain))
    cases e22 : letC c with
    | true => exact SWP.runQ (SPd false u n ih [(121, [(22, true)])] []) 100 121 hnt [0, 1, 4, 5, 6, 7, 8] (e := .normal) (z := ⟨[(0, .ptr 0 0), (1, .int .i64 w), (4, .ptr 1 0), (5, .ptr 2 0), (6, PV.int IntKind.u8 c), (7, .ptr 3 0), (8, .bool true)], ⟨[⟨[.str s, .int .i64 (Int.ofNat y)], 101⟩, ⟨[.int .i64 (0 : Int), .int .i64 (0 : Int), .str ⟨#[]⟩, PV.nil], 24⟩, ⟨[.int .i64 (0 : Int), PV.nil], 45⟩, ⟨[.int .i64 (Int.ofNat y), PV.nil], 45⟩], []⟩⟩) (o := [(true, true), (decide (0 ≤ c ∧ c < 256), true), (letC c, true)]) (by kernel_rfl) (by repeat' first | exact okO_nil | refine okN ?_ ?_ | assumption | rfl) go
    | false =>
      by_cases e40 : c = 40
      · have e25 := beqT e40
        exact SWP.runQ (SPd false u n ih [(121, [(22, false), (25, true)])] []) 100 121 hnt [0, 1, 4, 5, 6, 7, 8] (e := .normal) (z := ⟨[(0, .ptr 0 0), (1, .int .i64 w), (4, .ptr 1 0), (5, .ptr 2 0), (6, PV.int IntKind.u8 c), (7, .ptr 3 0), (8, .bool true)], ⟨[⟨[.str s, .int .i64 (Int.ofNat y)], 101⟩, ⟨[.int .i64 (0 : Int), .int .i64 (0 : Int), .str ⟨#[]⟩, PV.nil], 24⟩, ⟨[.int .i64 (0 : Int), PV.nil], 45⟩, ⟨[.int .i64 (Int.ofNat y), PV.nil], 45⟩], []⟩⟩) (o := [(true, true), (decide (0 ≤ c ∧ c < 256), true), (letC c, false), (c == (40 : Int), true)]) (by kernel_rfl) (by repeat' first | exact okO_nil | refine okN ?_ ?_ | assumption | rfl) go
      · have e25 := beqF e40
        have e39 : c = 39 := by
          by_cases h : c = 39
          · exact h
          · exact absurd ⟨e40, h, e22⟩ hb
        have e29 := beqT e39
        exact SWP.runQ (SPd false u n ih [(121, [(22, false), (25, false), (29, true)])] []) 100 121 hnt [0, 1, 4, 5, 6, 7, 8] (e := .normal) (z := ⟨[(0, .ptr 0 0), (1, .int .i64 w), (4, .ptr 1 0), (5, .ptr 2 0), (6, PV.int IntKind.u8 c), (7, .ptr 3 0), (8, .bool true)], ⟨[⟨[.str s, .int .i64 (Int.ofNat y)], 101⟩, ⟨[.int .i64 (0 : Int), .int .i64 (0 : Int), .str ⟨#[]⟩, PV.nil], 24⟩, ⟨[.int .i64 (0 : Int), PV.nil], 45⟩, ⟨[.int .i64 (Int.ofNat y), PV.nil], 45⟩], []⟩⟩) (o := [(true, true), (decide (0 ≤ c ∧ c < 256), true), (letC c, false), (c == (40 : Int), false), (c == (39 : Int), true)]) (by kernel_rfl) (by repeat' first | exact okO_nil | refine okN ?_ ?_ | assumption | rfl) go
  clear hK3 K3 beg
  cases u with
  | false =>
    obtain rfl := h0 rfl
    have e34 : decide (1000 ≤ w) = true := by rw [decide_eq_true_eq]; omega
    refine Q.seq fun K hK => ?_
    exact SWP.runQ (SPd true false n ih [(121, [(34, true)])] []) 100 121 hnt [] (e := .panic (faultV y 3)) (z := ⟨[], ⟨[⟨[.str s, .int .i64 (Int.ofNat y)], 101⟩, ⟨[.int .i64 (0 : Int), .int .i64 (0 : Int), .str ⟨#[]⟩, PV.nil], 24⟩, ⟨[.int .i64 (0 : Int), PV.nil], 45⟩, ⟨[.int .i64 (Int.ofNat y), PV.nil], 45⟩], []⟩⟩) (o := [(decide (1000 ≤ w), true), (true, true)]) (by kernel_rfl) (by repeat' first | exact okO_nil | refine okN ?_ ?_ | assumption | rfl) (fun st hst => pan st y 3 _ _ (congrArg AS.h hst) (by decide) (by unfold rdE; rw [eq]) (by unfold rdF; rw [eq]))
  | true =>
  obtain rfl := h1 rfl
  have e34 : decide (1000 ≤ w) = false := by rw [decide_eq_false_iff_not]; omega
  refine Q.runSeq (SPd false true n ih [(121, [(34, false)])] []) 100 121 hnt [0, 1, 4, 5, 6, 7] (z := ⟨[(0, .ptr 0 0), (1, .int .i64 w), (4, .ptr 1 0), (5, .ptr 2 0), (6, PV.int IntKind.u8 c), (7, .ptr 3 0)], ⟨[⟨[.str s, .int .i64 (Int.ofNat y)], 101⟩, ⟨[.int .i64 (0 : Int), .int .i64 (0 : Int), .str ⟨#[]⟩, PV.nil], 24⟩, ⟨[.int .i64 (0 : Int), PV.nil], 45⟩, ⟨[.int .i64 (Int.ofNat y), PV.nil], 45⟩], []⟩⟩) (o := [(decide (1000 ≤ w), false)]) (by kernel_rfl) (by repeat' first | exact okO_nil | refine okN ?_ ?_ | assumption | rfl) ?_
  have w2 : IntKind.wrap IntKind.i64 (w + 1) = 1000 - (n : Int) := by rw [IntKind.wrap_i64]; omega
  have wy : IntKind.wrap IntKind.i64 (Int.ofNat (y + 1)) = ((y + 1 : Nat) : Int) := wrapI (y + 1) (by omega)
  have fw : decide (IntKind.wrap IntKind.i64 (w + 1) = 1000 - (n : Int)) = true := by rw [w2]; exact decide_eq_true rfl
  simp only [] at eq
  cases e40l : letC c with
  | true =>
    have c39 : ¬ c = 39 := fun h => by rw [h] at e40l; exact absurd e40l (by decide)
    rw [if_neg (fun g => c39 g.1), if_pos e40l] at eq
    by_cases he : atE s y = 0
    · have d3 := decide_eq_true he
      have eq2 : rdD s (n + 1) y = (atX s y, ⟨atA s y, 0, 0⟩) := by
        rw [eq]
        have hb0 : (atomR s y).2.b = 0 := by
          unfold atE at he
          unfold atomR at he ⊢
          split at he
          · rename_i h; rw [if_pos h]
          · rename_i h
            split at he
            · rename_i h'; rw [if_neg h, if_pos h']
            · exact absurd he n4
        have : (atomR s y).2 = ⟨atA s y, atE s y, (atomR s y).2.b⟩ := rfl
        rw [he, hb0] at this
        exact Prod.ext rfl this
      have hks : ndS (atX s y) = .nil := by
        unfold atX atomR
        split
        · rfl
        · split <;> rfl
      have hka : ndA (atX s y) = (y : Int) := by
        unfold atE at he
        unfold atX
        unfold atomR at he ⊢
        split at he
        · rename_i h; rw [if_pos h]; rfl
        · rename_i h
          split at he
          · rename_i h'; rw [if_neg h, if_pos h']; rfl
          · exact absurd he n4
      refine Q.seq fun K9 hK9 => ?_
      refine Q.block ?_
      refine Q.runSeq (SPd false true n ih [(121, [(40, true)])] []) 100 121 hnt [0, 4, 5, 7, 38] (z := ⟨[(0, .ptr 0 0), (4, .ptr 1 0), (5, .ptr 2 0), (7, .ptr 3 0), (38, .bool true)], ⟨[⟨[.str s, .int .i64 (Int.ofNat y)], 101⟩, ⟨[.int .i64 (0 : Int), .int .i64 (0 : Int), .str ⟨#[]⟩, PV.nil], 24⟩, ⟨[.int .i64 (0 : Int), PV.nil], 45⟩, ⟨[.int .i64 (Int.ofNat y), PV.nil], 45⟩], []⟩⟩) (o := [(true, true), (decide (0 ≤ c ∧ c < 256), true), (letC c, true)]) (by kernel_rfl) (by repeat' first | exact okO_nil | refine okN ?_ ?_ | assumption | rfl) ?_
      refine Q.cond (b := true) rfl (fun _ => ?_) (fun h => by cases h)
      refine Q.seq fun K hK => ?_
      refine SWP.runLQ (SPd false true n ih [] []) 100 121 hnt [4, 5] (l := List.replicate 3 { t := [(4, PV.ptr 1 0), (5, PV.ptr 2 0)], h := { bx := [{ cs := [PV.str s, PV.int IntKind.i64 (Int.ofNat (atA s (Int.toNat (Int.ofNat y))))], ty := 101 }, { cs := [PV.int IntKind.i64 (ndK (atX s (Int.toNat (↑y : Int)))), PV.int IntKind.i64 (ndN (atX s (Int.toNat (↑y : Int)))), PV.str (ndT (atX s (Int.toNat (↑y : Int)))), PV.nil], ty := 24 }, { cs := [PV.int IntKind.i64 (Int.ofNat y), PV.nil], ty := 45 }, { cs := [PV.int IntKind.i64 (Int.ofNat y), PV.nil], ty := 45 }], rw := [] } }) (o := [(decide (0 ≤ (↑y : Int) ∧ (↑y : Int) ≤ (↑(ByteArray.size s) : Int)), true), (decide (atE s (Int.toNat (↑y : Int)) = 0), true), (Nat.ble (ByteArray.size s) 1099511627776, true), (decide (0 ≤ (↑y : Int) ∧ (↑y : Int) ≤ (↑(ByteArray.size s) : Int)), true), (decide (atE s (Int.toNat (↑y : Int)) = 0), true), (Nat.ble (ByteArray.size s) 1099511627776, true)]) (by kernel_rfl) (by repeat' first | exact okO_nil | refine okN ?_ ?_ | assumption | rfl) (fun st hst => hK st (.norm [4, 5] ?_))
      rw [List.eq_of_mem_replicate hst]
      exact .ret (fin _ _ _ (atA s y) _ _ rfl rfl rfl rfl rfl ⟨atX s y, eq2, by rw [← ndJ_eq]; unfold ndJ; rw [hks]; rfl, by rw [← ndP_eq]; unfold ndP; rw [hks, hka]; rfl⟩)
    · have d3 : decide (atE s (Int.toNat (y : Int)) = 0) = false := by rw [Int.toNat_natCast]; exact decide_eq_false he
      obtain ⟨_, k1, k2⟩ := atQ_none he
      refine Q.seq fun K9 hK9 => ?_
      refine Q.block ?_
      refine Q.runSeq (SPd false true n ih [(121, [(40, true)])] []) 100 121 hnt [0, 4, 5, 7, 38] (z := ⟨[(0, .ptr 0 0), (4, .ptr 1 0), (5, .ptr 2 0), (7, .ptr 3 0), (38, .bool true)], ⟨[⟨[.str s, .int .i64 (Int.ofNat y)], 101⟩, ⟨[.int .i64 (0 : Int), .int .i64 (0 : Int), .str ⟨#[]⟩, PV.nil], 24⟩, ⟨[.int .i64 (0 : Int), PV.nil], 45⟩, ⟨[.int .i64 (Int.ofNat y), PV.nil], 45⟩], []⟩⟩) (o := [(true, true), (decide (0 ≤ c ∧ c < 256), true), (letC c, true)]) (by kernel_rfl) (by repeat' first | exact okO_nil | refine okN ?_ ?_ | assumption | rfl) ?_
      refine Q.cond (b := true) rfl (fun _ => ?_) (fun h => by cases h)
      refine Q.seq fun K hK => ?_
      refine SWP.runXQ (SPd true true n ih [] []) 100 121 hnt hp.q (l := List.replicate 2 { t := [(0, PV.iface 116 (PV.agg [PV.int IntKind.i64 (Int.ofNat y), PV.int IntKind.i64 (4 : Int)]))], h := { bx := [{ cs := [PV.str s, PV.int IntKind.i64 (Int.ofNat y)], ty := 101 }, { cs := [PV.int IntKind.i64 (0 : Int), PV.int IntKind.i64 (0 : Int), PV.str { data := #[] }, PV.nil], ty := 24 }, { cs := [PV.int IntKind.i64 (0 : Int), PV.nil], ty := 45 }, { cs := [PV.int IntKind.i64 (Int.ofNat y), PV.nil], ty := 45 }], rw := [] } }) (o := [(decide (0 ≤ (↑y : Int) ∧ (↑y : Int) ≤ (↑(ByteArray.size s) : Int)), true), (decide (atE s (Int.toNat (↑y : Int)) = 0), false), (Nat.ble (ByteArray.size s) 1099511627776, true), (decide (0 ≤ (↑y : Int) ∧ (↑y : Int) ≤ (↑(ByteArray.size s) : Int)), true), (decide (atE s (Int.toNat (↑y : Int)) = 0), false), (Nat.ble (ByteArray.size s) 1099511627776, true)]) (by kernel_rfl) (by repeat' first | exact okO_nil | refine okN ?_ ?_ | assumption | rfl) ?_
      intro st hst x h e
      rw [List.eq_of_mem_replicate hst] at e
      cases e
      exact pan _ y 4 _ _ rfl (by decide) (by unfold rdE; rw [eq]; exact k1) (by unfold rdF; rw [eq]; exact k2)
  | false =>
  have nl : ¬ letC c = true := by rw [e40l]; decide
  refine Q.seq fun K9 hK9 => ?_
  refine Q.block ?_
  refine Q.runSeq (SPd false true n ih [(121, [(40, false)])] []) 100 121 hnt [0, 1, 4, 5, 6, 7, 38] (z := ⟨[(0, .ptr 0 0), (1, .int .i64 w), (4, .ptr 1 0), (5, .ptr 2 0), (6, PV.int IntKind.u8 c), (7, .ptr 3 0), (38, .bool false)], ⟨[⟨[.str s, .int .i64 (Int.ofNat y)], 101⟩, ⟨[.int .i64 (0 : Int), .int .i64 (0 : Int), .str ⟨#[]⟩, PV.nil], 24⟩, ⟨[.int .i64 (0 : Int), PV.nil], 45⟩, ⟨[.int .i64 (Int.ofNat y), PV.nil], 45⟩], []⟩⟩) (o := [(true, true), (decide (0 ≤ c ∧ c < 256), true), (letC c, false)]) (by kernel_rfl) (by repeat' first | exact okO_nil | refine okN ?_ ?_ | assumption | rfl) ?_
  refine Q.cond (b := false) rfl (fun h => by cases h) (fun _ => ?_)
  by_cases h40 : c = 40
  · -- a list
    have e46 := beqT h40
    have h39 : ¬ c = 39 := by omega
    rw [if_neg (fun g => h39 g.1), if_neg nl, if_neg h39] at eq
    refine Q.runSeq (SPd false true n ih [(121, [(46, true)])] []) 100 121 hnt [0, 1, 4, 5, 6, 7, 44] (z := ⟨[(0, .ptr 0 0), (1, .int .i64 w), (4, .ptr 1 0), (5, .ptr 2 0), (6, PV.int IntKind.u8 c), (7, .ptr 3 0), (44, .bool true)], ⟨[⟨[.str s, .int .i64 (Int.ofNat y)], 101⟩, ⟨[.int .i64 (0 : Int), .int .i64 (0 : Int), .str ⟨#[]⟩, PV.nil], 24⟩, ⟨[.int .i64 (0 : Int), PV.nil], 45⟩, ⟨[.int .i64 (Int.ofNat y), PV.nil], 45⟩], []⟩⟩) (o := [(c == (40 : Int), true)]) (by kernel_rfl) (by repeat' first | exact okO_nil | refine okN ?_ ?_ | assumption | rfl) ?_
    refine Q.cond (b := true) rfl (fun _ => ?_) (fun h => by cases h)
    refine Q.runSeq (SPd false true n ih [] []) 100 121 hnt [0, 1, 4, 5, 7] (z := ⟨[(0, .ptr 0 0), (1, .int .i64 w), (4, .ptr 1 0), (5, .ptr 2 0), (7, .ptr 3 0)], ⟨[⟨[.str s, .int .i64 (IntKind.wrap IntKind.i64 (Int.ofNat (y + 1)))], 101⟩, ⟨[.int .i64 (0 : Int), .int .i64 (0 : Int), .str ⟨#[]⟩, PV.nil], 24⟩, ⟨[.int .i64 (0 : Int), PV.nil], 45⟩, ⟨[.int .i64 (Int.ofNat y), PV.nil], 45⟩], []⟩⟩) (o := []) (by kernel_rfl) (by repeat' first | exact okO_nil | refine okN ?_ ?_ | assumption | rfl) ?_
    rw [wy]
    obtain ⟨x0, hx0⟩ : ∃ x, x = y + 1 := ⟨_, rfl⟩
    show SWP G0 C _ _ ⟨[(0, .ptr 0 0), (1, .int .i64 w), (4, .ptr 1 0), (5, .ptr 2 0), (7, .ptr 3 0)], ⟨[rP s (y + 1), dZ, pZ, pBR y .nil], []⟩⟩
    rw [← hx0] at eq ⊢
    have hx02 : x0 ≤ s.size := by omega
    refine Q.runSeq (SPd false true n ih [] []) 100 121 hnt [0, 1, 4, 5, 7, 9] (z := ⟨[(0, .ptr 0 0), (1, .int .i64 w), (4, .ptr 1 0), (5, .ptr 2 0), (7, .ptr 3 0), (9, PV.nil)], ⟨[⟨[.str s, .int .i64 (Int.ofNat x0)], 101⟩, ⟨[.int .i64 (0 : Int), .int .i64 (0 : Int), .str ⟨#[]⟩, PV.nil], 24⟩, ⟨[.int .i64 (0 : Int), PV.nil], 45⟩, ⟨[.int .i64 (Int.ofNat y), PV.nil], 45⟩], []⟩⟩) (o := []) (by kernel_rfl) (by repeat' first | exact okO_nil | refine okN ?_ ?_ | assumption | rfl) ?_
    refine SWP.adoptS 9 24 4 rfl ?_
    refine SWP.adoptB 3 1 45 2 rfl rfl ?_
    refine SWP.norm [0, 1, 4, 5, 7, 9] ?_
    have hst := rdD_steps s n
    refine Q.seq fun K hK => ?_
    refine Q.block ?_
    let T (x : Nat) (l : Nds) : AS := ⟨[(0, .ptr 0 0), (1, .int .i64 w), (4, .ptr 1 0), (5, .ptr 2 0), (7, .ptr 3 0), (9, .own 0 l.len)], ⟨[rP s x, dZ, pZ, pBR y (.own 1 l.len)], [some (jR l.dat.cells l.len), some (pR l.pl l.len)]⟩⟩
    refine Q.loopH (σ := { x : Nat × Nds × Nat // x.1 ≤ s.size ∧ s.size + 1 - x.1 ≤ x.2.2 ∧ x.2.1.len + x.2.2 ≤ s.size + 1 ∧ rdL (rdD s n) s x.2.2 ⟨skp s x.1, 0, 0⟩ x.2.1 = rdL (rdD s n) s (s.size + 1) ⟨skp s x0, 0, 0⟩ .nil }) [0, 1, 4, 5, 7, 9] 4 (by rw [hnb]; exact Nat.le_of_ble_eq_true rfl) (fun x => T x.1.1 x.1.2.1) (fun x => x.1.2.2) ⟨(x0, .nil, s.size + 1), hx02, Nat.sub_le _ _, by simp [Nds.len], rfl⟩ (fun x => ⟨rfl, rfl, rfl⟩) ⟨[], rfl⟩ fun ⟨(x, l, k), hx, hk, hlen, hrd⟩ => ?_
    have hx : x ≤ s.size := hx
    have hk : s.size + 1 - x ≤ k := hk
    have hlen : l.len + k ≤ s.size + 1 := hlen
    have hrd : rdL (rdD s n) s k ⟨skp s x, 0, 0⟩ l = rdL (rdD s n) s (s.size + 1) ⟨skp s x0, 0, 0⟩ .nil := hrd
    rw [← hrd] at eq
    show SWP G0 C _ _ ⟨[(0, .ptr 0 0), (1, .int .i64 w), (4, .ptr 1 0), (5, .ptr 2 0), (7, .ptr 3 0), (9, .own 0 l.len)], ⟨[rP s x, dZ, pZ, pBR y (.own 1 l.len)], [some (jR l.dat.cells l.len), some (pR l.pl l.len)]⟩⟩
    obtain ⟨m, hm⟩ : ∃ m, m = l.len := ⟨_, rfl⟩
    obtain ⟨rc, hrc⟩ : ∃ rc, rc = l.dat.cells := ⟨_, rfl⟩
    obtain ⟨pc, hpc⟩ : ∃ rc, rc = l.pl := ⟨_, rfl⟩
    refine swp_st (st' := ⟨[(0, .ptr 0 0), (1, .int .i64 w), (4, .ptr 1 0), (5, .ptr 2 0), (7, .ptr 3 0), (9, .own 0 m)], ⟨[rP s x, dZ, pZ, pBR y (.own 1 m)], [some (jR rc m), some (pR pc m)]⟩⟩) (by rw [hm, hrc, hpc]) ?_
    rw [← hm] at hlen
    have dx : decide (0 ≤ (x : Int) ∧ (x : Int) ≤ (s.size : Int)) = true := by rw [decide_eq_true_eq]; omega
    obtain ⟨k, rfl⟩ : ∃ j, k = j + 1 := ⟨k - 1, by omega⟩
    have hz2 := skp_le s x hx
    have hzz := skp_skp s x
    have hge := skp_ge s x
    refine Q.seq fun K2 hK2 => ?_
    obtain ⟨z, hz⟩ : ∃ z, z = skp s x := ⟨_, rfl⟩
    have hnz : nxt s x = if z < s.size then bt s (z : Int) else 0 := by rw [nxt, hz]
    have g0 := goes_at0 s z
    rw [← hz] at hz2 hzz hge eq hrd
    by_cases hgo : goes s ⟨z, 0, 0⟩ = true
    · have h41 : (!nxt s x == (41 : Int)) = true := by
        rw [hgo] at g0
        rw [hnz]
        rcases Nat.lt_or_ge z s.size with h | h
        · rw [if_pos h]
          rw [decide_eq_true h, Bool.true_and] at g0
          exact g0.symm
        · rw [if_neg (by omega)]; rfl
      have h41 : (!(if skp s (Int.toNat (x : Int)) < ByteArray.size s then bt s (Int.ofNat (skp s (Int.toNat (Int.ofNat x)))) else (0 : Int)) == (41 : Int)) = true := h41
      refine SWP.runQ (SPd false true n ih [(121, [(56, true)])] []) 100 121 hnt [0, 1, 4, 5, 7, 9] (e := .normal) (z := ⟨[(0, .ptr 0 0), (1, .int .i64 w), (4, .ptr 1 0), (5, .ptr 2 0), (7, .ptr 3 0), (9, .own 0 m)], ⟨[⟨[.str s, .int .i64 (Int.ofNat (skp s (Int.toNat (Int.ofNat x))))], 101⟩, ⟨[.int .i64 (0 : Int), .int .i64 (0 : Int), .str ⟨#[]⟩, PV.nil], 24⟩, ⟨[.int .i64 (0 : Int), PV.nil], 45⟩, ⟨[.int .i64 (Int.ofNat y), .own 1 m], 45⟩], [some ⟨rc, m, 24, 4⟩, some ⟨pc, m, 45, 2⟩]⟩⟩) (o := [(decide (0 ≤ (↑x : Int) ∧ (↑x : Int) ≤ (↑(ByteArray.size s) : Int)), true), (Nat.ble (ByteArray.size s) 1099511627776, true), (!(if skp s (Int.toNat (↑x : Int)) < ByteArray.size s then bt s (Int.ofNat (skp s (Int.toNat (Int.ofNat x)))) else (0 : Int)) == (41 : Int), true), (true, true)]) (by kernel_rfl) (by repeat' first | exact okO_nil | refine okN ?_ ?_ | assumption | rfl) (fun st hst' => hK2 st (.norm [0, 1, 4, 5, 7, 9] ?_))
      rw [hst']
      refine swp_st (st' := ⟨[(0, .ptr 0 0), (1, .int .i64 w), (4, .ptr 1 0), (5, .ptr 2 0), (7, .ptr 3 0), (9, .own 0 m)], ⟨[rP s z, dZ, pZ, pBR y (.own 1 m)], [some (jR rc m), some (pR pc m)]⟩⟩) (by rw [hz]; rfl) ?_
      clear hst' hK2
      refine Q.block ?_
      have hqx : qX s n z = rdX s n z := by unfold qX; rw [hzz]
      have hqa : qA s n z = rdA s n z := by unfold qA; rw [hzz]
      have hqe : qE s n z = rdE s n z := by unfold qE; rw [hzz]
      have hqf : qF s n z = rdF s n z := by unfold qF; rw [hzz]
      have dz : decide (0 ≤ (z : Int) ∧ (z : Int) ≤ (s.size : Int)) = true := by rw [decide_eq_true_eq]; omega
      by_cases he : rdE s n z = 0
      · have de : decide (qE s n (Int.toNat (z : Int)) = 0) = true := by rw [Int.toNat_natCast, hqe]; exact decide_eq_true he
        refine Q.runSeq (SPd false true n ih [] []) 100 121 hnt [0, 1, 4, 5, 7, 9, 10, 11] (z := ⟨[(0, .ptr 0 0), (1, .int .i64 w), (4, .ptr 1 0), (5, .ptr 2 0), (7, .ptr 3 0), (9, .own 0 m), (10, .ptr 4 0), (11, .ptr 5 0)], ⟨[rP s (qA s n z), dZ, pZ, pBR y (.own 1 m), ⟨ndJ (qX s n z), 24⟩, ⟨ndP (qX s n z), 45⟩], [some (jR rc m), some (pR pc m)]⟩⟩) (o := [(decide (0 ≤ (↑z : Int) ∧ (↑z : Int) ≤ (↑(ByteArray.size s) : Int)), true), (decide (IntKind.wrap IntKind.i64 (w + 1) = 1000 - (↑n : Int)), true), (decide (qE s n (Int.toNat (↑z : Int)) = 0), true), (Nat.ble (ByteArray.size s) 1099511627776, true)]) (by kernel_rfl) (by repeat' first | exact okO_nil | refine okN ?_ ?_ | assumption | rfl) ?_
        obtain ⟨X, hX⟩ : ∃ X, X = qX s n z := ⟨_, rfl⟩
        obtain ⟨p, hp'⟩ : ∃ X, X = qA s n z := ⟨_, rfl⟩
        obtain ⟨xp, hxp⟩ : ∃ z, z = (ndS X).pl := ⟨_, rfl⟩
        refine swp_st (st' := ⟨[(0, .ptr 0 0), (1, .int .i64 w), (4, .ptr 1 0), (5, .ptr 2 0), (7, .ptr 3 0), (9, .own 0 m), (10, .ptr 4 0), (11, .ptr 5 0)], ⟨[rP s p, dZ, pZ, pBR y (.own 1 m), ⟨ndJ X, 24⟩, ⟨[.int .i64 (ndA X), .slice (Nds.len (ndS X)) xp], 45⟩], [some (jR rc m), some (pR pc m)]⟩⟩) (by rw [hxp, hX, hp']; rfl) ?_
        rw [hqx] at hX
        rw [hqa] at hp'
        have hs2 := hst z hz2
        have g1 : (rdD s n z).2 = ⟨rdA s n z, rdE s n z, rdF s n z⟩ := rfl
        have g2 : (rdD s n z).1 = rdX s n z := rfl
        rw [g1] at hs2
        have hin := hs2.1.ok he
        have hadv := hs2.2 he
        have hin1 : rdA s n z ≤ s.size := hin.1
        have hb0 : rdF s n z = 0 := hin.2
        have hadv : z < rdA s n z := hadv
        rw [rdL, if_pos hgo, g1, g2, he, hb0, ← hX, ← hp'] at hrd
        rw [← hp'] at hin1 hadv
        have g3 : m + 1 = (l.snoc X).len := by rw [Nds.snoc_len, hm]
        have g4 : rc ++ ndJ X = (l.snoc X).dat.cells := by rw [Nds.snoc_dc, hrc, ndJ_eq]
        have g5 : pc ++ ndP X = (l.snoc X).pl := by rw [Nds.snoc_pl, hpc, ndP_eq]
        have m1 : Nat.ble ((m + 1) * 4) 140737488355328 = true := by rw [Nat.ble_eq]; omega
        have m2 : Nat.ble ((m + 1) * 2) 140737488355328 = true := by rw [Nat.ble_eq]; omega
        have g5' : pc ++ [.int .i64 (ndA X), .slice (Nds.len (ndS X)) xp] = (l.snoc X).pl := by rw [hxp]; exact g5
        refine SWP.runLQ (SPd false true n ih [(121, [(67, true), (72, true)])] []) 100 121 hnt [0, 1, 4, 5, 7, 9] (l := List.replicate 71 { t := [(0, PV.ptr 0 0), (1, PV.int IntKind.i64 w), (4, PV.ptr 1 0), (5, PV.ptr 2 0), (7, PV.ptr 3 0), (9, PV.own 0 (m + 1))], h := { bx := [{ cs := [PV.str s, PV.int IntKind.i64 (Int.ofNat p)], ty := 101 }, { cs := [PV.int IntKind.i64 (0 : Int), PV.int IntKind.i64 (0 : Int), PV.str { data := #[] }, PV.nil], ty := 24 }, { cs := [PV.int IntKind.i64 (0 : Int), PV.nil], ty := 45 }, { cs := [PV.int IntKind.i64 (Int.ofNat y), PV.own 1 (m + 1)], ty := 45 }, { cs := [PV.int IntKind.i64 (ndK X), PV.int IntKind.i64 (ndN X), PV.str (ndT X), PV.slice (Dats.len (Nds.dat (ndS X))) (Dats.cells (Nds.dat (ndS X)))], ty := 24 }, { cs := [PV.int IntKind.i64 (ndA X), PV.slice (Nds.len (ndS X)) xp], ty := 45 }], rw := [some { cs := rc ++ [PV.int IntKind.i64 (ndK X), PV.int IntKind.i64 (ndN X), PV.str (ndT X), PV.slice (Dats.len (Nds.dat (ndS X))) (Dats.cells (Nds.dat (ndS X)))], n := m + 1, ty := 24, sz := 4 }, some { cs := pc ++ [PV.int IntKind.i64 (ndA X), PV.slice (Nds.len (ndS X)) xp], n := m + 1, ty := 45, sz := 2 }] } }) (o := [(true, true), (Nat.ble ((m + 1) * 56) 140737488355328, true), (Nat.ble (m + 1) 9223372036854775807, true), (true, true), (Nat.ble ((m + 1) * 32) 140737488355328, true), (Nat.ble (m + 1) 9223372036854775807, true), (true, true), (Nat.ble ((m + 1) * 56) 140737488355328, true), (Nat.ble (m + 1) 9223372036854775807, true), (true, true), (Nat.ble ((m + 1) * 32) 140737488355328, true), (Nat.ble (m + 1) 9223372036854775807, true), (true, true), (Nat.ble ((m + 1) * 56) 140737488355328, true), (Nat.ble (m + 1) 9223372036854775807, true), (true, true), (Nat.ble ((m + 1) * 32) 140737488355328, true), (Nat.ble (m + 1) 9223372036854775807, true), (true, true), (Nat.ble ((m + 1) * 56) 140737488355328, true), (Nat.ble (m + 1) 9223372036854775807, true), (true, true), (Nat.ble ((m + 1) * 32) 140737488355328, true), (Nat.ble (m + 1) 9223372036854775807, true), (true, true), (Nat.ble ((m + 1) * 56) 140737488355328, true), (Nat.ble (m + 1) 9223372036854775807, true), (true, true), (Nat.ble ((m + 1) * 32) 140737488355328, true), (Nat.ble (m + 1) 9223372036854775807, true), (true, true), (Nat.ble ((m + 1) * 56) 140737488355328, true), (Nat.ble (m + 1) 9223372036854775807, true), (true, true), (Nat.ble ((m + 1) * 32) 140737488355328, true), (Nat.ble (m + 1) 9223372036854775807, true), (true, true), (Nat.ble ((m + 1) * 56) 140737488355328, true), (Nat.ble (m + 1) 9223372036854775807, true), (true, true), (Nat.ble ((m + 1) * 32) 140737488355328, true), (Nat.ble (m + 1) 9223372036854775807, true), (true, true), (Nat.ble ((m + 1) * 56) 140737488355328, true), (Nat.ble (m + 1) 9223372036854775807, true), (true, true), (Nat.ble ((m + 1) * 32) 140737488355328, true), (Nat.ble (m + 1) 9223372036854775807, true), (true, true), (Nat.ble ((m + 1) * 56) 140737488355328, true), (Nat.ble (m + 1) 9223372036854775807, true), (true, true), (Nat.ble ((m + 1) * 32) 140737488355328, true), (Nat.ble (m + 1) 9223372036854775807, true), (true, true), (Nat.ble ((m + 1) * 56) 140737488355328, true), (Nat.ble (m + 1) 9223372036854775807, true), (true, true), (Nat.ble ((m + 1) * 32) 140737488355328, true), (Nat.ble (m + 1) 9223372036854775807, true), (true, true), (Nat.ble ((m + 1) * 56) 140737488355328, true), (Nat.ble (m + 1) 9223372036854775807, true), (true, true), (Nat.ble ((m + 1) * 32) 140737488355328, true), (Nat.ble (m + 1) 9223372036854775807, true), (true, true), (Nat.ble ((m + 1) * 56) 140737488355328, true), (Nat.ble (m + 1) 9223372036854775807, true), (true, true), (Nat.ble ((m + 1) * 32) 140737488355328, true), (Nat.ble (m + 1) 9223372036854775807, true), (true, true), (Nat.ble ((m + 1) * 56) 140737488355328, true), (Nat.ble (m + 1) 9223372036854775807, true), (true, true), (Nat.ble ((m + 1) * 32) 140737488355328, true), (Nat.ble (m + 1) 9223372036854775807, true), (true, true), (Nat.ble ((m + 1) * 56) 140737488355328, true), (Nat.ble (m + 1) 9223372036854775807, true), (true, true), (Nat.ble ((m + 1) * 32) 140737488355328, true), (Nat.ble (m + 1) 9223372036854775807, true), (true, true), (Nat.ble ((m + 1) * 56) 140737488355328, true), (Nat.ble (m + 1) 9223372036854775807, true), (true, true), (Nat.ble ((m + 1) * 32) 140737488355328, true), (Nat.ble (m + 1) 9223372036854775807, true), (true, true), (Nat.ble ((m + 1) * 56) 140737488355328, true), (Nat.ble (m + 1) 9223372036854775807, true), (true, true), (Nat.ble ((m + 1) * 32) 140737488355328, true), (Nat.ble (m + 1) 9223372036854775807, true), (true, true), (Nat.ble ((m + 1) * 56) 140737488355328, true), (Nat.ble (m + 1) 9223372036854775807, true), (true, true), (Nat.ble ((m + 1) * 32) 140737488355328, true), (Nat.ble (m + 1) 9223372036854775807, true), (true, true), (Nat.ble ((m + 1) * 56) 140737488355328, true), (Nat.ble (m + 1) 9223372036854775807, true), (true, true), (Nat.ble ((m + 1) * 32) 140737488355328, true), (Nat.ble (m + 1) 9223372036854775807, true), (true, true), (Nat.ble ((m + 1) * 56) 140737488355328, true), (Nat.ble (m + 1) 9223372036854775807, true), (true, true), (Nat.ble ((m + 1) * 32) 140737488355328, true), (Nat.ble (m + 1) 9223372036854775807, true), (true, true), (Nat.ble ((m + 1) * 56) 140737488355328, true), (Nat.ble (m + 1) 9223372036854775807, true), (true, true), (Nat.ble ((m + 1) * 32) 140737488355328, true), (Nat.ble (m + 1) 9223372036854775807, true), (true, true), (Nat.ble ((m + 1) * 56) 140737488355328, true), (Nat.ble (m + 1) 9223372036854775807, true), (true, true), (Nat.ble ((m + 1) * 32) 140737488355328, true), (Nat.ble (m + 1) 9223372036854775807, true), (true, true), (Nat.ble ((m + 1) * 56) 140737488355328, true), (Nat.ble (m + 1) 9223372036854775807, true), (true, true), (Nat.ble ((m + 1) * 32) 140737488355328, true), (Nat.ble (m + 1) 9223372036854775807, true), (true, true), (Nat.ble ((m + 1) * 56) 140737488355328, true), (Nat.ble (m + 1) 9223372036854775807, true), (true, true), (Nat.ble ((m + 1) * 32) 140737488355328, true), (Nat.ble (m + 1) 9223372036854775807, true), (true, true), (Nat.ble ((m + 1) * 56) 140737488355328, true), (Nat.ble (m + 1) 9223372036854775807, true), (true, true), (Nat.ble ((m + 1) * 32) 140737488355328, true), (Nat.ble (m + 1) 9223372036854775807, true), (true, true), (Nat.ble ((m + 1) * 56) 140737488355328, true), (Nat.ble (m + 1) 9223372036854775807, true), (true, true), (Nat.ble ((m + 1) * 32) 140737488355328, true), (Nat.ble (m + 1) 9223372036854775807, true), (true, true), (Nat.ble ((m + 1) * 56) 140737488355328, true), (Nat.ble (m + 1) 9223372036854775807, true), (true, true), (Nat.ble ((m + 1) * 32) 140737488355328, true), (Nat.ble (m + 1) 9223372036854775807, true), (true, true), (Nat.ble ((m + 1) * 56) 140737488355328, true), (Nat.ble (m + 1) 9223372036854775807, true), (true, true), (Nat.ble ((m + 1) * 32) 140737488355328, true), (Nat.ble (m + 1) 9223372036854775807, true), (true, true), (Nat.ble ((m + 1) * 56) 140737488355328, true), (Nat.ble (m + 1) 9223372036854775807, true), (true, true), (Nat.ble ((m + 1) * 32) 140737488355328, true), (Nat.ble (m + 1) 9223372036854775807, true), (true, true), (Nat.ble ((m + 1) * 56) 140737488355328, true), (Nat.ble (m + 1) 9223372036854775807, true), (true, true), (Nat.ble ((m + 1) * 32) 140737488355328, true), (Nat.ble (m + 1) 9223372036854775807, true), (true, true), (Nat.ble ((m + 1) * 56) 140737488355328, true), (Nat.ble (m + 1) 9223372036854775807, true), (true, true), (Nat.ble ((m + 1) * 32) 140737488355328, true), (Nat.ble (m + 1) 9223372036854775807, true), (true, true), (Nat.ble ((m + 1) * 56) 140737488355328, true), (Nat.ble (m + 1) 9223372036854775807, true), (true, true), (Nat.ble ((m + 1) * 32) 140737488355328, true), (Nat.ble (m + 1) 9223372036854775807, true), (true, true), (Nat.ble ((m + 1) * 56) 140737488355328, true), (Nat.ble (m + 1) 9223372036854775807, true), (true, true), (Nat.ble ((m + 1) * 32) 140737488355328, true), (Nat.ble (m + 1) 9223372036854775807, true), (true, true), (Nat.ble ((m + 1) * 56) 140737488355328, true), (Nat.ble (m + 1) 9223372036854775807, true), (true, true), (Nat.ble ((m + 1) * 32) 140737488355328, true), (Nat.ble (m + 1) 9223372036854775807, true), (true, true), (Nat.ble ((m + 1) * 56) 140737488355328, true), (Nat.ble (m + 1) 9223372036854775807, true), (true, true), (Nat.ble ((m + 1) * 32) 140737488355328, true), (Nat.ble (m + 1) 9223372036854775807, true), (true, true), (Nat.ble ((m + 1) * 56) 140737488355328, true), (Nat.ble (m + 1) 9223372036854775807, true), (true, true), (Nat.ble ((m + 1) * 32) 140737488355328, true), (Nat.ble (m + 1) 9223372036854775807, true), (true, true), (Nat.ble ((m + 1) * 56) 140737488355328, true), (Nat.ble (m + 1) 9223372036854775807, true), (true, true), (Nat.ble ((m + 1) * 32) 140737488355328, true), (Nat.ble (m + 1) 9223372036854775807, true), (true, true), (Nat.ble ((m + 1) * 56) 140737488355328, true), (Nat.ble (m + 1) 9223372036854775807, true), (true, true), (Nat.ble ((m + 1) * 32) 140737488355328, true), (Nat.ble (m + 1) 9223372036854775807, true), (true, true), (Nat.ble ((m + 1) * 56) 140737488355328, true), (Nat.ble (m + 1) 9223372036854775807, true), (true, true), (Nat.ble ((m + 1) * 32) 140737488355328, true), (Nat.ble (m + 1) 9223372036854775807, true), (true, true), (Nat.ble ((m + 1) * 56) 140737488355328, true), (Nat.ble (m + 1) 9223372036854775807, true), (true, true), (Nat.ble ((m + 1) * 32) 140737488355328, true), (Nat.ble (m + 1) 9223372036854775807, true), (true, true), (Nat.ble ((m + 1) * 56) 140737488355328, true), (Nat.ble (m + 1) 9223372036854775807, true), (true, true), (Nat.ble ((m + 1) * 32) 140737488355328, true), (Nat.ble (m + 1) 9223372036854775807, true), (true, true), (Nat.ble ((m + 1) * 56) 140737488355328, true), (Nat.ble (m + 1) 9223372036854775807, true), (true, true), (Nat.ble ((m + 1) * 32) 140737488355328, true), (Nat.ble (m + 1) 9223372036854775807, true), (true, true), (Nat.ble ((m + 1) * 56) 140737488355328, true), (Nat.ble (m + 1) 9223372036854775807, true), (true, true), (Nat.ble ((m + 1) * 32) 140737488355328, true), (Nat.ble (m + 1) 9223372036854775807, true), (true, true), (Nat.ble ((m + 1) * 56) 140737488355328, true), (Nat.ble (m + 1) 9223372036854775807, true), (true, true), (Nat.ble ((m + 1) * 32) 140737488355328, true), (Nat.ble (m + 1) 9223372036854775807, true), (true, true), (Nat.ble ((m + 1) * 56) 140737488355328, true), (Nat.ble (m + 1) 9223372036854775807, true), (true, true), (Nat.ble ((m + 1) * 32) 140737488355328, true), (Nat.ble (m + 1) 9223372036854775807, true), (true, true), (Nat.ble ((m + 1) * 56) 140737488355328, true), (Nat.ble (m + 1) 9223372036854775807, true), (true, true), (Nat.ble ((m + 1) * 32) 140737488355328, true), (Nat.ble (m + 1) 9223372036854775807, true), (true, true), (Nat.ble ((m + 1) * 56) 140737488355328, true), (Nat.ble (m + 1) 9223372036854775807, true), (true, true), (Nat.ble ((m + 1) * 32) 140737488355328, true), (Nat.ble (m + 1) 9223372036854775807, true), (true, true), (Nat.ble ((m + 1) * 56) 140737488355328, true), (Nat.ble (m + 1) 9223372036854775807, true), (true, true), (Nat.ble ((m + 1) * 32) 140737488355328, true), (Nat.ble (m + 1) 9223372036854775807, true), (true, true), (Nat.ble ((m + 1) * 56) 140737488355328, true), (Nat.ble (m + 1) 9223372036854775807, true), (true, true), (Nat.ble ((m + 1) * 32) 140737488355328, true), (Nat.ble (m + 1) 9223372036854775807, true), (true, true), (Nat.ble ((m + 1) * 56) 140737488355328, true), (Nat.ble (m + 1) 9223372036854775807, true), (true, true), (Nat.ble ((m + 1) * 32) 140737488355328, true), (Nat.ble (m + 1) 9223372036854775807, true), (true, true), (Nat.ble ((m + 1) * 56) 140737488355328, true), (Nat.ble (m + 1) 9223372036854775807, true), (true, true), (Nat.ble ((m + 1) * 32) 140737488355328, true), (Nat.ble (m + 1) 9223372036854775807, true), (true, true), (Nat.ble ((m + 1) * 56) 140737488355328, true), (Nat.ble (m + 1) 9223372036854775807, true), (true, true), (Nat.ble ((m + 1) * 32) 140737488355328, true), (Nat.ble (m + 1) 9223372036854775807, true), (true, true), (Nat.ble ((m + 1) * 56) 140737488355328, true), (Nat.ble (m + 1) 9223372036854775807, true), (true, true), (Nat.ble ((m + 1) * 32) 140737488355328, true), (Nat.ble (m + 1) 9223372036854775807, true), (true, true), (Nat.ble ((m + 1) * 56) 140737488355328, true), (Nat.ble (m + 1) 9223372036854775807, true), (true, true), (Nat.ble ((m + 1) * 32) 140737488355328, true), (Nat.ble (m + 1) 9223372036854775807, true), (true, true), (Nat.ble ((m + 1) * 56) 140737488355328, true), (Nat.ble (m + 1) 9223372036854775807, true), (true, true), (Nat.ble ((m + 1) * 32) 140737488355328, true), (Nat.ble (m + 1) 9223372036854775807, true), (true, true), (Nat.ble ((m + 1) * 56) 140737488355328, true), (Nat.ble (m + 1) 9223372036854775807, true), (true, true), (Nat.ble ((m + 1) * 32) 140737488355328, true), (Nat.ble (m + 1) 9223372036854775807, true), (true, true), (Nat.ble ((m + 1) * 56) 140737488355328, true), (Nat.ble (m + 1) 9223372036854775807, true), (true, true), (Nat.ble ((m + 1) * 32) 140737488355328, true), (Nat.ble (m + 1) 9223372036854775807, true), (true, true), (Nat.ble ((m + 1) * 56) 140737488355328, true), (Nat.ble (m + 1) 9223372036854775807, true), (true, true), (Nat.ble ((m + 1) * 32) 140737488355328, true), (Nat.ble (m + 1) 9223372036854775807, true), (true, true), (Nat.ble ((m + 1) * 56) 140737488355328, true), (Nat.ble (m + 1) 9223372036854775807, true), (true, true), (Nat.ble ((m + 1) * 32) 140737488355328, true), (Nat.ble (m + 1) 9223372036854775807, true), (true, true), (Nat.ble ((m + 1) * 56) 140737488355328, true), (Nat.ble (m + 1) 9223372036854775807, true), (true, true), (Nat.ble ((m + 1) * 32) 140737488355328, true), (Nat.ble (m + 1) 9223372036854775807, true), (true, true), (Nat.ble ((m + 1) * 56) 140737488355328, true), (Nat.ble (m + 1) 9223372036854775807, true), (true, true), (Nat.ble ((m + 1) * 32) 140737488355328, true), (Nat.ble (m + 1) 9223372036854775807, true), (true, true), (Nat.ble ((m + 1) * 56) 140737488355328, true), (Nat.ble (m + 1) 9223372036854775807, true), (true, true), (Nat.ble ((m + 1) * 32) 140737488355328, true), (Nat.ble (m + 1) 9223372036854775807, true), (true, true), (Nat.ble ((m + 1) * 56) 140737488355328, true), (Nat.ble (m + 1) 9223372036854775807, true), (true, true), (Nat.ble ((m + 1) * 32) 140737488355328, true), (Nat.ble (m + 1) 9223372036854775807, true), (true, true), (Nat.ble ((m + 1) * 56) 140737488355328, true), (Nat.ble (m + 1) 9223372036854775807, true), (true, true), (Nat.ble ((m + 1) * 32) 140737488355328, true), (Nat.ble (m + 1) 9223372036854775807, true), (true, true), (Nat.ble ((m + 1) * 56) 140737488355328, true), (Nat.ble (m + 1) 9223372036854775807, true), (true, true), (Nat.ble ((m + 1) * 32) 140737488355328, true), (Nat.ble (m + 1) 9223372036854775807, true), (true, true), (Nat.ble ((m + 1) * 56) 140737488355328, true), (Nat.ble (m + 1) 9223372036854775807, true), (true, true), (Nat.ble ((m + 1) * 32) 140737488355328, true), (Nat.ble (m + 1) 9223372036854775807, true), (true, true), (Nat.ble ((m + 1) * 56) 140737488355328, true), (Nat.ble (m + 1) 9223372036854775807, true), (true, true), (Nat.ble ((m + 1) * 32) 140737488355328, true), (Nat.ble (m + 1) 9223372036854775807, true), (true, true), (Nat.ble ((m + 1) * 56) 140737488355328, true), (Nat.ble (m + 1) 9223372036854775807, true), (true, true), (Nat.ble ((m + 1) * 32) 140737488355328, true), (Nat.ble (m + 1) 9223372036854775807, true), (true, true), (Nat.ble ((m + 1) * 56) 140737488355328, true), (Nat.ble (m + 1) 9223372036854775807, true), (true, true), (Nat.ble ((m + 1) * 32) 140737488355328, true), (Nat.ble (m + 1) 9223372036854775807, true), (true, true), (Nat.ble ((m + 1) * 56) 140737488355328, true), (Nat.ble (m + 1) 9223372036854775807, true), (true, true), (Nat.ble ((m + 1) * 32) 140737488355328, true), (Nat.ble (m + 1) 9223372036854775807, true), (true, true), (Nat.ble ((m + 1) * 56) 140737488355328, true), (Nat.ble (m + 1) 9223372036854775807, true), (true, true), (Nat.ble ((m + 1) * 32) 140737488355328, true), (Nat.ble (m + 1) 9223372036854775807, true), (true, true), (Nat.ble ((m + 1) * 56) 140737488355328, true), (Nat.ble (m + 1) 9223372036854775807, true), (true, true), (Nat.ble ((m + 1) * 32) 140737488355328, true), (Nat.ble (m + 1) 9223372036854775807, true)]) (by kernel_rfl) (by ((repeat' (first | exact okO_nil | refine okN ?_ ?_)); all_goals first | assumption | rfl | exact same_of rfl | exact sameS_self _ | (simp only [decide_eq_true_eq, decide_eq_false_iff_not, Nat.ble_eq, Nat.beq_eq, beq_eq_false_iff_ne, beq_iff_eq, ne_eq] <;> omega))) (fun st hst => ⟨⟨(p, l.snoc X, k), hin1, by show s.size + 1 - p ≤ k; omega, by show (l.snoc X).len + k ≤ _; rw [← g3]; omega, hrd⟩, Nat.lt_succ_self k, [⟨ndJ X, 24⟩, ⟨[.int .i64 (ndA X), .slice (Nds.len (ndS X)) xp], 45⟩], ?_⟩)
        rw [List.eq_of_mem_replicate hst]
        have e2 : (⟨[(0, .ptr 0 0), (1, .int .i64 w), (4, .ptr 1 0), (5, .ptr 2 0), (7, .ptr 3 0), (9, .own 0 (m + 1))], ⟨[rP s p, dZ, pZ, pBR y (.own 1 (m + 1)), ⟨ndJ X, 24⟩, ⟨[.int .i64 (ndA X), .slice (Nds.len (ndS X)) xp], 45⟩], [some (jR (rc ++ ndJ X) (m + 1)), some (pR (pc ++ [.int .i64 (ndA X), .slice (Nds.len (ndS X)) xp]) (m + 1))]⟩⟩ : AS) = ⟨[(0, .ptr 0 0), (1, .int .i64 w), (4, .ptr 1 0), (5, .ptr 2 0), (7, .ptr 3 0), (9, .own 0 ((l.snoc X).len))], ⟨[rP s p, dZ, pZ, pBR y (.own 1 ((l.snoc X).len)), ⟨ndJ X, 24⟩, ⟨[.int .i64 (ndA X), .slice (Nds.len (ndS X)) xp], 45⟩], [some (jR ((l.snoc X).dat.cells) ((l.snoc X).len)), some (pR ((l.snoc X).pl) ((l.snoc X).len))]⟩⟩ := by rw [g3, g4, g5']
        exact Eq.trans (b := (⟨[(0, .ptr 0 0), (1, .int .i64 w), (4, .ptr 1 0), (5, .ptr 2 0), (7, .ptr 3 0), (9, .own 0 (m + 1))], ⟨[rP s p, dZ, pZ, pBR y (.own 1 (m + 1)), ⟨ndJ X, 24⟩, ⟨[.int .i64 (ndA X), .slice (Nds.len (ndS X)) xp], 45⟩], [some (jR (rc ++ ndJ X) (m + 1)), some (pR (pc ++ [.int .i64 (ndA X), .slice (Nds.len (ndS X)) xp]) (m + 1))]⟩⟩ : AS)) rfl (e2.trans rfl)
      · have de : decide (qE s n (Int.toNat (z : Int)) = 0) = false := by rw [Int.toNat_natCast, hqe]; exact decide_eq_false he
        refine Q.seq fun K3 hK3 => ?_
        obtain ⟨k1, k2⟩ := rdL_err (k := k) (l := l) hgo he
        exact SWP.runQ (SPd true true n ih [] []) 100 121 hnt [] (e := .panic (faultV (qF s n z) (qE s n z))) (z := ⟨[], ⟨[⟨[.str s, .int .i64 (rdF s n (skp s (Int.toNat (Int.ofNat z))))], 101⟩, ⟨[.int .i64 (0 : Int), .int .i64 (0 : Int), .str ⟨#[]⟩, PV.nil], 24⟩, ⟨[.int .i64 (0 : Int), PV.nil], 45⟩, ⟨[.int .i64 (Int.ofNat y), .own 1 m], 45⟩], [some ⟨rc, m, 24, 4⟩, some ⟨pc, m, 45, 2⟩]⟩⟩) (o := [(decide (0 ≤ (↑z : Int) ∧ (↑z : Int) ≤ (↑(ByteArray.size s) : Int)), true), (decide (IntKind.wrap IntKind.i64 (w + 1) = 1000 - (↑n : Int)), true), (decide (qE s n (Int.toNat (↑z : Int)) = 0), false), (Nat.ble (ByteArray.size s) 1099511627776, true)]) (by kernel_rfl) (by repeat' first | exact okO_nil | refine okN ?_ ?_ | assumption | rfl) (fun st hst => pan st (qF s n z) (qE s n z) _ _ (congrArg AS.h hst) (by rw [hqe]; exact he) (by unfold rdE; rw [eq, hqe]; exact k1) (by unfold rdF; rw [eq, hqf]; exact k2))
    · have hgf : goes s ⟨z, 0, 0⟩ = false := by simpa using hgo
      rw [hgf] at g0
      have g0' : decide (z < s.size) = true ∧ (bt s (z : Int) == 41) = true := by
        rw [← Bool.and_eq_true]
        simpa using g0.symm
      have hzl : z < s.size := of_decide_eq_true g0'.1
      have h41 : (!nxt s x == (41 : Int)) = false := by rw [hnz, if_pos hzl, g0'.2]; rfl
      have h41 : (!(if skp s (Int.toNat (x : Int)) < ByteArray.size s then bt s (Int.ofNat (skp s (Int.toNat (Int.ofNat x)))) else (0 : Int)) == (41 : Int)) = false := h41
      refine SWP.runQ (SPd false true n ih [(121, [(56, false)])] []) 100 121 hnt [0, 1, 4, 5, 7, 9] (e := .exit 1) (z := ⟨[(0, .ptr 0 0), (1, .int .i64 w), (4, .ptr 1 0), (5, .ptr 2 0), (7, .ptr 3 0), (9, .own 0 m)], ⟨[⟨[.str s, .int .i64 (Int.ofNat (skp s (Int.toNat (Int.ofNat x))))], 101⟩, ⟨[.int .i64 (0 : Int), .int .i64 (0 : Int), .str ⟨#[]⟩, PV.nil], 24⟩, ⟨[.int .i64 (0 : Int), PV.nil], 45⟩, ⟨[.int .i64 (Int.ofNat y), .own 1 m], 45⟩], [some ⟨rc, m, 24, 4⟩, some ⟨pc, m, 45, 2⟩]⟩⟩) (o := [(decide (0 ≤ (↑x : Int) ∧ (↑x : Int) ≤ (↑(ByteArray.size s) : Int)), true), (Nat.ble (ByteArray.size s) 1099511627776, true), (!(if skp s (Int.toNat (↑x : Int)) < ByteArray.size s then bt s (Int.ofNat (skp s (Int.toNat (Int.ofNat x)))) else (0 : Int)) == (41 : Int), false), (false, false)]) (by kernel_rfl) (by repeat' first | exact okO_nil | refine okN ?_ ?_ | assumption | rfl) (fun st hst' => hK st (.norm [0, 1, 4, 5, 7, 9] ?_))
      rw [hst']
      show SWP G0 C _ _ ⟨[(0, .ptr 0 0), (1, .int .i64 w), (4, .ptr 1 0), (5, .ptr 2 0), (7, .ptr 3 0), (9, .own 0 m)], ⟨[rP s (skp s x), dZ, pZ, pBR y (.own 1 m)], [some (jR rc m), some (pR pc m)]⟩⟩
      rw [← hz]
      clear hst' hK hK2
      rw [rdL_stop hgf] at eq
      clear hx hk dx hge hnz h41 hrd hz
      obtain ⟨x, hx⟩ : ∃ x, x = z := ⟨_, rfl⟩
      rw [← hx] at eq hzl ⊢
      have wx : IntKind.wrap IntKind.i64 (Int.ofNat (x + 1)) = ((x + 1 : Nat) : Int) := wrapI (x + 1) (by omega)
      refine SWP.frz [0, 1] ?_
      refine Q.runSeq (SPd false true n ih [] []) 100 121 hnt [4, 5, 7, 9] (z := ⟨[(4, .ptr 1 0), (5, .ptr 2 0), (7, .ptr 3 0), (9, .slice m rc)], ⟨[⟨[.str s, .int .i64 (IntKind.wrap IntKind.i64 (Int.ofNat (x + 1)))], 101⟩, ⟨[.int .i64 (0 : Int), .int .i64 (0 : Int), .str ⟨#[]⟩, PV.nil], 24⟩, ⟨[.int .i64 (0 : Int), PV.nil], 45⟩, ⟨[.int .i64 (Int.ofNat y), .slice m pc], 45⟩], [none, none]⟩⟩) (o := []) (by kernel_rfl) (by repeat' first | exact okO_nil | refine okN ?_ ?_ | assumption | rfl) ?_
      rw [wx]
      obtain ⟨x1, hx1⟩ : ∃ x1, x1 = x + 1 := ⟨_, rfl⟩
      show SWP G0 C _ _ ⟨[(4, .ptr 1 0), (5, .ptr 2 0), (7, .ptr 3 0), (9, .slice m rc)], ⟨[rP s (x + 1), dZ, pZ, pBR y (.slice m pc)], [none, none]⟩⟩
      rw [← hx1]
      refine Q.seq fun K hK => ?_
      refine SWP.runLQ (SPd false true n ih [] []) 100 121 hnt [4, 5] (l := List.replicate 3 { t := [(4, PV.ptr 1 0), (5, PV.ptr 2 0)], h := { bx := [{ cs := [PV.str s, PV.int IntKind.i64 (Int.ofNat x1)], ty := 101 }, { cs := [PV.int IntKind.i64 (3 : Int), PV.int IntKind.i64 (0 : Int), PV.str { data := #[] }, PV.slice m rc], ty := 24 }, { cs := [PV.int IntKind.i64 (Int.ofNat y), PV.slice m pc], ty := 45 }, { cs := [PV.int IntKind.i64 (Int.ofNat y), PV.slice m pc], ty := 45 }], rw := [none, none] } }) (o := []) (by kernel_rfl) (by repeat' first | exact okO_nil | refine okN ?_ ?_ | assumption | rfl) (fun st hst => hK st (.norm [4, 5] ?_))
      rw [List.eq_of_mem_replicate hst]
      exact .ret (fin _ _ _ x1 _ _ rfl rfl rfl rfl rfl ⟨.mk 3 0 ⟨#[]⟩ l y, by rw [eq, hx1], by
        rw [hm, hrc, ← Nds.dat_len]
        simp only [nzL, PV.nz, Dats.nz]
        rfl, by
        rw [hm, hpc]
        simp only [nzL, PV.nz, Nds.pl_nz]
        rfl⟩)
  · -- a quote
    have e46 := beqF h40
    have h39 : c = 39 := by
      by_cases h : c = 39
      · exact h
      · exact absurd ⟨h40, h, e40l⟩ hb
    have e86 := beqT h39
    refine Q.runSeq (SPd false true n ih [(121, [(46, false)])] []) 100 121 hnt [0, 1, 4, 5, 6, 7, 44] (z := ⟨[(0, .ptr 0 0), (1, .int .i64 w), (4, .ptr 1 0), (5, .ptr 2 0), (6, PV.int IntKind.u8 c), (7, .ptr 3 0), (44, .bool false)], ⟨[⟨[.str s, .int .i64 (Int.ofNat y)], 101⟩, ⟨[.int .i64 (0 : Int), .int .i64 (0 : Int), .str ⟨#[]⟩, PV.nil], 24⟩, ⟨[.int .i64 (0 : Int), PV.nil], 45⟩, ⟨[.int .i64 (Int.ofNat y), PV.nil], 45⟩], []⟩⟩) (o := [(c == (40 : Int), false)]) (by kernel_rfl) (by repeat' first | exact okO_nil | refine okN ?_ ?_ | assumption | rfl) ?_
    refine Q.cond (b := false) rfl (fun h => by cases h) (fun _ => ?_)
    refine Q.runSeq (SPd false true n ih [(121, [(86, true)])] []) 100 121 hnt [0, 1, 4, 5, 6, 7, 84] (z := ⟨[(0, .ptr 0 0), (1, .int .i64 w), (4, .ptr 1 0), (5, .ptr 2 0), (6, PV.int IntKind.u8 c), (7, .ptr 3 0), (84, .bool true)], ⟨[⟨[.str s, .int .i64 (Int.ofNat y)], 101⟩, ⟨[.int .i64 (0 : Int), .int .i64 (0 : Int), .str ⟨#[]⟩, PV.nil], 24⟩, ⟨[.int .i64 (0 : Int), PV.nil], 45⟩, ⟨[.int .i64 (Int.ofNat y), PV.nil], 45⟩], []⟩⟩) (o := [(c == (39 : Int), true)]) (by kernel_rfl) (by repeat' first | exact okO_nil | refine okN ?_ ?_ | assumption | rfl) ?_
    refine Q.cond (b := true) rfl (fun _ => ?_) (fun h => by cases h)
    by_cases hn0 : n = 0
    · have e89 : decide (1000 ≤ IntKind.wrap IntKind.i64 (w + 1)) = true := by rw [w2, decide_eq_true_eq]; omega
      rw [if_pos ⟨h39, hn0⟩] at eq
      refine Q.seq fun K hK => ?_
      exact SWP.runQ (SPd true true n ih [(121, [(89, true)])] []) 100 121 hnt [] (e := .panic (faultV y 3)) (z := ⟨[], ⟨[⟨[.str s, .int .i64 (Int.ofNat y)], 101⟩, ⟨[.int .i64 (0 : Int), .int .i64 (0 : Int), .str ⟨#[]⟩, PV.nil], 24⟩, ⟨[.int .i64 (0 : Int), PV.nil], 45⟩, ⟨[.int .i64 (Int.ofNat y), PV.nil], 45⟩], []⟩⟩) (o := [(decide (1000 ≤ IntKind.wrap IntKind.i64 (w + 1)), true), (true, true), (true, true)]) (by kernel_rfl) (by repeat' first | exact okO_nil | refine okN ?_ ?_ | assumption | rfl) (fun st hst => pan st y 3 _ _ (congrArg AS.h hst) (by decide) (by unfold rdE; rw [eq]) (by unfold rdF; rw [eq]))
    · have e89 : decide (1000 ≤ IntKind.wrap IntKind.i64 (w + 1)) = false := by rw [w2, decide_eq_false_iff_not]; omega
      rw [if_neg (fun g => hn0 g.2), if_neg nl, if_pos h39] at eq
      refine Q.runSeq (SPd false true n ih [(121, [(89, false)])] []) 100 121 hnt [0, 1, 4, 5, 7] (z := ⟨[(0, .ptr 0 0), (1, .int .i64 w), (4, .ptr 1 0), (5, .ptr 2 0), (7, .ptr 3 0)], ⟨[⟨[.str s, .int .i64 (Int.ofNat y)], 101⟩, ⟨[.int .i64 (0 : Int), .int .i64 (0 : Int), .str ⟨#[]⟩, PV.nil], 24⟩, ⟨[.int .i64 (0 : Int), PV.nil], 45⟩, ⟨[.int .i64 (Int.ofNat y), PV.nil], 45⟩], []⟩⟩) (o := [(decide (1000 ≤ IntKind.wrap IntKind.i64 (w + 1)), false), (false, false)]) (by kernel_rfl) (by repeat' first | exact okO_nil | refine okN ?_ ?_ | assumption | rfl) ?_
      refine Q.runSeq (SPd false true n ih [] []) 100 121 hnt [0, 1, 4, 5, 7] (z := ⟨[(0, .ptr 0 0), (1, .int .i64 w), (4, .ptr 1 0), (5, .ptr 2 0), (7, .ptr 3 0)], ⟨[⟨[.str s, .int .i64 (IntKind.wrap IntKind.i64 (Int.ofNat (y + 1)))], 101⟩, ⟨[.int .i64 (0 : Int), .int .i64 (0 : Int), .str ⟨#[]⟩, PV.nil], 24⟩, ⟨[.int .i64 (0 : Int), PV.nil], 45⟩, ⟨[.int .i64 (Int.ofNat y), PV.nil], 45⟩], []⟩⟩) (o := []) (by kernel_rfl) (by repeat' first | exact okO_nil | refine okN ?_ ?_ | assumption | rfl) ?_
      rw [wy]
      obtain ⟨x0, hx0⟩ : ∃ x, x = y + 1 := ⟨_, rfl⟩
      show SWP G0 C _ _ ⟨[(0, .ptr 0 0), (1, .int .i64 w), (4, .ptr 1 0), (5, .ptr 2 0), (7, .ptr 3 0)], ⟨[rP s (y + 1), dZ, pZ, pBR y .nil], []⟩⟩
      rw [← hx0] at eq ⊢
      have dx : decide (0 ≤ (x0 : Int) ∧ (x0 : Int) ≤ (s.size : Int)) = true := by rw [decide_eq_true_eq]; omega
      by_cases he : qE s n x0 = 0
      · have de : decide (qE s n (Int.toNat (x0 : Int)) = 0) = true := by rw [Int.toNat_natCast]; exact decide_eq_true he
        refine Q.runSeq (SPd false true n ih [] []) 100 121 hnt [4, 5, 7, 12, 13] (z := ⟨[(4, .ptr 1 0), (5, .ptr 2 0), (7, .ptr 3 0), (12, .ptr 4 0), (13, .ptr 5 0)], ⟨[rP s (qA s n x0), dZ, pZ, pBR y .nil, ⟨ndJ (qX s n x0), 24⟩, ⟨ndP (qX s n x0), 45⟩], []⟩⟩) (o := [(decide (0 ≤ (↑x0 : Int) ∧ (↑x0 : Int) ≤ (↑(ByteArray.size s) : Int)), true), (decide (IntKind.wrap IntKind.i64 (w + 1) = 1000 - (↑n : Int)), true), (decide (qE s n (Int.toNat (↑x0 : Int)) = 0), true), (Nat.ble (ByteArray.size s) 1099511627776, true)]) (by kernel_rfl) (by repeat' first | exact okO_nil | refine okN ?_ ?_ | assumption | rfl) ?_
        obtain ⟨X, hX⟩ : ∃ X, X = qX s n x0 := ⟨_, rfl⟩
        obtain ⟨p, hp'⟩ : ∃ X, X = qA s n x0 := ⟨_, rfl⟩
        rw [← hX, ← hp']
        have hs2 := rdD_steps s n (skp s x0) (skp_le s x0 (by omega))
        have eq2 : rdD s (n + 1) y = (.mk 3 0 ⟨#[]⟩ (.cons (.mk 2 0 wQuote .nil y) (.cons X .nil)) y, ⟨p, 0, 0⟩) := by
          rw [eq, hX, hp']
          have g1 : (rdD s n (skp s x0)).2 = ⟨qA s n x0, qE s n x0, qF s n x0⟩ := rfl
          have g2 : (rdD s n (skp s x0)).1 = qX s n x0 := rfl
          have hb0 : qF s n x0 = 0 := (hs2.1.ok he).2
          rw [g1, g2, he, hb0]
        obtain ⟨xp, hxp⟩ : ∃ z, z = (ndS X).pl := ⟨_, rfl⟩
        show SWP G0 C _ _ ⟨[(4, .ptr 1 0), (5, .ptr 2 0), (7, .ptr 3 0), (12, .ptr 4 0), (13, .ptr 5 0)], ⟨[rP s p, dZ, pZ, pBR y .nil, ⟨ndJ X, 24⟩, ⟨[.int .i64 (ndA X), .slice (Nds.len (ndS X)) (ndS X).pl], 45⟩], []⟩⟩
        rw [← hxp]
        refine Q.runSeq (SPd false true n ih [] []) 100 121 hnt [4, 5, 7, 12] (z := ⟨[(4, .ptr 1 0), (5, .ptr 2 0), (7, .ptr 3 0), (12, .ptr 4 0)], ⟨[⟨[.str s, .int .i64 (Int.ofNat p)], 101⟩, ⟨[.int .i64 (0 : Int), .int .i64 (0 : Int), .str ⟨#[]⟩, PV.nil], 24⟩, ⟨[.int .i64 (0 : Int), PV.nil], 45⟩, ⟨[.int .i64 (Int.ofNat y), .slice 2 [.int .i64 (Int.ofNat y), PV.nil, .int .i64 (ndA X), .slice (Nds.len (ndS X)) xp]], 45⟩, ⟨[.int .i64 (ndK X), .int .i64 (ndN X), .str (ndT X), .slice (Dats.len (Nds.dat (ndS X))) (Dats.cells (Nds.dat (ndS X)))], 24⟩, ⟨[.int .i64 (ndA X), .slice (Nds.len (ndS X)) xp], 45⟩], []⟩⟩) (o := []) (by kernel_rfl) (by repeat' first | exact okO_nil | refine okN ?_ ?_ | assumption | rfl) ?_
        refine Q.seq fun K hK => ?_
        refine SWP.runLQ (SPd false true n ih [] []) 100 121 hnt [4, 5] (l := List.replicate 5 { t := [(4, PV.ptr 1 0), (5, PV.ptr 2 0)], h := { bx := [{ cs := [PV.str s, PV.int IntKind.i64 (Int.ofNat p)], ty := 101 }, { cs := [PV.int IntKind.i64 (3 : Int), PV.int IntKind.i64 (0 : Int), PV.str { data := #[] }, PV.slice 2 [PV.int IntKind.i64 (2 : Int), PV.int IntKind.i64 (0 : Int), PV.str { data := #[113, 117, 111, 116, 101] }, PV.nil, PV.int IntKind.i64 (ndK X), PV.int IntKind.i64 (ndN X), PV.str (ndT X), PV.slice (Dats.len (Nds.dat (ndS X))) (Dats.cells (Nds.dat (ndS X)))]], ty := 24 }, { cs := [PV.int IntKind.i64 (Int.ofNat y), PV.slice 2 [PV.int IntKind.i64 (Int.ofNat y), PV.nil, PV.int IntKind.i64 (ndA X), PV.slice (Nds.len (ndS X)) xp]], ty := 45 }, { cs := [PV.int IntKind.i64 (Int.ofNat y), PV.slice 2 [PV.int IntKind.i64 (Int.ofNat y), PV.nil, PV.int IntKind.i64 (ndA X), PV.slice (Nds.len (ndS X)) xp]], ty := 45 }, { cs := [PV.int IntKind.i64 (ndK X), PV.int IntKind.i64 (ndN X), PV.str (ndT X), PV.slice (Dats.len (Nds.dat (ndS X))) (Dats.cells (Nds.dat (ndS X)))], ty := 24 }, { cs := [PV.int IntKind.i64 (ndA X), PV.slice (Nds.len (ndS X)) xp], ty := 45 }], rw := [] } }) (o := []) (by kernel_rfl) (by repeat' first | exact okO_nil | refine okN ?_ ?_ | assumption | rfl) (fun st hst => hK st (.norm [4, 5] ?_))
        rw [List.eq_of_mem_replicate hst]
        exact .ret (fin _ _ _ p _ _ rfl rfl rfl rfl rfl ⟨_, eq2, by
          simp only [nzL, PV.nz, Dats.nz, Dats.cells, Dat.cells, Nds.dat, Nd.dat, Dats.len]
          obtain ⟨k, n', t, ks, a'⟩ := X
          rfl, by
          rw [hxp]
          simp only [nzL, PV.nz, Nds.pl_nz, Nds.pl, Nd.pl, Nds.len]
          obtain ⟨k, n', t, ks, a'⟩ := X
          rfl⟩)
      · have de : decide (qE s n (Int.toNat (x0 : Int)) = 0) = false := by rw [Int.toNat_natCast]; exact decide_eq_false he
        refine Q.seq fun K hK => ?_
        exact SWP.runQ (SPd true true n ih [] []) 100 121 hnt [] (e := .panic (faultV (qF s n x0) (qE s n x0))) (z := ⟨[], ⟨[⟨[.str s, .int .i64 (rdF s n (skp s (Int.toNat (Int.ofNat x0))))], 101⟩, ⟨[.int .i64 (0 : Int), .int .i64 (0 : Int), .str ⟨#[]⟩, PV.nil], 24⟩, ⟨[.int .i64 (0 : Int), PV.nil], 45⟩, ⟨[.int .i64 (Int.ofNat y), PV.nil], 45⟩], []⟩⟩) (o := [(decide (0 ≤ (↑x0 : Int) ∧ (↑x0 : Int) ≤ (↑(ByteArray.size s) : Int)), true), (decide (IntKind.wrap IntKind.i64 (w + 1) = 1000 - (↑n : Int)), true), (decide (qE s n (Int.toNat (↑x0 : Int)) = 0), false), (Nat.ble (ByteArray.size s) 1099511627776, true)]) (by kernel_rfl) (by repeat' first | exact okO_nil | refine okN ?_ ?_ | assumption | rfl) (fun st hst => pan st (qF s n x0) (qE s n x0) _ _ (congrArg AS.h hst) he (by unfold rdE; rw [eq]; rfl) (by unfold rdF; rw [eq]; rfl))
theorem rp_at : ∀ N, N ≤ 1000 → RpAt N
  | 0, h => rp_step false 0 (fun h => by cases h) 0 (fun h => by cases h) (fun _ => rfl) h
  | n + 1, h => rp_step true n (fun _ => rp_at n (by omega)) (n + 1) (fun _ => rfl) (fun h => by cases h) h
end Seat
end Go.Proofs.YtkblfapbakfgpaaGreatDoor
namespace Go.Proofs.YtkblfapbakfgpaaGreatDoor
open Go.AS Go.RowKit
set_option linter.unusedVariables false
set_option linter.unusedSimpArgs false
set_option maxRecDepth 100000
set_option maxHeartbeats 400000
namespace Seat
noncomputable def G1 : Prg := ⟨Tryz.prog, T, hT, fun _ => none, mo⟩
noncomputable def SG1 : Cfg G1 := { F := F, hF := hF, S := fun _ _ => none, hS := fun _ _ _ _ h => by cases h }
theorem guard_idle (v1 v2 : Value) (w : World) : CallsD Tryz.prog 42 #[v1, v2] .returning w fun e u' w' => (∃ v, e = .returned v) ∧ u' = .returning ∧ Below w.heap.size w w' := by
  let E : Env := ⟨fun _ => 0, fun _ => .nilFunc, fun _ => False, w.heap.size, 0, 0⟩
  let a : Act := ({ tmps := #[v1, v2] ++ Array.replicate 19 undef, defers := [] } : Act).put (some 7) .nilIface
  have hrel : Rel G1 (Ctx.of w E 0 21) E ⟨[(7, .niliface)], ⟨[], []⟩⟩ a w := ⟨rfl, by simp [a, Act.put, Ctx.of], fun s => by
      simp only [lk]
      split
      · rename_i h
        subst h
        have : a.tmps.getD 7 undef = .nilIface := by simp [a, Act.put, Array.getD]
        rw [this]
        exact .imm .niliface
      · exact .junk _,
    ⟨rfl, rfl, Nat.le_refl _, fun i b hb => by simp at hb, fun i r hr => by simp at hr, fun i j h => absurd h (Nat.not_lt_zero _), fun i j r s k h => by simp at h, fun i j r h => absurd h (Nat.not_lt_zero _), fun k h => h.elim, fun k i h => absurd h (Nat.not_lt_zero _), fun k j r h => by simp at h, fun g cs hg => by cases hg⟩,
    rfl, Nat.zero_le _, fun _ _ => rfl, fun i h1 h2 => absurd h2 (Nat.not_lt_zero _), fun _ h => h, fun _ h => .inl h, fun _ _ _ _ => rfl, rfl, rfl, rfl, Nat.le_refl _, fun j s k hj => by simp at hj⟩
  refine callsD_recover Tryz.func42 rfl rfl (fun ρ => rfl) ?_
  refine wp_mono (SWP.runQ SG1 100 21 rfl [] (e := .normal) (z := ⟨[], ⟨[], []⟩⟩) (o := []) (Q := fun e s => e = .normal ∧ s.h = ⟨[], []⟩) (by kernel_rfl) (fun p hp => by cases hp) (fun st hst => ⟨rfl, congrArg AS.h hst⟩) E a w hrel) ?_
  rintro e a' w' ⟨ae, s, E', ⟨rfl, hs⟩, rfl, r⟩
  obtain ⟨v, h1, _⟩ := aret_ok (fn := Tryz.f42) (r := .tup []) r.fr r.hp rfl
  exact ⟨r.defers, v, h1, ⟨_, rfl⟩, rfl, ⟨r.os, r.tape, r.out, r.sz, fun k hk => r.keep k hk (fun i hi => absurd hi (Nat.not_lt_zero _)) (fun h => h)⟩⟩
end Seat
end Go.Proofs.YtkblfapbakfgpaaGreatDoor
namespace Go.Proofs.YtkblfapbakfgpaaGreatDoor
open Go.AS Go.RowKit
set_option linter.unusedVariables false
set_option linter.unusedSimpArgs false
set_option maxRecDepth 100000
set_option maxHeartbeats 1000000
namespace Seat
theorem guard_pan (b1 b2 : Nat) (x y : Int) (c1 c2 : Value) (w : World) (hne : b1 ≠ b2) (h1 : w.heap[b1]? = some (.cells #[c1] 3 (0, 0))) (h2 : w.heap[b2]? = some (.cells #[c2] 26 (0, 0))) :
    CallsD Tryz.prog 42 #[.pointer (some ⟨b1, 0, none⟩), .pointer (some ⟨b2, 0, none⟩)] (.panicking [{ v := .iface 116 (.agg #[.int .i64 x, .int .i64 y]), recovered := false }]) w fun e u' w' =>
      (∃ v, e = .returned v) ∧ u' = .panicking [{ v := .iface 116 (.agg #[.int .i64 x, .int .i64 y]), recovered := true }] ∧ Below w.heap.size (putBlk (putBlk w b1 [.int .i64 x] 3) b2 [.int .i64 y] 26) w' := by
  let E : Env := ⟨fun i => if i = 0 then b1 else b2, fun _ => .nilFunc, fun _ => False, w.heap.size, 2, 0⟩
  let fv : Value := .iface 116 (.agg #[.int .i64 x, .int .i64 y])
  let a : Act := ({ tmps := #[.pointer (some ⟨b1, 0, none⟩), .pointer (some ⟨b2, 0, none⟩)] ++ Array.replicate 19 undef, defers := [] } : Act).put (some 7) fv
  have two : ∀ i : Nat, i < 2 → i = 0 ∨ i = 1 := fun i h => by omega
  have hrel : Rel G1 ⟨w, E, 2, 21, w.heap.size, fun _ => False, []⟩ E ⟨[(7, .iface 116 (.agg [.int .i64 x, .int .i64 y])), (0, .ptr 0 0), (1, .ptr 1 0)], ⟨[⟨[.junk], 3⟩, ⟨[.junk], 26⟩], []⟩⟩ a w := ⟨rfl, by simp [a, Act.put], fun s => by
      simp only [lk]
      split
      · rename_i h
        subst h
        have : a.tmps.getD 7 undef = fv := by simp [a, Act.put, Array.getD]
        rw [this]
        exact .iface _ (.agg (vs := [.int .i64 x, .int .i64 y]) rfl fun j z v hz hv => by
          match j with
          | 0 => simp at hz hv; subst hz; subst hv; exact .imm (.int _ _)
          | 1 => simp at hz hv; subst hz; subst hv; exact .imm (.int _ _)
          | j + 2 => simp at hz)
      · split
        · rename_i h
          subst h
          have : a.tmps.getD 0 undef = .pointer (some ⟨b1, 0, none⟩) := by simp [a, Act.put, Array.getD]
          rw [this]
          exact .ptr (E := E) (b := 0) 0 (by show 0 < 2; omega)
        · split
          · rename_i h
            subst h
            have : a.tmps.getD 1 undef = .pointer (some ⟨b2, 0, none⟩) := by simp [a, Act.put, Array.getD]
            rw [this]
            exact .ptr (E := E) (b := 1) 0 (by show 1 < 2; omega)
          · exact .junk _,
    ⟨rfl, rfl, Nat.le_refl _, fun i b hb => by
        match i with
        | 0 => simp at hb; subst hb; exact ⟨[c1], h1, .cons (.junk _) (.nil _ _)⟩
        | 1 => simp at hb; subst hb; exact ⟨[c2], h2, .cons (.junk _) (.nil _ _)⟩
        | i + 2 => simp at hb, fun i r hr => by simp at hr, fun i j hi hj he => by
        rcases two i hi with rfl | rfl <;> rcases two j hj with rfl | rfl
        · rfl
        · exact absurd he hne
        · exact absurd he.symm hne
        · rfl, fun i j r s k h => by simp at h, fun i j r hi hj => by simp at hj, fun k h => h.elim, fun k i hi h => h.elim, fun k j r h => by simp at h, fun g cs hg => by cases hg⟩,
    rfl, Nat.le_refl _, fun _ _ => rfl, fun i h1 h2 => absurd h2 (Nat.not_lt.2 h1), fun _ h => h, fun _ h => .inl h, fun _ _ _ _ => rfl, rfl, rfl, rfl, Nat.le_refl _, fun j s k hj => by simp at hj⟩
  refine callsD_recover Tryz.func42 rfl rfl (fun ρ => rfl) ?_
  refine wp_mono (SWP.runQ SG1 100 21 rfl [] (e := .normal) (z := ⟨[], ⟨[⟨[.int .i64 x], 3⟩, ⟨[.int .i64 y], 26⟩, ⟨[.int .i64 x, .int .i64 y], 116⟩], []⟩⟩) (o := [(sameS { t := [(13, PV.ptr 0 0), (14, PV.ptr 1 0), (15, PV.ptr 2 0), (16, PV.int IntKind.i64 x), (17, PV.ptr 2 1), (18, PV.int IntKind.i64 y), (19, PV.ptr 0 0), (20, PV.ptr 1 0), (5, PV.ptr 2 0), (12, PV.agg [PV.int IntKind.i64 x, PV.int IntKind.i64 y]), (11, PV.bool true), (10, PV.tup [PV.agg [PV.int IntKind.i64 x, PV.int IntKind.i64 y], PV.bool true]), (9, PV.bool false), (7, PV.iface 116 (PV.agg [PV.int IntKind.i64 x, PV.int IntKind.i64 y])), (0, PV.ptr 0 0), (1, PV.ptr 1 0)], h := { bx := [{ cs := [PV.int IntKind.i64 x], ty := 3 }, { cs := [PV.int IntKind.i64 y], ty := 26 }, { cs := [PV.int IntKind.i64 x, PV.int IntKind.i64 y], ty := 116 }], rw := [] } } { t := [(13, PV.ptr 0 0), (14, PV.ptr 1 0), (15, PV.ptr 2 0), (16, PV.int IntKind.i64 x), (17, PV.ptr 2 1), (18, PV.int IntKind.i64 y), (19, PV.ptr 0 0), (20, PV.ptr 1 0), (5, PV.ptr 2 0), (12, PV.agg [PV.int IntKind.i64 x, PV.int IntKind.i64 y]), (11, PV.bool true), (10, PV.tup [PV.agg [PV.int IntKind.i64 x, PV.int IntKind.i64 y], PV.bool true]), (9, PV.bool false), (7, PV.iface 116 (PV.agg [PV.int IntKind.i64 x, PV.int IntKind.i64 y])), (0, PV.ptr 0 0), (1, PV.ptr 1 0)], h := { bx := [{ cs := [PV.int IntKind.i64 x], ty := 3 }, { cs := [PV.int IntKind.i64 y], ty := 26 }, { cs := [PV.int IntKind.i64 x, PV.int IntKind.i64 y], ty := 116 }], rw := [] } }, true), (sameS { t := [(13, PV.ptr 0 0), (14, PV.ptr 1 0), (15, PV.ptr 2 0), (16, PV.int IntKind.i64 x), (17, PV.ptr 2 1), (18, PV.int IntKind.i64 y), (19, PV.ptr 0 0), (20, PV.ptr 1 0), (5, PV.ptr 2 0), (12, PV.agg [PV.int IntKind.i64 x, PV.int IntKind.i64 y]), (11, PV.bool true), (10, PV.tup [PV.agg [PV.int IntKind.i64 x, PV.int IntKind.i64 y], PV.bool true]), (9, PV.bool false), (7, PV.iface 116 (PV.agg [PV.int IntKind.i64 x, PV.int IntKind.i64 y])), (0, PV.ptr 0 0), (1, PV.ptr 1 0)], h := { bx := [{ cs := [PV.int IntKind.i64 x], ty := 3 }, { cs := [PV.int IntKind.i64 y], ty := 26 }, { cs := [PV.int IntKind.i64 x, PV.int IntKind.i64 y], ty := 116 }], rw := [] } } { t := [(13, PV.ptr 0 0), (14, PV.ptr 1 0), (15, PV.ptr 2 0), (16, PV.int IntKind.i64 x), (17, PV.ptr 2 1), (18, PV.int IntKind.i64 y), (19, PV.ptr 0 0), (20, PV.ptr 1 0), (5, PV.ptr 2 0), (12, PV.agg [PV.int IntKind.i64 x, PV.int IntKind.i64 y]), (11, PV.bool true), (10, PV.tup [PV.agg [PV.int IntKind.i64 x, PV.int IntKind.i64 y], PV.bool true]), (9, PV.bool false), (7, PV.iface 116 (PV.agg [PV.int IntKind.i64 x, PV.int IntKind.i64 y])), (0, PV.ptr 0 0), (1, PV.ptr 1 0)], h := { bx := [{ cs := [PV.int IntKind.i64 x], ty := 3 }, { cs := [PV.int IntKind.i64 y], ty := 26 }, { cs := [PV.int IntKind.i64 x, PV.int IntKind.i64 y], ty := 116 }], rw := [] } }, true)]) (Q := fun e s => e = .normal ∧ s.h.bx.length = 3 ∧ s.h.bx[0]? = some ⟨[.int .i64 x], 3⟩ ∧ s.h.bx[1]? = some ⟨[.int .i64 y], 26⟩) (by kernel_rfl) (by ((repeat' (first | exact okO_nil | refine okN ?_ ?_)); all_goals first | assumption | rfl | exact same_of rfl | exact sameS_self _ | (simp only [decide_eq_true_eq, decide_eq_false_iff_not, Nat.ble_eq, Nat.beq_eq, beq_eq_false_iff_ne, beq_iff_eq, ne_eq] <;> omega))) (fun st hst => ⟨rfl, by have e := congrArg AS.h hst; have e2 : st.h = _ := e; rw [e2]; exact ⟨rfl, rfl, rfl⟩⟩) E a w hrel) ?_
  rintro e a' w' ⟨ae, s, E', ⟨rfl, _, hb0, hb1⟩, rfl, r⟩
  obtain ⟨v, g1, _⟩ := aret_ok (fn := Tryz.f42) (r := .tup []) r.fr r.hp rfl
  obtain ⟨us, k1, k2⟩ := r.hp.box 0 _ hb0
  obtain ⟨vs, k3, k4⟩ := r.hp.box 1 _ hb1
  obtain ⟨u, us', rfl, hu, hus⟩ := k2.cons_inv
  obtain rfl := hus.nil_inv
  obtain rfl := hu.int_inv
  obtain ⟨u, vs', rfl, hu, hus⟩ := k4.cons_inv
  obtain rfl := hus.nil_inv
  obtain rfl := hu.int_inv
  have e0 : E'.β 0 = b1 := r.β 0 (by show 0 < 2; omega)
  have e1 : E'.β 1 = b2 := r.β 1 (by show 1 < 2; omega)
  rw [e0] at k1
  rw [e1] at k3
  have l1 : b1 < w.heap.size := (Array.getElem?_eq_some_iff.1 h1).1
  have l2 : b2 < w.heap.size := (Array.getElem?_eq_some_iff.1 h2).1
  refine ⟨r.defers, v, g1, ⟨_, rfl⟩, rfl, ⟨r.os, r.tape, r.out, by rw [putBlk_size, putBlk_size]; exact r.sz, fun k hk => ?_⟩⟩
  by_cases q2 : k = b2
  · subst q2
    rw [k3, putBlk_at (by rw [putBlk_size]; exact l2)]
  · rw [putBlk_ne q2]
    by_cases q1 : k = b1
    · subst q1
      rw [k1, putBlk_at l1]
    · rw [putBlk_ne q1]
      exact r.keep k hk (fun i hi he => by
        rcases two i hi with rfl | rfl
        · exact q1 he.symm
        · exact q2 he.symm) (fun h => h)
theorem guardOk (G : Prg) (hP : G.P = Tryz.prog) : Guard G 42 116 3 26 .i64 .i64 := ⟨fun v1 v2 w => by rw [hP]; exact guard_idle v1 v2 w, fun b1 b2 x y c1 c2 w hne h1 h2 => by rw [hP]; exact guard_pan b1 b2 x y c1 c2 w hne h1 h2⟩
end Seat
end Go.Proofs.YtkblfapbakfgpaaGreatDoor
namespace Go.Proofs.YtkblfapbakfgpaaGreatDoor
open Go.AS Go.RowKit
set_option linter.unusedVariables false
set_option linter.unusedSimpArgs false
set_option maxRecDepth 100000
set_option maxHeartbeats 4000000
namespace Seat
def iZ (a : Int) : Box := ⟨[.int .i64 a], 3⟩
def eZ (a : Int) : Box := ⟨[.int .i64 a], 26⟩
noncomputable def SLgR (pn : Bool) (l : List (Nat × List (Nat × Bool))) (v : List (Nat × List (Nat × PV))) : Cfg G0 := SPd pn true 1000 (fun _ => rp_at 1000 (Nat.le_refl _)) l v
def lnRR (s : ByteArray) : Nd × Int × Int :=
  if rdE s 1000 (skp s 0) = 0 then (if skp s (rdA s 1000 (skp s 0)) < s.size then (.zero, (skp s (rdA s 1000 (skp s 0)) : Nat), 4) else (rdX s 1000 (skp s 0), 0, 0)) else (.zero, rdF s 1000 (skp s 0), rdE s 1000 (skp s 0))
theorem lnR_eq (s : ByteArray) : lnRR s =
  (if rdE s 1000 (skp s 0) = 0 then (if skp s (rdA s 1000 (skp s 0)) < s.size then (.zero, (skp s (rdA s 1000 (skp s 0)) : Nat), 4) else (rdX s 1000 (skp s 0), 0, 0)) else (.zero, rdF s 1000 (skp s 0), rdE s 1000 (skp s 0)) : Nd × Int × Int) := rfl
def lnX (s : ByteArray) : Nd := (lnRR s).1
def lnA (s : ByteArray) : Int := (lnRR s).2.1
def lnE (s : ByteArray) : Int := (lnRR s).2.2
theorem long_ok (s : ByteArray) (hs : s.size ≤ 1099511627776) : Pure G0 30 [.str s] (fun r => r = .tup [.agg (ndJ (lnX s)), .agg (ndP (lnX s)), .int .i64 (lnA s), .int .i64 (lnE s)]) := by
  refine Pure.nz ?_
  have hss : Nat.ble s.size 1099511627776 = true := Nat.ble_eq_true_of_le hs
  refine PCalls.deferQ (s1 := ⟨[(0, .str s), (2, .ptr 0 0), (3, .ptr 1 0), (4, .ptr 2 0), (5, .ptr 3 0)], ⟨[dZ, pZ, iZ 0, eZ 0], []⟩⟩) (b1 := 2) (b2 := 3) Tryz.func30 Tryz.ntmps30 rfl (Nat.le_of_ble_eq_true rfl) (guardOk G0 rfl) Tryz.func42 (by kernel_rfl) rfl rfl rfl rfl rfl rfl rfl (by decide) rfl
    (fun C hC => SWP.normQ (SWP.runQ (SLgR false [] []) 100 30 hC [0, 2, 3, 4, 5] (e := .normal) (z := ⟨[(0, .str s), (2, .ptr 0 0), (3, .ptr 1 0), (4, .ptr 2 0), (5, .ptr 3 0)], ⟨[⟨[.int .i64 (0 : Int), .int .i64 (0 : Int), .str ⟨#[]⟩, PV.nil], 24⟩, ⟨[.int .i64 (0 : Int), PV.nil], 45⟩, ⟨[.int .i64 (0 : Int)], 3⟩, ⟨[.int .i64 (0 : Int)], 26⟩], []⟩⟩) (o := []) (by kernel_rfl) (by repeat' first | exact okO_nil | refine okN ?_ ?_ | assumption | rfl) (fun st hst => ⟨[0, 2, 3, 4, 5], rfl, hst⟩))) fun C fr fp hnt hnb hfr hfp => ?_
  have eq := lnR_eq s
  have fin : ∀ st d p a e bx rw', nrm [2, 3, 4, 5] st = ⟨[(2, .ptr 0 0), (3, .ptr 1 0), (4, .ptr 2 0), (5, .ptr 3 0)], ⟨⟨d, 24⟩ :: ⟨p, 45⟩ :: iZ a :: eZ e :: bx, rw'⟩⟩ → d.length = 4 → p.length = 2 → scL 0 d = true → scL 0 p = true → nzL d = ndJ (lnX s) → nzL p = ndP (lnX s) → lnA s = a → lnE s = e → fr st := fun st d p a e bx rw' hst l1 l2 s1 s2 g1 g2 g3 g4 => hfr st [2, 3, 4, 5] (by
    rw [hst]
    refine ⟨0, .tup [.agg d, .agg p, .int .i64 a, .int .i64 e], Nat.le_refl _, Nat.zero_le _, ?_, ?_, rfl, rfl, _, rfl, ?_⟩
    · match d, l1, p, l2 with
      | [d1, d2, d3, d4], _, [p1, p2], _ => rfl
    · simp only [PV.sc, scL, s1, s2, Bool.and_true]
    · show PV.tup [.agg (nzL d), .agg (nzL p), .int .i64 a, .int .i64 e] = _
      rw [g1, g2, g3, g4])
  have pan : ∀ st (a e : Int) bx rw', nrm [2, 3, 4, 5] st = ⟨[(2, .ptr 0 0), (3, .ptr 1 0), (4, .ptr 2 0), (5, .ptr 3 0)], ⟨dZ :: pZ :: iZ 0 :: eZ 0 :: bx, rw'⟩⟩ → lnRR s = (.zero, a, e) → fp (faultV a e) st := fun st a e bx rw' hst h => hfp a e st [2, 3, 4, 5] (.int .i64 0) (.int .i64 0) (by rw [hst]; rfl) (by rw [hst]; rfl) (by
    rw [hst]
    refine ⟨0, .tup [.agg dZ.cs, .agg pZ.cs, .int .i64 a, .int .i64 e], Nat.le_refl _, Nat.zero_le _, rfl, rfl, rfl, rfl, _, rfl, ?_⟩
    unfold lnX lnA lnE
    rw [h]
    rfl)
  refine Q.runSeq (SLgR false [] []) 100 30 hnt [0, 2, 3, 4, 5, 6] (z := ⟨[(0, .str s), (2, .ptr 0 0), (3, .ptr 1 0), (4, .ptr 2 0), (5, .ptr 3 0), (6, .ptr 4 0)], ⟨[⟨[.int .i64 (0 : Int), .int .i64 (0 : Int), .str ⟨#[]⟩, PV.nil], 24⟩, ⟨[.int .i64 (0 : Int), PV.nil], 45⟩, ⟨[.int .i64 (0 : Int)], 3⟩, ⟨[.int .i64 (0 : Int)], 26⟩, ⟨[.str s, .int .i64 (0 : Int)], 101⟩], []⟩⟩) (o := []) (by kernel_rfl) (by repeat' first | exact okO_nil | refine okN ?_ ?_ | assumption | rfl) ?_
  have hst := rdD_steps s 1000 (skp s 0) (skp_le s 0 (Nat.zero_le _))
  have hin : RS.In s 1000 ⟨rdA s 1000 (skp s 0), rdE s 1000 (skp s 0), rdF s 1000 (skp s 0)⟩ := hst.1
  by_cases he : rdE s 1000 (skp s 0) = 0
  · have de : decide (qE s 1000 (Int.toNat ((0 : Nat) : Int)) = 0) = true := decide_eq_true he
    have d0 : decide ((0 : Int) ≤ 0 ∧ (0 : Int) ≤ (s.size : Int)) = true := by rw [decide_eq_true_eq]; omega
    rw [if_pos he] at eq
    refine Q.runSeq (SLgR false [] []) 100 30 hnt [0, 2, 3, 4, 5, 6, 7, 8] (z := ⟨[(0, .str s), (2, .ptr 0 0), (3, .ptr 1 0), (4, .ptr 2 0), (5, .ptr 3 0), (6, .ptr 4 0), (7, .ptr 5 0), (8, .ptr 6 0)], ⟨[dZ, pZ, iZ 0, eZ 0, rP s (qA s 1000 0), ⟨ndJ (qX s 1000 0), 24⟩, ⟨ndP (qX s 1000 0), 45⟩], []⟩⟩) (o := [(true, true), (true, true), (decide (qE s 1000 (Int.toNat (↑0 : Int)) = 0), true), (Nat.ble (ByteArray.size s) 1099511627776, true)]) (by kernel_rfl) (by repeat' first | exact okO_nil | refine okN ?_ ?_ | assumption | rfl) ?_
    have hA : (rdA s 1000 (skp s 0)) ≤ s.size := (hin.ok he).1
    obtain ⟨X, hX⟩ : ∃ X, X = qX s 1000 0 := ⟨_, rfl⟩
    obtain ⟨p, hp'⟩ : ∃ X, X = qA s 1000 0 := ⟨_, rfl⟩
    obtain ⟨xp, hxp⟩ : ∃ z, z = (ndS X).pl := ⟨_, rfl⟩
    refine swp_st (st' := ⟨[(0, .str s), (2, .ptr 0 0), (3, .ptr 1 0), (4, .ptr 2 0), (5, .ptr 3 0), (6, .ptr 4 0), (7, .ptr 5 0), (8, .ptr 6 0)], ⟨[dZ, pZ, iZ 0, eZ 0, rP s p, ⟨ndJ X, 24⟩, ⟨[.int .i64 (ndA X), .slice (Nds.len (ndS X)) xp], 45⟩], []⟩⟩) (by rw [hxp, hX, hp']; rfl) ?_
    have e1 : rdA s 1000 (skp s 0) = p := hp'.symm
    have e2 : rdX s 1000 (skp s 0) = X := hX.symm
    rw [e1, e2] at eq
    rw [e1] at hA
    have dp : decide (0 ≤ (p : Int) ∧ (p : Int) ≤ (s.size : Int)) = true := by rw [decide_eq_true_eq]; omega
    have hle := skp_le s p hA
    rcases Nat.lt_or_ge (skp s p) s.size with hl | hg
    · rw [if_pos hl] at eq
      have dl : decide (((skp s (Int.toNat (p : Int)) : Nat) : Int) < (s.size : Int)) = true := lt_at hl
      refine Q.seq fun K hK => ?_
      exact SWP.runQ (SLgR false [(30, [(25, true)])] []) 100 30 hnt [2, 3, 4, 5] (e := .panic (faultV (Int.ofNat (skp s p)) 4)) (z := ⟨[(2, .ptr 0 0), (3, .ptr 1 0), (4, .ptr 2 0), (5, .ptr 3 0)], ⟨[⟨[.int .i64 (0 : Int), .int .i64 (0 : Int), .str ⟨#[]⟩, PV.nil], 24⟩, ⟨[.int .i64 (0 : Int), PV.nil], 45⟩, ⟨[.int .i64 (0 : Int)], 3⟩, ⟨[.int .i64 (0 : Int)], 26⟩, ⟨[.str s, .int .i64 (Int.ofNat (skp s (Int.toNat (Int.ofNat p))))], 101⟩, ⟨[.int .i64 (ndK X), .int .i64 (ndN X), .str (ndT X), .slice (Dats.len (Nds.dat (ndS X))) (Dats.cells (Nds.dat (ndS X)))], 24⟩, ⟨[.int .i64 (ndA X), .slice (Nds.len (ndS X)) xp], 45⟩], []⟩⟩) (o := [(decide (0 ≤ (↑p : Int) ∧ (↑p : Int) ≤ (↑(ByteArray.size s) : Int)), true), (Nat.ble (ByteArray.size s) 1099511627776, true), (decide ((↑(skp s (Int.toNat (↑p : Int))) : Int) < (↑(ByteArray.size s) : Int)), true), (true, true), (true, true)]) (by kernel_rfl) (by repeat' first | exact okO_nil | refine okN ?_ ?_ | assumption | rfl) (fun st hst => pan st (skp s p : Nat) 4 _ _ hst eq)
    · rw [if_neg (by omega)] at eq
      have dl : decide (((skp s (Int.toNat (p : Int)) : Nat) : Int) < (s.size : Int)) = false := ge_at hg
      refine Q.runSeq (SLgR false [(30, [(25, false)])] []) 100 30 hnt [2, 3, 4, 5, 7, 8] (z := ⟨[(2, .ptr 0 0), (3, .ptr 1 0), (4, .ptr 2 0), (5, .ptr 3 0), (7, .ptr 5 0), (8, .ptr 6 0)], ⟨[⟨[.int .i64 (0 : Int), .int .i64 (0 : Int), .str ⟨#[]⟩, PV.nil], 24⟩, ⟨[.int .i64 (0 : Int), PV.nil], 45⟩, ⟨[.int .i64 (0 : Int)], 3⟩, ⟨[.int .i64 (0 : Int)], 26⟩, ⟨[.str s, .int .i64 (Int.ofNat (skp s (Int.toNat (Int.ofNat p))))], 101⟩, ⟨[.int .i64 (ndK X), .int .i64 (ndN X), .str (ndT X), .slice (Dats.len (Nds.dat (ndS X))) (Dats.cells (Nds.dat (ndS X)))], 24⟩, ⟨[.int .i64 (ndA X), .slice (Nds.len (ndS X)) xp], 45⟩], []⟩⟩) (o := [(decide (0 ≤ (↑p : Int) ∧ (↑p : Int) ≤ (↑(ByteArray.size s) : Int)), true), (Nat.ble (ByteArray.size s) 1099511627776, true), (decide ((↑(skp s (Int.toNat (↑p : Int))) : Int) < (↑(ByteArray.size s) : Int)), false), (false, false)]) (by kernel_rfl) (by repeat' first | exact okO_nil | refine okN ?_ ?_ | assumption | rfl) ?_
      obtain ⟨q, hq⟩ : ∃ q, q = skp s p := ⟨_, rfl⟩
      refine swp_st (st' := ⟨[(2, .ptr 0 0), (3, .ptr 1 0), (4, .ptr 2 0), (5, .ptr 3 0), (7, .ptr 5 0), (8, .ptr 6 0)], ⟨[dZ, pZ, iZ 0, eZ 0, rP s q, ⟨ndJ X, 24⟩, ⟨[.int .i64 (ndA X), .slice (Nds.len (ndS X)) xp], 45⟩], []⟩⟩) (by rw [hq]; rfl) ?_
      refine Q.seq fun K hK => ?_
      refine SWP.runLQ (SLgR false [] []) 100 30 hnt [2, 3, 4, 5] (l := List.replicate 2 { t := [(2, PV.ptr 0 0), (3, PV.ptr 1 0), (4, PV.ptr 2 0), (5, PV.ptr 3 0)], h := { bx := [{ cs := [PV.int IntKind.i64 (ndK X), PV.int IntKind.i64 (ndN X), PV.str (ndT X), PV.slice (Dats.len (Nds.dat (ndS X))) (Dats.cells (Nds.dat (ndS X)))], ty := 24 }, { cs := [PV.int IntKind.i64 (ndA X), PV.slice (Nds.len (ndS X)) xp], ty := 45 }, { cs := [PV.int IntKind.i64 (0 : Int)], ty := 3 }, { cs := [PV.int IntKind.i64 (0 : Int)], ty := 26 }, { cs := [PV.str s, PV.int IntKind.i64 (Int.ofNat q)], ty := 101 }, { cs := [PV.int IntKind.i64 (ndK X), PV.int IntKind.i64 (ndN X), PV.str (ndT X), PV.slice (Dats.len (Nds.dat (ndS X))) (Dats.cells (Nds.dat (ndS X)))], ty := 24 }, { cs := [PV.int IntKind.i64 (ndA X), PV.slice (Nds.len (ndS X)) xp], ty := 45 }], rw := [] } }) (o := []) (by kernel_rfl) (by repeat' first | exact okO_nil | refine okN ?_ ?_ | assumption | rfl) (fun st hst => hK st (.norm [2, 3, 4, 5] ?_))
      rw [List.eq_of_mem_replicate hst]
      refine .ret (fin _ _ _ 0 0 _ _ rfl rfl rfl rfl rfl ?_ ?_ ?_ ?_)
      · unfold lnX; rw [eq]; show nzL (ndJ X) = _; rw [ndJ_eq, Dat.nz]
      · unfold lnX; rw [eq, hxp]; show nzL (ndP X) = _; rw [ndP_eq, Nd.pl_nz]
      · unfold lnA; rw [eq]
      · unfold lnE; rw [eq]
  · have de : decide (qE s 1000 (Int.toNat ((0 : Nat) : Int)) = 0) = false := decide_eq_false he
    have d0 : decide ((0 : Int) ≤ 0 ∧ (0 : Int) ≤ (s.size : Int)) = true := by rw [decide_eq_true_eq]; omega
    rw [if_neg he] at eq
    refine Q.seq fun K hK => ?_
    exact SWP.runQ (SLgR true [] []) 100 30 hnt [2, 3, 4, 5] (e := .panic (faultV (qF s 1000 0) (qE s 1000 0))) (z := ⟨[(2, .ptr 0 0), (3, .ptr 1 0), (4, .ptr 2 0), (5, .ptr 3 0)], ⟨[⟨[.int .i64 (0 : Int), .int .i64 (0 : Int), .str ⟨#[]⟩, PV.nil], 24⟩, ⟨[.int .i64 (0 : Int), PV.nil], 45⟩, ⟨[.int .i64 (0 : Int)], 3⟩, ⟨[.int .i64 (0 : Int)], 26⟩, ⟨[.str s, .int .i64 (rdF s 1000 (skp s 0))], 101⟩], []⟩⟩) (o := [(true, true), (true, true), (decide (qE s 1000 (Int.toNat (↑0 : Int)) = 0), false), (Nat.ble (ByteArray.size s) 1099511627776, true)]) (by kernel_rfl) (by repeat' first | exact okO_nil | refine okN ?_ ?_ | assumption | rfl) (fun st hst => pan st (qF s 1000 0) (qE s 1000 0) _ _ hst eq)
end Seat
end Go.Proofs.YtkblfapbakfgpaaGreatDoor
namespace Go.Proofs.YtkblfapbakfgpaaGreatDoor
open Go.AS Go.RowKit
set_option linter.unusedVariables false
set_option linter.unusedSimpArgs false
set_option maxRecDepth 100000
set_option maxHeartbeats 4000000
namespace Seat
theorem one_long {s : ByteArray} (h : s.size ≤ 20000) : oneR s = lnRR s := by
  unfold oneR
  rw [if_neg (by omega)]; rfl
theorem one_big {s : ByteArray} (h : 20000 < s.size) : oneR s = (.zero, 0, 3) := by
  unfold oneR
  rw [if_pos h]
noncomputable def reS (f : Nat) (args : List PV) : Option (PV × Ob) := match f, args with
  | 30, [.str s] => some (.tup [.agg (ndJ (lnX s)), .agg (ndP (lnX s)), .int .i64 (lnA s), .int .i64 (lnE s)], [(Nat.ble s.size 1099511627776, true)])
  | 24, [.agg cs] => some (.int .i64 (ofCells chkD 0 cs), [(isGood cs, true)])
  | 39, [.agg cs] => some (.str (mkS (txC cs)), [(isTxt cs, true), (Nat.ble 1 (txC cs).length, true)])
  | _, _ => none
theorem reS_ok (f : Nat) (args : List PV) (r : PV) (o : Ob) (h : reS f args = some (r, o)) (ho : ∀ p ∈ o, p.1 = p.2) (_ : pureL args = true) : Pure G0 f args (fun x => x = r) := by
  unfold reS at h
  split at h
  · rename_i s _
    cases h
    exact long_ok s (Nat.le_of_ble_eq_true (ho _ (List.mem_singleton.2 rfl)))
  · cases h
    obtain ⟨d, rfl, h1⟩ := isGood_of (ho _ (List.mem_singleton.2 rfl))
    rw [ofCells_at]; exact dcheck_ok d h1
  · rename_i cs _
    cases h
    have h1 := ho (isTxt cs, true) (by simp)
    have h2 := ho (Nat.ble 1 (txC cs).length, true) (by simp)
    obtain ⟨d, rfl, g1, g2, g3⟩ := isTxt_of h1
    rw [txC_at] at h2 ⊢
    exact text_prog d g1 g2 (Nat.le_of_ble_eq_true h2) g3
  · cases h
noncomputable def SRe (l : List (Nat × List (Nat × Bool))) (v : List (Nat × List (Nat × PV))) : Cfg G0 := { F := F, hF := hF, S := reS, hS := reS_ok, orc := orcM l, val := valM v }
theorem readP (s : ByteArray) : Pure G0 18 [.str s] (fun r => r = .tup [.agg (ndJ (onX s)), .agg (ndP (onX s)), .int .i64 (onA s), .int .i64 (onE s)]) := by
  refine Pure.nz ?_
  refine Fn.enterB Tryz.func18 Tryz.ntmps18 rfl (Nat.le_of_ble_eq_true rfl) fun C fr fp hnt hnb hp hfr hfp => ?_
  by_cases hb : 20000 < s.size
  · have d1 : decide (20000 < (s.size : Int)) = true := by rw [decide_eq_true_eq]; omega
    exact SWP.runQ (SRe [(17, [(8, true)])] []) 100 17 hnt [2, 3, 4, 5] (e := .ret) (z := ⟨[(2, .ptr 0 0), (3, .ptr 1 0), (4, .int .i64 (0 : Int)), (5, .int .i64 (3 : Int))], ⟨[⟨[.int .i64 (0 : Int), .int .i64 (0 : Int), .str ⟨#[]⟩, PV.nil], 24⟩, ⟨[.int .i64 (0 : Int), PV.nil], 45⟩], []⟩⟩) (o := [(decide (20000 < (↑(ByteArray.size s) : Int)), true), (true, true)]) (by kernel_rfl) (by repeat' first | exact okO_nil | refine okN ?_ ?_ | assumption | rfl) (fun st hst => hfr st [2, 3, 4, 5] (by
      rw [hst]
      refine ⟨0, .tup [.agg [.int .i64 0, .int .i64 0, .str ⟨#[]⟩, .nil], .agg [.int .i64 0, .nil], .int .i64 0, .int .i64 3], Nat.le_refl _, Nat.zero_le _, rfl, rfl, rfl, rfl, _, rfl, ?_⟩
      unfold onX onA onE
      rw [one_big hb]; rfl))
  · have d1 : decide (20000 < (s.size : Int)) = false := by rw [decide_eq_false_iff_not]; omega
    have d2 : Nat.ble s.size 1099511627776 = true := by rw [Nat.ble_eq]; omega
    exact SWP.runQ (SRe [(17, [(8, false)])] []) 100 17 hnt [2, 3, 4, 5] (e := .ret) (z := ⟨[(2, .ptr 0 0), (3, .ptr 1 0), (4, .int .i64 (lnA s)), (5, .int .i64 (lnE s))], ⟨[⟨[.int .i64 (ndK (lnX s)), .int .i64 (ndN (lnX s)), .str (ndT (lnX s)), .slice (Dats.len (Nds.dat (ndS (lnX s)))) (Dats.cells (Nds.dat (ndS (lnX s))))], 24⟩, ⟨[.int .i64 (ndA (lnX s)), .slice (Nds.len (ndS (lnX s))) (Nds.pl (ndS (lnX s)))], 45⟩], []⟩⟩) (o := [(decide (20000 < (↑(ByteArray.size s) : Int)), false), (false, false), (true, true), (Nat.ble (ByteArray.size s) 1099511627776, true)]) (by kernel_rfl) (by repeat' first | exact okO_nil | refine okN ?_ ?_ | assumption | rfl) (fun st hst => hfr st [2, 3, 4, 5] (by
      rw [hst]
      refine ⟨0, .tup [.agg (ndJ (lnX s)), .agg (ndP (lnX s)), .int .i64 (lnA s), .int .i64 (lnE s)], Nat.le_refl _, Nat.zero_le _, rfl, rfl, rfl, rfl, _, rfl, ?_⟩
      show PV.tup [.agg (nzL (ndJ (lnX s))), .agg (nzL (ndP (lnX s))), .int .i64 (lnA s), .int .i64 (lnE s)] = _
      unfold onX onA onE
      rw [one_long (by omega), ndJ_eq, ndP_eq, Dat.nz, Nd.pl_nz, ← ndJ_eq, ← ndP_eq]; rfl))
theorem chk_formedR {d : Dat} (h : chkD d = 0) : formedD d = true ∧ w64 (parts d) ≤ 100000 ∧ deepN d ≤ 1000 := by
  unfold chkD at h
  split at h
  · exact absurd h (by decide)
  · rename_i h1
    split at h
    · exact absurd h (by decide)
    · split at h
      · exact absurd h (by decide)
      · refine ⟨by simpa using h1, by omega, by omega⟩
end Seat
end Go.Proofs.YtkblfapbakfgpaaGreatDoor
namespace Go.Proofs.YtkblfapbakfgpaaGreatDoor
open Go.AS
set_option linter.unusedVariables false
set_option linter.unusedSimpArgs false
set_option maxRecDepth 10000
namespace Seat
theorem al_back {c : Dat} {w : Int} (h : alE (.cons c .nil) w = 0) : chkD c = 0 ∧ fitE w = 0 ∧ (layT w.toNat c 0 0 ++ [10]).length ≤ 2000000 ∧ alB (.cons c .nil) w = mkS (layT w.toNat c 0 0 ++ [10]) := by
  have hb : alB (.cons c .nil) w = mkS (layT w.toNat c 0 0 ++ [10]) := by rw [alB, if_pos h, aT_one]
  unfold alE at h
  have hch : chkA (.cons c .nil) = chkD c := by
    rw [chkA]
    split
    · rename_i g; rw [g]; rfl
    · rfl
  rw [hch] at h
  by_cases h1 : chkD c = 0
  · rw [if_pos h1] at h
    by_cases h2 : fitE w = 0
    · rw [if_pos h2, aT_one] at h
      by_cases h3 : (layT w.toNat c 0 0 ++ [10]).length ≤ 2000000
      · exact ⟨h1, h2, h3, hb⟩
      · rw [if_neg h3] at h; exact absurd h (by decide)
    · rw [if_neg h2] at h; exact absurd h h2
  · rw [if_neg h1] at h; exact absurd h h1
theorem back_fact {c : Dat} {w : Int} (hc : Small c) (h : alE (.cons c .nil) w = 0) (hl : (alB (.cons c .nil) w).size ≤ 20000) : onE (alB (.cons c .nil) w) = 0 ∧ (onX (alB (.cons c .nil) w)).dat = c ∧ onA (alB (.cons c .nil) w) = 0 := by
  obtain ⟨h1, _, _, h4⟩ := al_back h
  obtain ⟨g1, g2, g3⟩ := chk_formedR h1
  rw [h4] at hl ⊢
  exact one_lay w.toNat c g1 hc.2.1 g3 _ (toList_mk _) hl
noncomputable def isdB (s : ByteArray) (w : Int) : Bool := by
  classical exact decide (onE s = 0 ∧ fitE w = 0 ∧ alB (.cons (onX s).dat .nil) w = s)
def isdE (s : ByteArray) (w : Int) : Int := if onE s = 0 then fitE w else onE s
theorem isdB_eq (s : ByteArray) (w : Int) : isdB s w = true ↔ (onE s = 0 ∧ fitE w = 0 ∧ alB (.cons (onX s).dat .nil) w = s) := by
  unfold isdB
  classical exact decide_eq_true_iff
mutual
theorem Nd.dat_okL : ∀ x : Nd, x.ok → x.dat.ok
  | .mk k n t ks a, h => ⟨by rw [Nds.dat_len]; have : ks.len ≤ 1099511627777 := h.1; omega, Nds.dat_okL ks h.2⟩
theorem Nds.dat_okL : ∀ x : Nds, x.ok → x.dat.ok
  | .nil, _ => trivial
  | .cons d ds, h => ⟨Nd.dat_okL d h.1, Nds.dat_okL ds h.2⟩
end
theorem on_small {s : ByteArray} (h : onE s = 0) : Small (onX s).dat := by
  obtain ⟨h1, h2, h3⟩ := onX_chk s h
  exact ⟨Nd.dat_okL _ (onX_ok s), h2, by omega⟩
theorem same_fact {c : Dat} {w : Int} (hc : Small c) (h : alE (.cons c .nil) w = 0) (hl : (alB (.cons c .nil) w).size ≤ 20000) : isdB (alB (.cons c .nil) w) w = true ∧ isdE (alB (.cons c .nil) w) w = 0 := by
  obtain ⟨g1, g2, g3⟩ := back_fact hc h hl
  have hf := (al_back h).2.1
  refine ⟨(isdB_eq _ _).2 ⟨g1, hf, by rw [g2]⟩, ?_⟩
  unfold isdE
  rw [if_pos g1]; exact hf
theorem toList_one {x y : ByteArray} (g : x.toList = y.toList) : x = y := by
  rw [bl_eq, bl_eq] at g
  obtain ⟨a⟩ := x
  obtain ⟨b⟩ := y
  exact congrArg ByteArray.mk (Array.ext' g)
theorem laid_fact {s : ByteArray} {w : Int} (hs : s.size ≤ 8000) (h : onE s = 0) (hf : fitE w = 0) : isdB s w = (ByteArray.toList (mkS (layT w.toNat (onX s).dat 0 0 ++ [10])) == ByteArray.toList s) := by
  have hpos : 0 < s.size := by
    by_cases h0 : 0 < s.size
    · exact h0
    · have e : s = ⟨#[]⟩ := by
        obtain ⟨d⟩ := s
        have : d.size = 0 := by simpa [ByteArray.size] using h0
        rw [Array.eq_empty_of_size_eq_zero this]
      rw [e] at h
      exact absurd h (by decide +kernel)
  obtain ⟨h1, h2, h3⟩ := onX_chk s h
  have hch : chkA (.cons (onX s).dat .nil) = 0 := by rw [chkA, if_pos h1]; rfl
  obtain ⟨T, hT⟩ : ∃ T, T = layT w.toNat (onX s).dat 0 0 ++ [10] := ⟨_, rfl⟩
  rw [← hT]
  have eB : alB (.cons (onX s).dat .nil) w = if T.length ≤ 2000000 then mkS T else ⟨#[]⟩ := by
    have eE : alE (.cons (onX s).dat .nil) w = if T.length ≤ 2000000 then 0 else 3 := by
      unfold alE
      rw [if_pos hch, if_pos hf, aT_one, hT]
    rw [alB, eE, aT_one, ← hT]
    split
    · rw [if_pos rfl]
    · rw [if_neg (by decide)]
  rw [Bool.eq_iff_iff, isdB_eq, beq_iff_eq, eB]
  constructor
  · rintro ⟨_, _, g⟩
    split at g
    · rw [g]
    · rw [← g] at hpos; exact absurd hpos (by decide)
  · intro g
    have hsz : s = mkS T := (toList_one g).symm
    refine ⟨h, hf, ?_⟩
    rw [if_pos (by
      have : (mkS T).size = T.length := rfl
      rw [← hsz] at this
      omega)]
    exact hsz.symm
end Seat
end Go.Proofs.YtkblfapbakfgpaaGreatDoor
namespace Go.Proofs.YtkblfapbakfgpaaGreatDoor
open Go.AS Go.RowKit
set_option linter.unusedVariables false
set_option linter.unusedSimpArgs false
set_option maxRecDepth 100000
set_option maxHeartbeats 4000000
namespace Seat
noncomputable def rfyS (f : Nat) (args : List PV) : Option (PV × Ob) := match f, args with
  | 18, [.str s] => some (.tup [.agg (ndJ (onX s)), .agg (ndP (onX s)), .int .i64 (onA s), .int .i64 (onE s)], [])
  | _, _ => none
theorem rfyS_ok (f : Nat) (args : List PV) (r : PV) (o : Ob) (h : rfyS f args = some (r, o)) (ho : ∀ p ∈ o, p.1 = p.2) (_ : pureL args = true) : Pure G0 f args (fun x => x = r) := by
  unfold rfyS at h
  split at h
  · cases h
    exact readP _
  · cases h
noncomputable def SRf (l : List (Nat × List (Nat × Bool))) (v : List (Nat × List (Nat × PV))) : Cfg G0 := { F := F, hF := hF, S := rfyS, hS := rfyS_ok, orc := orcM l, val := valM v }
theorem ReadP (s : ByteArray) : Pure G0 9 [.str s] (fun r => r = .tup [.agg (ndJ (onX s)), .int .i64 (onA s), .int .i64 (onE s)]) := by
  refine Fn.enterB Tryz.func9 Tryz.ntmps9 rfl (Nat.le_of_ble_eq_true rfl) fun C fr fp hnt hnb hp hfr hfp => ?_
  exact SWP.runQ (SRf [] []) 100 19 hnt [2, 3, 4] (e := .ret) (z := ⟨[(2, .ptr 0 0), (3, .int .i64 (onA s)), (4, .int .i64 (onE s))], ⟨[⟨[.int .i64 (ndK (onX s)), .int .i64 (ndN (onX s)), .str (ndT (onX s)), .slice (Dats.len (Nds.dat (ndS (onX s)))) (Dats.cells (Nds.dat (ndS (onX s))))], 24⟩, ⟨[.int .i64 (ndK (onX s)), .int .i64 (ndN (onX s)), .str (ndT (onX s)), .slice (Dats.len (Nds.dat (ndS (onX s)))) (Dats.cells (Nds.dat (ndS (onX s))))], 24⟩, ⟨[.int .i64 (ndA (onX s)), .slice (Nds.len (ndS (onX s))) (Nds.pl (ndS (onX s)))], 45⟩], []⟩⟩) (o := [(true, true)]) (by kernel_rfl) (by repeat' first | exact okO_nil | refine okN ?_ ?_ | assumption | rfl) (fun st hst => hfr st [2, 3, 4] (by
    rw [hst]
    exact ⟨0, .tup [.agg (ndJ (onX s)), .int .i64 (onA s), .int .i64 (onE s)], Nat.le_refl _, Nat.zero_le _, rfl, rfl, rfl, rfl, _, rfl, rfl⟩))
end Seat
end Go.Proofs.YtkblfapbakfgpaaGreatDoor
namespace Go.Proofs.YtkblfapbakfgpaaGreatDoor
open Go.AS Go.RowKit
set_option linter.unusedVariables false
set_option linter.unusedSimpArgs false
set_option maxRecDepth 100000
set_option maxHeartbeats 4000000
namespace Seat
noncomputable def liiS (f : Nat) (args : List PV) : Option (PV × Ob) := match f, args with
  | 9, [.str s] => some (.tup [.agg [.int .i64 (ndK (onX s)), .int .i64 (ndN (onX s)), .str (ndT (onX s)), .slice (Dats.len (Nds.dat (ndS (onX s)))) (Dats.cells (Nds.dat (ndS (onX s))))], .int .i64 (onA s), .int .i64 (onE s)], [])
  | 19, [.int .i64 w] => some (.int .i64 (fitE w), [])
  | 7, [.agg cs, .int .i64 w] => some (.tup [.str (loBC w cs), .int .i64 (loEC w cs)], [(isSml cs, true)])
  | _, _ => none
theorem liiS_ok (f : Nat) (args : List PV) (r : PV) (o : Ob) (h : liiS f args = some (r, o)) (ho : ∀ p ∈ o, p.1 = p.2) (_ : pureL args = true) : Pure G0 f args (fun x => x = r) := by
  unfold liiS at h
  split at h
  · cases h
    exact ReadP _
  · cases h
    exact fits_ok _
  · rename_i cs w _
    cases h
    obtain ⟨d, rfl, h1⟩ := isSml_of (ho (isSml cs, true) (List.mem_singleton.2 rfl))
    unfold loBC loEC
    rw [ofCells_at, ofCells_at]
    exact lay_ok d h1 w
  · cases h
noncomputable def SLii (l : List (Nat × List (Nat × Bool))) (v : List (Nat × List (Nat × PV))) : Cfg G0 := { F := F, hF := hF, S := liiS, hS := liiS_ok, orc := orcM l, val := valM v }
theorem isLaid_ok (s : ByteArray) (w : Int) : Pure G0 11 [.str s, .int .i64 w] (fun r => r = .tup [.bool (isdB s w), .int .i64 (isdE s w)]) := by
  refine Fn.enterB Tryz.func11 Tryz.ntmps11 rfl (Nat.le_of_ble_eq_true rfl) fun C fr fp hnt hnb hp hfr hfp => ?_
  have fin : ∀ st b e H, b = isdB s w → e = isdE s w → nrm [4, 5] st = ⟨[(4, .bool b), (5, .int .i64 e)], H⟩ → fr st := fun st b e H h1 h2 hst => hfr st [4, 5] (by
    rw [hst, ← h1, ← h2]
    exact ⟨0, .tup [.bool b, .int .i64 e], Nat.le_refl _, Nat.zero_le _, rfl, rfl, rfl, rfl, _, rfl, rfl⟩)
  by_cases h0 : onE s = 0
  · have c1 : (!onE s == (0 : Int)) = false := by rw [h0]; rfl
    have hE : isdE s w = fitE w := by unfold isdE; rw [if_pos h0]
    by_cases h1 : fitE w = 0
    · have c2 : (!fitE w == (0 : Int)) = false := by rw [h1]; rfl
      have c3 : isSml (ndJ (onX s)) = true := by
        have := isSml_at (on_small h0)
        obtain ⟨k2, n2, w2, x2, a2, h2⟩ := nd_mk (onX s)
        rw [h2] at this ⊢
        exact this
      have e1 : loBC w (ndJ (onX s)) = alB (.cons (onX s).dat .nil) w := by
        have : ndJ (onX s) = (onX s).dat.cells := by
          obtain ⟨k2, n2, w2, x2, a2, h2⟩ := nd_mk (onX s)
          rw [h2]; rfl
        rw [this]; exact ofCells_at _ _ _
      have e2 : (ByteArray.toList (loBC w (ndJ (onX s))) == ByteArray.toList s) = isdB s w := by
        rw [e1, Bool.eq_iff_iff, isdB_eq, beq_iff_eq]
        exact ⟨fun g => ⟨h0, h1, toList_one g⟩, fun g => by rw [g.2.2]⟩
      exact SWP.runQ (SLii [(35, [(19, false), (24, false)])] []) 100 35 hnt [4, 5] (e := .ret) (z := ⟨[(4, .bool (ByteArray.toList (loBC w [.int .i64 (ndK (onX s)), .int .i64 (ndN (onX s)), .str (ndT (onX s)), .slice (Dats.len (Nds.dat (ndS (onX s)))) (Dats.cells (Nds.dat (ndS (onX s))))]) == ByteArray.toList s)), (5, .int .i64 (0 : Int))], ⟨[⟨[.int .i64 (ndK (onX s)), .int .i64 (ndN (onX s)), .str (ndT (onX s)), .slice (Dats.len (Nds.dat (ndS (onX s)))) (Dats.cells (Nds.dat (ndS (onX s))))], 24⟩], []⟩⟩) (o := [(true, true), (!onE s == (0 : Int), false), (false, false), (true, true), (!fitE w == (0 : Int), false), (false, false), (true, true), (isSml [PV.int IntKind.i64 (ndK (onX s)), PV.int IntKind.i64 (ndN (onX s)), PV.str (ndT (onX s)), PV.slice (Dats.len (Nds.dat (ndS (onX s)))) (Dats.cells (Nds.dat (ndS (onX s))))], true)]) (by kernel_rfl) (by repeat' first | exact okO_nil | refine okN ?_ ?_ | assumption | rfl) (fun st hst => fin st _ _ _ e2 (by rw [hE, h1]) hst)
    · have c2 : (!fitE w == (0 : Int)) = true := by rw [beqF h1]; rfl
      have e2 : isdB s w = false := by
        cases hb : isdB s w with
        | false => rfl
        | true => exact absurd ((isdB_eq _ _).1 hb).2.1 h1
      exact SWP.runQ (SLii [(35, [(19, false), (24, true)])] []) 100 35 hnt [4, 5] (e := .ret) (z := ⟨[(4, .bool false), (5, .int .i64 (fitE w))], ⟨[⟨[.int .i64 (ndK (onX s)), .int .i64 (ndN (onX s)), .str (ndT (onX s)), .slice (Dats.len (Nds.dat (ndS (onX s)))) (Dats.cells (Nds.dat (ndS (onX s))))], 24⟩], []⟩⟩) (o := [(true, true), (!onE s == (0 : Int), false), (false, false), (true, true), (!fitE w == (0 : Int), true), (true, true)]) (by kernel_rfl) (by repeat' first | exact okO_nil | refine okN ?_ ?_ | assumption | rfl) (fun st hst => fin st _ _ _ e2.symm hE.symm hst)
  · have c1 : (!onE s == (0 : Int)) = true := by rw [beqF h0]; rfl
    have e2 : isdB s w = false := by
      cases hb : isdB s w with
      | false => rfl
      | true => exact absurd ((isdB_eq _ _).1 hb).1 h0
    exact SWP.runQ (SLii [(35, [(19, true)])] []) 100 35 hnt [4, 5] (e := .ret) (z := ⟨[(4, .bool false), (5, .int .i64 (onE s))], ⟨[⟨[.int .i64 (ndK (onX s)), .int .i64 (ndN (onX s)), .str (ndT (onX s)), .slice (Dats.len (Nds.dat (ndS (onX s)))) (Dats.cells (Nds.dat (ndS (onX s))))], 24⟩], []⟩⟩) (o := [(true, true), (!onE s == (0 : Int), true), (true, true)]) (by kernel_rfl) (by repeat' first | exact okO_nil | refine okN ?_ ?_ | assumption | rfl) (fun st hst => fin st _ _ _ e2.symm (by unfold isdE; rw [if_neg h0]) hst)
end Seat
end Go.Proofs.YtkblfapbakfgpaaGreatDoor
