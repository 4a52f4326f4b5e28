/- PrimNames: the laws that its walk takes. Printed by dev/names1.py (this session's). -/
import Derived.Test.YteimebpgmfhgjaaDoorBase
namespace Go.Proofs.YteimebpgmfhgjaaDoor
open Go.AS
set_option linter.unusedVariables false
set_option linter.unusedSimpArgs false
set_option maxRecDepth 100000
namespace Seat

theorem okN {b c : Bool} {l : Ob} (h : b = c) (t : okO l) : okO ((b, c) :: l) := fun p hp => by
  rcases List.mem_cons.1 hp with rfl | hp
  · exact h
  · exact t p hp
theorem lit_ne {s l : ByteArray} (h : s ≠ l) : (l.toList == s.toList) = false := by
  rw [beq_eq_false_iff_ne]
  intro he
  rw [ByteArray.toList_eq, ByteArray.toList_eq] at he
  exact h (Go.WideShapes.bytes_inj he.symm)
theorem lit_ne' {s l : ByteArray} (h : s ≠ l) : (s.toList == l.toList) = false := by
  rw [beq_eq_false_iff_ne]
  intro he
  rw [ByteArray.toList_eq, ByteArray.toList_eq] at he
  exact h (Go.WideShapes.bytes_inj he)
theorem names_fresh : Fresh G0 27 [] ⟨[.str ⟨#[43]⟩, .str ⟨#[45]⟩, .str ⟨#[42]⟩, .str ⟨#[113, 117, 111, 116]⟩, .str ⟨#[114, 101, 109]⟩, .str ⟨#[60]⟩, .str ⟨#[61]⟩, .str ⟨#[99, 111, 110, 115]⟩, .str ⟨#[102, 105, 114, 115, 116]⟩, .str ⟨#[114, 101, 115, 116]⟩, .str ⟨#[99, 111, 117, 110, 116]⟩, .str ⟨#[108, 105, 115, 116, 63]⟩, .str ⟨#[110, 117, 109, 63]⟩, .str ⟨#[115, 121, 109, 63]⟩, .str ⟨#[109, 97, 114, 107]⟩, .str ⟨#[115, 116, 111, 112]⟩], 16, 9, 1⟩ := by
  refine Fn.enterF Tryd.func27 Tryd.ntmps27 rfl (Nat.le_of_ble_eq_true rfl) fun C fr hnt hfr => ?_
  exact SWP.runQ S0 400 17 hnt [0] (e := .ret) (z := ⟨[(0, .own 0 16)], ⟨[⟨[.str ⟨#[43]⟩, .int .i64 2], 76⟩, ⟨[.str ⟨#[45]⟩, .int .i64 2], 76⟩, ⟨[.str ⟨#[42]⟩, .int .i64 2], 76⟩, ⟨[.str ⟨#[113, 117, 111, 116]⟩, .int .i64 2], 76⟩, ⟨[.str ⟨#[114, 101, 109]⟩, .int .i64 2], 76⟩, ⟨[.str ⟨#[60]⟩, .int .i64 2], 76⟩, ⟨[.str ⟨#[61]⟩, .int .i64 2], 76⟩, ⟨[.str ⟨#[99, 111, 110, 115]⟩, .int .i64 2], 76⟩, ⟨[.str ⟨#[102, 105, 114, 115, 116]⟩, .int .i64 1], 76⟩, ⟨[.str ⟨#[114, 101, 115, 116]⟩, .int .i64 1], 76⟩, ⟨[.str ⟨#[99, 111, 117, 110, 116]⟩, .int .i64 1], 76⟩, ⟨[.str ⟨#[108, 105, 115, 116, 63]⟩, .int .i64 1], 76⟩, ⟨[.str ⟨#[110, 117, 109, 63]⟩, .int .i64 1], 76⟩, ⟨[.str ⟨#[115, 121, 109, 63]⟩, .int .i64 1], 76⟩, ⟨[.str ⟨#[109, 97, 114, 107]⟩, .int .i64 2], 76⟩, ⟨[.str ⟨#[115, 116, 111, 112]⟩, .int .i64 1], 76⟩], [some ⟨[.str ⟨#[43]⟩, .str ⟨#[45]⟩, .str ⟨#[42]⟩, .str ⟨#[113, 117, 111, 116]⟩, .str ⟨#[114, 101, 109]⟩, .str ⟨#[60]⟩, .str ⟨#[61]⟩, .str ⟨#[99, 111, 110, 115]⟩, .str ⟨#[102, 105, 114, 115, 116]⟩, .str ⟨#[114, 101, 115, 116]⟩, .str ⟨#[99, 111, 117, 110, 116]⟩, .str ⟨#[108, 105, 115, 116, 63]⟩, .str ⟨#[110, 117, 109, 63]⟩, .str ⟨#[115, 121, 109, 63]⟩, .str ⟨#[109, 97, 114, 107]⟩, .str ⟨#[115, 116, 111, 112]⟩], 16, 9, 1⟩]⟩⟩) (o := []) (by kernel_rfl) okO_nil (fun st hs => hfr st [0] (by rw [hs]; exact ⟨0, rfl, rfl⟩))
/-- How many arguments, by the program and by the document. -/
theorem arity_both (s : ByteArray) : ∃ (n : Int) (b : Bool), Pure G0 30 [.str s] (fun r => r = .tup [.int .i64 n, .bool b]) ∧ Pure G0 31 [.str s] (fun r => r = .tup [.int .i64 n, .bool b]) := by
  by_cases h0 : s = ⟨#[43]⟩
  · subst h0
    exact ⟨2, true, Pure.run (S := S0) 400 (by kernel_rfl), Pure.run (S := S0) 400 (by kernel_rfl)⟩
  by_cases h1 : s = ⟨#[45]⟩
  · subst h1
    exact ⟨2, true, Pure.run (S := S0) 400 (by kernel_rfl), Pure.run (S := S0) 400 (by kernel_rfl)⟩
  by_cases h2 : s = ⟨#[42]⟩
  · subst h2
    exact ⟨2, true, Pure.run (S := S0) 400 (by kernel_rfl), Pure.run (S := S0) 400 (by kernel_rfl)⟩
  by_cases h3 : s = ⟨#[113, 117, 111, 116]⟩
  · subst h3
    exact ⟨2, true, Pure.run (S := S0) 400 (by kernel_rfl), Pure.run (S := S0) 400 (by kernel_rfl)⟩
  by_cases h4 : s = ⟨#[114, 101, 109]⟩
  · subst h4
    exact ⟨2, true, Pure.run (S := S0) 400 (by kernel_rfl), Pure.run (S := S0) 400 (by kernel_rfl)⟩
  by_cases h5 : s = ⟨#[60]⟩
  · subst h5
    exact ⟨2, true, Pure.run (S := S0) 400 (by kernel_rfl), Pure.run (S := S0) 400 (by kernel_rfl)⟩
  by_cases h6 : s = ⟨#[61]⟩
  · subst h6
    exact ⟨2, true, Pure.run (S := S0) 400 (by kernel_rfl), Pure.run (S := S0) 400 (by kernel_rfl)⟩
  by_cases h7 : s = ⟨#[99, 111, 110, 115]⟩
  · subst h7
    exact ⟨2, true, Pure.run (S := S0) 400 (by kernel_rfl), Pure.run (S := S0) 400 (by kernel_rfl)⟩
  by_cases h8 : s = ⟨#[102, 105, 114, 115, 116]⟩
  · subst h8
    exact ⟨1, true, Pure.run (S := S0) 400 (by kernel_rfl), Pure.run (S := S0) 400 (by kernel_rfl)⟩
  by_cases h9 : s = ⟨#[114, 101, 115, 116]⟩
  · subst h9
    exact ⟨1, true, Pure.run (S := S0) 400 (by kernel_rfl), Pure.run (S := S0) 400 (by kernel_rfl)⟩
  by_cases h10 : s = ⟨#[99, 111, 117, 110, 116]⟩
  · subst h10
    exact ⟨1, true, Pure.run (S := S0) 400 (by kernel_rfl), Pure.run (S := S0) 400 (by kernel_rfl)⟩
  by_cases h11 : s = ⟨#[108, 105, 115, 116, 63]⟩
  · subst h11
    exact ⟨1, true, Pure.run (S := S0) 400 (by kernel_rfl), Pure.run (S := S0) 400 (by kernel_rfl)⟩
  by_cases h12 : s = ⟨#[110, 117, 109, 63]⟩
  · subst h12
    exact ⟨1, true, Pure.run (S := S0) 400 (by kernel_rfl), Pure.run (S := S0) 400 (by kernel_rfl)⟩
  by_cases h13 : s = ⟨#[115, 121, 109, 63]⟩
  · subst h13
    exact ⟨1, true, Pure.run (S := S0) 400 (by kernel_rfl), Pure.run (S := S0) 400 (by kernel_rfl)⟩
  by_cases h14 : s = ⟨#[109, 97, 114, 107]⟩
  · subst h14
    exact ⟨2, true, Pure.run (S := S0) 400 (by kernel_rfl), Pure.run (S := S0) 400 (by kernel_rfl)⟩
  by_cases h15 : s = ⟨#[115, 116, 111, 112]⟩
  · subst h15
    exact ⟨1, true, Pure.run (S := S0) 400 (by kernel_rfl), Pure.run (S := S0) 400 (by kernel_rfl)⟩
  exact ⟨0, false, Pure.runO (S := { S0 with orc := orcM [(19, [(15, false)])] }) 400 (o := [((⟨#[43]⟩ : ByteArray).toList == s.toList, false), (false, false), ((⟨#[45]⟩ : ByteArray).toList == s.toList, false), (false, false), ((⟨#[42]⟩ : ByteArray).toList == s.toList, false), (false, false), ((⟨#[113, 117, 111, 116]⟩ : ByteArray).toList == s.toList, false), (false, false), ((⟨#[114, 101, 109]⟩ : ByteArray).toList == s.toList, false), (false, false), ((⟨#[60]⟩ : ByteArray).toList == s.toList, false), (false, false), ((⟨#[61]⟩ : ByteArray).toList == s.toList, false), (false, false), ((⟨#[99, 111, 110, 115]⟩ : ByteArray).toList == s.toList, false), (false, false), ((⟨#[102, 105, 114, 115, 116]⟩ : ByteArray).toList == s.toList, false), (false, false), ((⟨#[114, 101, 115, 116]⟩ : ByteArray).toList == s.toList, false), (false, false), ((⟨#[99, 111, 117, 110, 116]⟩ : ByteArray).toList == s.toList, false), (false, false), ((⟨#[108, 105, 115, 116, 63]⟩ : ByteArray).toList == s.toList, false), (false, false), ((⟨#[110, 117, 109, 63]⟩ : ByteArray).toList == s.toList, false), (false, false), ((⟨#[115, 121, 109, 63]⟩ : ByteArray).toList == s.toList, false), (false, false), ((⟨#[109, 97, 114, 107]⟩ : ByteArray).toList == s.toList, false), (false, false), ((⟨#[115, 116, 111, 112]⟩ : ByteArray).toList == s.toList, false), (false, false)]) (by kernel_rfl) (okN (lit_ne h0) (okN (rfl) (okN (lit_ne h1) (okN (rfl) (okN (lit_ne h2) (okN (rfl) (okN (lit_ne h3) (okN (rfl) (okN (lit_ne h4) (okN (rfl) (okN (lit_ne h5) (okN (rfl) (okN (lit_ne h6) (okN (rfl) (okN (lit_ne h7) (okN (rfl) (okN (lit_ne h8) (okN (rfl) (okN (lit_ne h9) (okN (rfl) (okN (lit_ne h10) (okN (rfl) (okN (lit_ne h11) (okN (rfl) (okN (lit_ne h12) (okN (rfl) (okN (lit_ne h13) (okN (rfl) (okN (lit_ne h14) (okN (rfl) (okN (lit_ne h15) (okN (rfl) (okO_nil))))))))))))))))))))))))))))))))),
    Pure.runO (S := { S0 with orc := orcM [(23, [(6, false), (7, false), (8, false), (9, false), (10, false), (11, false), (12, false), (13, false), (14, false), (16, false), (17, false), (18, false), (19, false), (20, false), (21, false), (22, false)])] }) 400 (o := [(s.toList == (⟨#[43]⟩ : ByteArray).toList, false), (s.toList == (⟨#[45]⟩ : ByteArray).toList, false), (s.toList == (⟨#[42]⟩ : ByteArray).toList, false), (s.toList == (⟨#[113, 117, 111, 116]⟩ : ByteArray).toList, false), (s.toList == (⟨#[114, 101, 109]⟩ : ByteArray).toList, false), (s.toList == (⟨#[60]⟩ : ByteArray).toList, false), (s.toList == (⟨#[61]⟩ : ByteArray).toList, false), (s.toList == (⟨#[99, 111, 110, 115]⟩ : ByteArray).toList, false), (s.toList == (⟨#[109, 97, 114, 107]⟩ : ByteArray).toList, false), (s.toList == (⟨#[102, 105, 114, 115, 116]⟩ : ByteArray).toList, false), (s.toList == (⟨#[114, 101, 115, 116]⟩ : ByteArray).toList, false), (s.toList == (⟨#[99, 111, 117, 110, 116]⟩ : ByteArray).toList, false), (s.toList == (⟨#[108, 105, 115, 116, 63]⟩ : ByteArray).toList, false), (s.toList == (⟨#[110, 117, 109, 63]⟩ : ByteArray).toList, false), (s.toList == (⟨#[115, 121, 109, 63]⟩ : ByteArray).toList, false), (s.toList == (⟨#[115, 116, 111, 112]⟩ : ByteArray).toList, false)]) (by kernel_rfl) (okN (lit_ne' h0) (okN (lit_ne' h1) (okN (lit_ne' h2) (okN (lit_ne' h3) (okN (lit_ne' h4) (okN (lit_ne' h5) (okN (lit_ne' h6) (okN (lit_ne' h7) (okN (lit_ne' h14) (okN (lit_ne' h8) (okN (lit_ne' h9) (okN (lit_ne' h10) (okN (lit_ne' h11) (okN (lit_ne' h12) (okN (lit_ne' h13) (okN (lit_ne' h15) (okO_nil)))))))))))))))))⟩
theorem alive : Pure G0 15 [] (fun r => r = .bool true) := Pure.run (S := S0) 400 (by kernel_rfl)
noncomputable def nmS (s : ByteArray) (n : Int) (b : Bool) (f : Nat) (args : List PV) : Option (PV × Ob) := match f, args with
  | 30, [.str x] => some (.tup [.int .i64 n, .bool b], [(same (.str x) (.str s), true)])
  | 31, [.str x] => some (.tup [.int .i64 n, .bool b], [(same (.str x) (.str s), true)])
  | 15, [] => some (.bool true, [])
  | _, _ => none
theorem nmS_ok (s : ByteArray) (n : Int) (b : Bool) (h1 : Pure G0 30 [.str s] (fun r => r = .tup [.int .i64 n, .bool b])) (h2 : Pure G0 31 [.str s] (fun r => r = .tup [.int .i64 n, .bool b])) (f : Nat) (args : List PV) (r : PV) (o : Ob) (h : nmS s n b f args = some (r, o)) (ho : ∀ p ∈ o, p.1 = p.2) (_ : pureL args = true) : Pure G0 f args (fun x => x = r) := by
  unfold nmS at h
  split at h
  · cases h
    have := of_same (ho _ (List.mem_singleton.2 rfl))
    cases this
    exact h1
  · cases h
    have := of_same (ho _ (List.mem_singleton.2 rfl))
    cases this
    exact h2
  · cases h; exact alive
  · cases h
noncomputable def nmW (f : Nat) (args : List PV) : Option (Row × Ob) := match f, args with
  | 27, [] => some (⟨[.str ⟨#[43]⟩, .str ⟨#[45]⟩, .str ⟨#[42]⟩, .str ⟨#[113, 117, 111, 116]⟩, .str ⟨#[114, 101, 109]⟩, .str ⟨#[60]⟩, .str ⟨#[61]⟩, .str ⟨#[99, 111, 110, 115]⟩, .str ⟨#[102, 105, 114, 115, 116]⟩, .str ⟨#[114, 101, 115, 116]⟩, .str ⟨#[99, 111, 117, 110, 116]⟩, .str ⟨#[108, 105, 115, 116, 63]⟩, .str ⟨#[110, 117, 109, 63]⟩, .str ⟨#[115, 121, 109, 63]⟩, .str ⟨#[109, 97, 114, 107]⟩, .str ⟨#[115, 116, 111, 112]⟩], 16, 9, 1⟩, [])
  | _, _ => none
theorem nmW_ok : ∀ f args row o, nmW f args = some (row, o) → (∀ p ∈ o, p.1 = p.2) → Fresh G0 f args row := by
  intro f args row o h ho
  unfold nmW at h
  split at h
  · cases h; exact names_fresh
  · cases h
noncomputable def SN (s : ByteArray) (n : Int) (b : Bool) (h1 : Pure G0 30 [.str s] (fun r => r = .tup [.int .i64 n, .bool b])) (h2 : Pure G0 31 [.str s] (fun r => r = .tup [.int .i64 n, .bool b])) (l : List (Nat × List (Nat × Bool))) (v : List (Nat × List (Nat × PV))) : Cfg G0 := { F := F, hF := hF, S := nmS s n b, hS := nmS_ok s n b h1 h2, W := nmW, hW := nmW_ok, orc := orcM l, val := valM v }
end Seat
end Go.Proofs.YteimebpgmfhgjaaDoor
