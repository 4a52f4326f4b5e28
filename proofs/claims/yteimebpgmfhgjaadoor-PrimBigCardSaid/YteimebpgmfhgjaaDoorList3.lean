/- PrimLists: what its do gives; the laws that its walk takes. -/
import Derived.Test.YteimebpgmfhgjaaDoorList2
namespace Go.Proofs.YteimebpgmfhgjaaDoor
open Go.AS
set_option linter.unusedVariables false
set_option linter.unusedSimpArgs false
set_option maxRecDepth 100000
namespace Seat
theorem chk_ne {d : Dat} {cs : List PV} (e : d.cells = cs) (h : chkD d = 0) : (ofCells chkD (0 : Int) cs != (0 : Int)) = false := by rw [← e, ofCells_at, h]; rfl
theorem good_cs {d : Dat} {cs : List PV} (e : d.cells = cs) (h : Good d) : isGood cs = true := by rw [← e]; exact isGood_at h
theorem big_cells (k n n2 : Int) (s s2 : ByteArray) (ks k2s : Dats) : (Dat.mk 3 n2 s2 (.cons (.mk k n s ks) k2s)).cells = [.int .i64 3, .int .i64 n2, .str s2, .slice (1 + k2s.len) (.int .i64 k :: .int .i64 n :: .str s :: .slice ks.len ks.cells :: k2s.cells)] := by
  simp only [Dat.cells, Dats.cells, Dats.len, List.cons_append, List.nil_append]
  rw [Nat.add_comm]
theorem dl_count (d : Dat) (n2 : Int) (s2 : ByteArray) (l : Nat) (cs : List PV) (e : d.cells = [.int .i64 3, .int .i64 n2, .str s2, .slice l cs]) (g : Good d) (c : chkD d = 0) : Pure G0 25 [.str ⟨#[99, 111, 117, 110, 116]⟩, .slice 1 [.int .i64 3, .int .i64 n2, .str s2, .slice l cs]] (fun r => r = .agg [.int .i64 1, .int .i64 l, .str ⟨#[]⟩, .nil]) :=
  Pure.runO (S := SLs [(48, [(31, false)])] []) 200 (o := [(true, true), (isGood [.int .i64 3, .int .i64 n2, .str s2, .slice l cs], true), (ofCells chkD 0 [.int .i64 3, .int .i64 n2, .str s2, .slice l cs] != 0, false), (false, false)]) (by kernel_rfl) (okO_cons (rfl) (okO_cons (good_cs e g) (okO_cons (chk_ne e c) (okO_cons (rfl) okO_nil))))
theorem dl_first (k n n2 : Int) (s s2 : ByteArray) (ks k2s : Dats) (g : Good (.mk 3 n2 s2 (.cons (.mk k n s ks) k2s))) (c : chkD (.mk 3 n2 s2 (.cons (.mk k n s ks) k2s)) = 0) (sm : smallD (.mk k n s ks)) : Pure G0 25 [.str ⟨#[102, 105, 114, 115, 116]⟩, .slice 1 [.int .i64 3, .int .i64 n2, .str s2, .slice (1 + k2s.len) (.int .i64 k :: .int .i64 n :: .str s :: .slice ks.len ks.cells :: k2s.cells)]] (fun r => r = .agg [.int .i64 k, .int .i64 n, .str s, .slice ks.len ks.cells]) :=
  Pure.runO (S := SLs [(48, [(31, false)]), (168, [(131, false), (139, true), (140, true)])] []) 200 (o := [(true, true), (isGood [.int .i64 3, .int .i64 n2, .str s2, .slice (1 + Dats.len k2s) (.int .i64 k :: .int .i64 n :: .str s :: .slice (Dats.len ks) (Dats.cells ks) :: Dats.cells k2s)], true), (ofCells chkD 0 [.int .i64 3, .int .i64 n2, .str s2, .slice (1 + Dats.len k2s) (.int .i64 k :: .int .i64 n :: .str s :: .slice (Dats.len ks) (Dats.cells ks) :: Dats.cells k2s)] != 0, false), (false, false), (Int.ofNat (1 + Dats.len k2s) == 0, false), (false, false), (decide ((0 : Int) ≤ 0 ∧ 0 < (↑(1 + Dats.len k2s) : Int)), true), (true, true), (true, true), (isSm [.int .i64 k, .int .i64 n, .str s, .slice (Dats.len ks) (Dats.cells ks)], true)]) (by kernel_rfl) (okO_cons (rfl) (okO_cons (good_cs (big_cells k n n2 s s2 ks k2s) g) (okO_cons (chk_ne (big_cells k n n2 s s2 ks k2s) c) (okO_cons (rfl) (okO_cons (by simp; omega) (okO_cons (rfl) (okO_cons (by simp; omega) (okO_cons (rfl) (okO_cons (rfl) (okO_cons (isSm_at (d := .mk k n s ks) rfl sm) okO_nil))))))))))
theorem dl_rest (k n n2 : Int) (s s2 : ByteArray) (ks k2s : Dats) (g : Good (.mk 3 n2 s2 (.cons (.mk k n s ks) k2s))) (c : chkD (.mk 3 n2 s2 (.cons (.mk k n s ks) k2s)) = 0) (sm : smallD (.mk 3 0 ⟨#[]⟩ k2s)) : Pure G0 25 [.str ⟨#[114, 101, 115, 116]⟩, .slice 1 [.int .i64 3, .int .i64 n2, .str s2, .slice (1 + k2s.len) (.int .i64 k :: .int .i64 n :: .str s :: .slice ks.len ks.cells :: k2s.cells)]] (fun r => r = .agg [.int .i64 3, .int .i64 0, .str ⟨#[]⟩, .slice k2s.len k2s.cells]) :=
  Pure.runO (S := SLs [(48, [(31, false)]), (168, [(131, false), (146, true)])] [(168, [(146, .slice k2s.len k2s.cells)])]) 200 (o := [(true, true), (isGood [.int .i64 3, .int .i64 n2, .str s2, .slice (1 + Dats.len k2s) (.int .i64 k :: .int .i64 n :: .str s :: .slice (Dats.len ks) (Dats.cells ks) :: Dats.cells k2s)], true), (ofCells chkD 0 [.int .i64 3, .int .i64 n2, .str s2, .slice (1 + Dats.len k2s) (.int .i64 k :: .int .i64 n :: .str s :: .slice (Dats.len ks) (Dats.cells ks) :: Dats.cells k2s)] != 0, false), (false, false), (Int.ofNat (1 + Dats.len k2s) == 0, false), (false, false), (decide ((0 : Int) ≤ 1 ∧ 1 ≤ (↑(1 + Dats.len k2s) : Int) ∧ (↑(1 + Dats.len k2s) : Int) ≤ (↑(1 + Dats.len k2s) : Int) ∧ List.length (.int .i64 k :: .int .i64 n :: .str s :: .slice (Dats.len ks) (Dats.cells ks) :: Dats.cells k2s) = (1 + Dats.len k2s) * TD.size d24), true), (same (.slice (Int.toNat (Int.ofNat (1 + Dats.len k2s)) - 1) (List.take ((Int.toNat (Int.ofNat (1 + Dats.len k2s)) - 1) * 4) (Dats.cells k2s))) (.slice (Dats.len k2s) (Dats.cells k2s)), true), (true, true), (isSm [.int .i64 3, .int .i64 0, .str { data := #[] }, .slice (Dats.len k2s) (Dats.cells k2s)], true)]) (by kernel_rfl) (okO_cons (rfl) (okO_cons (good_cs (big_cells k n n2 s s2 ks k2s) g) (okO_cons (chk_ne (big_cells k n n2 s s2 ks k2s) c) (okO_cons (rfl) (okO_cons (by simp; omega) (okO_cons (rfl) (okO_cons (by have := Dats.cells_len k2s; simp only [decide_eq_true_eq, List.length_cons, this]; refine ⟨by omega, by omega, by omega, ?_⟩; show _ = (1 + k2s.len) * 4; omega) (okO_cons (same_of (by rw [show Int.toNat (Int.ofNat (1 + k2s.len)) - 1 = k2s.len from (by simp; omega), List.take_of_length_le (by rw [Dats.cells_len]; exact Nat.le_refl _)])) (okO_cons (rfl) (okO_cons (isSm_at (d := .mk 3 0 ⟨#[]⟩ k2s) rfl sm) okO_nil))))))))))
theorem dl_cons (k n n2 : Int) (s s2 : ByteArray) (ks k2s : Dats) (h : ConsOk k n s ks.len ks.cells n2 s2 k2s.len k2s.cells) : Pure G0 25 [.str ⟨#[99, 111, 110, 115]⟩, .slice 2 [.int .i64 k, .int .i64 n, .str s, .slice ks.len ks.cells, .int .i64 3, .int .i64 n2, .str s2, .slice k2s.len k2s.cells]] (fun r => r = .agg [.int .i64 3, .int .i64 0, .str ⟨#[]⟩, .slice (1 + k2s.len) (.int .i64 k :: .int .i64 n :: .str s :: .slice ks.len ks.cells :: k2s.cells)]) :=
  Pure.runO (S := SLs [] []) 200 (o := [(true, true), (consOk k n s (Dats.len ks) (Dats.cells ks) n2 s2 (Dats.len k2s) (Dats.cells k2s), true)]) (by kernel_rfl) (okO_cons (rfl) (okO_cons (consOk_at h) okO_nil))
open Classical in
noncomputable def isList (n2 : Int) (s2 : ByteArray) (l : Nat) (cs : List PV) : Bool := decide (∃ d : Dat, d.cells = [.int .i64 3, .int .i64 n2, .str s2, .slice l cs] ∧ Good d ∧ chkD d = 0)
theorem isList_at {n2 : Int} {s2 : ByteArray} {l : Nat} {cs : List PV} {d : Dat} (e : d.cells = [.int .i64 3, .int .i64 n2, .str s2, .slice l cs]) (g : Good d) (c : chkD d = 0) : isList n2 s2 l cs = true := by
  unfold isList
  classical exact decide_eq_true ⟨d, e, g, c⟩
theorem isList_of {n2 : Int} {s2 : ByteArray} {l : Nat} {cs : List PV} (h : isList n2 s2 l cs = true) : ∃ d : Dat, d.cells = [.int .i64 3, .int .i64 n2, .str s2, .slice l cs] ∧ Good d ∧ chkD d = 0 := by
  unfold isList at h
  classical exact of_decide_eq_true h
def HeadOk (k n n2 : Int) (s s2 : ByteArray) (l1 m : Nat) (cs1 cs2 : List PV) : Prop := ∃ ks k2s : Dats, ks.cells = cs1 ∧ ks.len = l1 ∧ k2s.cells = cs2 ∧ k2s.len = m ∧ Good (.mk 3 n2 s2 (.cons (.mk k n s ks) k2s)) ∧ chkD (.mk 3 n2 s2 (.cons (.mk k n s ks) k2s)) = 0 ∧ smallD (.mk k n s ks) ∧ smallD (.mk 3 0 ⟨#[]⟩ k2s)
open Classical in
noncomputable def headOk (k n n2 : Int) (s s2 : ByteArray) (l1 m : Nat) (cs1 cs2 : List PV) : Bool := decide (HeadOk k n n2 s s2 l1 m cs1 cs2)
theorem headOk_at {k n n2 : Int} {s s2 : ByteArray} {l1 m : Nat} {cs1 cs2 : List PV} (h : HeadOk k n n2 s s2 l1 m cs1 cs2) : headOk k n n2 s s2 l1 m cs1 cs2 = true := by
  unfold headOk
  classical exact decide_eq_true h
theorem headOk_of {k n n2 : Int} {s s2 : ByteArray} {l1 m : Nat} {cs1 cs2 : List PV} (h : headOk k n n2 s s2 l1 m cs1 cs2 = true) : HeadOk k n n2 s s2 l1 m cs1 cs2 := by
  unfold headOk at h
  classical exact of_decide_eq_true h
/-- The laws of do; m is the number of b's data. -/
noncomputable def dlS (m : Nat) (f : Nat) (args : List PV) : Option (PV × Ob) := match lsS f args with
  | some r => some r
  | none => match f, args with
    | 25, [.str ⟨⟨[99, 111, 117, 110, 116]⟩⟩, .slice 1 [.int .i64 3, .int .i64 n2, .str s2, .slice l cs]] => some (.agg [.int .i64 1, .int .i64 l, .str ⟨#[]⟩, .nil], [(isList n2 s2 l cs, true)])
    | 25, [.str ⟨⟨[102, 105, 114, 115, 116]⟩⟩, .slice 1 [.int .i64 3, .int .i64 n2, .str s2, .slice l (.int .i64 k :: .int .i64 n :: .str s :: .slice l1 cs1 :: cs2)]] => some (.agg [.int .i64 k, .int .i64 n, .str s, .slice l1 cs1], [(headOk k n n2 s s2 l1 m cs1 cs2, true), (decide (l = 1 + m), true)])
    | 25, [.str ⟨⟨[114, 101, 115, 116]⟩⟩, .slice 1 [.int .i64 3, .int .i64 n2, .str s2, .slice l (.int .i64 k :: .int .i64 n :: .str s :: .slice l1 cs1 :: cs2)]] => some (.agg [.int .i64 3, .int .i64 0, .str ⟨#[]⟩, .slice m cs2], [(headOk k n n2 s s2 l1 m cs1 cs2, true), (decide (l = 1 + m), true)])
    | 25, [.str ⟨⟨[99, 111, 110, 115]⟩⟩, .slice 2 [.int .i64 k, .int .i64 n, .str s, .slice l cs, .int .i64 3, .int .i64 n2, .str s2, .slice l2 cs2]] => some (.agg [.int .i64 3, .int .i64 0, .str ⟨#[]⟩, .slice (1 + l2) (.int .i64 k :: .int .i64 n :: .str s :: .slice l cs :: cs2)], [(consOk k n s l cs n2 s2 l2 cs2, true)])
    | _, _ => none
theorem dlS_ok (m : Nat) (f : Nat) (args : List PV) (r : PV) (o : Ob) (h : dlS m f args = some (r, o)) (ho : ∀ p ∈ o, p.1 = p.2) (hpu : pureL args = true) : Pure G0 f args (fun x => x = r) := by
  unfold dlS at h
  split at h
  · rename_i r' hl
    cases h
    exact lsS_ok f args r o hl ho hpu
  · clear hpu
    split at h
    · cases h
      obtain ⟨d, e, g, c⟩ := isList_of (ho _ (List.mem_singleton.2 rfl))
      exact dl_count d _ _ _ _ e g c
    · cases h
      obtain ⟨ks, k2s, rfl, rfl, rfl, rfl, g, c, s1, s2⟩ := headOk_of (ho _ (List.mem_cons_self ..))
      have hl := of_decide_eq_true (ho (decide _, true) (List.mem_cons_of_mem _ (List.mem_cons_self ..)))
      subst hl
      exact dl_first _ _ _ _ _ ks k2s g c s1
    · cases h
      obtain ⟨ks, k2s, rfl, rfl, rfl, rfl, g, c, s1, s2⟩ := headOk_of (ho _ (List.mem_cons_self ..))
      have hl := of_decide_eq_true (ho (decide _, true) (List.mem_cons_of_mem _ (List.mem_cons_self ..)))
      subst hl
      exact dl_rest _ _ _ _ _ ks k2s g c s2
    · cases h
      have hc := consOk_of (ho _ (List.mem_singleton.2 rfl))
      obtain ⟨ks, k2s, rfl, rfl, rfl, rfl, hr⟩ := hc
      exact dl_cons _ _ _ _ _ ks k2s (consOk_of (ho _ (List.mem_singleton.2 rfl)))
    · cases h
noncomputable def SD (m : Nat) (l : List (Nat × List (Nat × Bool))) (v : List (Nat × List (Nat × PV))) : Cfg G0 := { F := F, hF := hF, S := dlS m, hS := dlS_ok m, orc := orcM l, val := valM v }
end Seat
end Go.Proofs.YteimebpgmfhgjaaDoor
