/- Texts of this session, packed: Rp5, GuardA, Guard1, Rp6, Read6, Read7, Text1, Text2, Text3, Text4, Chk0, Rp7, Rp8, Chk1. -/
import Derived.Test.YtenpjkcclmmlhaaDoorRa4
/- The program's reader: data, or a fault. Printed by dev/rp5.py and dev/nfsub.py (this session's). -/
namespace Go.Proofs.YtenpjkcclmmlhaaDoor
open Go.AS Go.RowKit
set_option linter.unusedVariables false
set_option linter.unusedSimpArgs false
set_option maxRecDepth 100000
set_option maxHeartbeats 4000000
namespace Seat
mutual
/-- Where a datum begins, and those in it. -/
def Nd.pl : Nd → List PV
  | .mk _ _ _ ks a => [.int .i64 a, .slice ks.len ks.pl]
def Nds.pl : Nds → List PV
  | .nil => []
  | .cons d ds => d.pl ++ ds.pl
end
def pZ : Box := ⟨[.int .i64 0, .nil], 64⟩
def pB (y : Nat) (x : PV) : Box := ⟨[.int .i64 y, x], 64⟩
def jR (rc : List PV) (m : Nat) : Row := ⟨rc, m, 25, 4⟩
def pR (rc : List PV) (m : Nat) : Row := ⟨rc, m, 64, 2⟩
def ndJ (x : Nd) : List PV := [.int .i64 (ndK x), .int .i64 (ndN x), .str (ndT x), .slice (Dats.len (Nds.dat (ndS x))) (Dats.cells (Nds.dat (ndS x)))]
def ndP (x : Nd) : List PV := [.int .i64 (ndA x), .slice (Nds.len (ndS x)) (Nds.pl (ndS x))]
def qX (s : ByteArray) (n a : Nat) : Nd := rdX s n (skp s a)
def qA (s : ByteArray) (n a : Nat) : Nat := rdA s n (skp s a)
def qE (s : ByteArray) (n a : Nat) : Int := rdE s n (skp s a)
def qF (s : ByteArray) (n a : Nat) : Int := rdF s n (skp s a)
def rF (s : ByteArray) (b : Int) : Box := ⟨[.str s, .int .i64 b], 87⟩
def RpR (s : ByteArray) (n a : Nat) (o : Out) (b : List Box) : Prop := (qE s n a = 0 ∧ o = .ret (.tup [.agg (ndJ (qX s n a)), .agg (ndP (qX s n a))]) ∧ b = [rP s (qA s n a)]) ∨ (qE s n a ≠ 0 ∧ o = .pan (faultV (qF s n a) (qE s n a)) ∧ b = [rF s (qF s n a)])
def RpAt (n : Nat) : Prop := ∀ s : ByteArray, s.size ≤ 1099511627776 → ∀ a, a ≤ s.size → PCalls G0 68 [.ptr 0 0, .int .i64 (1000 - (n : Int))] [rP s a] (RpR s n a)
noncomputable def pdS (f : Nat) (args : List PV) : Option (PV × Ob) := match f, args with
  | 51, [.int .u8 c] => some (.bool (letC c), [(decide (0 ≤ c ∧ c < 256), true)])
  | _, _ => none
theorem pdS_ok (f : Nat) (args : List PV) (r : PV) (o : Ob) (h : pdS f args = some (r, o)) (ho : ∀ p ∈ o, p.1 = p.2) (_ : pureL args = true) : Pure G0 f args (fun x => x = r) := by
  unfold pdS at h
  split at h
  · cases h; exact isAtom_ok _ (of_decide_eq_true (ho _ (List.mem_singleton.2 rfl)))
  · cases h
theorem atQ_some {s : ByteArray} {a : Nat} (h : atE s a = 0) : atQ (s.extract a (letE s a)) = some [.int .i64 (ndK (atX s a)), .int .i64 (ndN (atX s a)), .str (ndT (atX s a)), .nil] ∧ letE s a = atA s a := by
  obtain ⟨h1, h2⟩ := num_same (s.extract a (letE s a))
  unfold atE atX atA atQ at *
  unfold atomR at h ⊢
  rw [h1]
  split at h
  · rename_i hn
    rw [if_pos hn, if_pos hn]
    exact ⟨by rw [h2 hn]; rfl, rfl⟩
  · rename_i hn
    split at h
    · rename_i hs
      rw [if_neg hn, if_neg hn, if_pos hs, if_pos hs]
      exact ⟨rfl, rfl⟩
    · exact absurd h n4
theorem atQ_none {s : ByteArray} {a : Nat} (h : ¬ atE s a = 0) : atQ (s.extract a (letE s a)) = none ∧ atE s a = 4 ∧ atF s a = (a : Int) := by
  obtain ⟨h1, h2⟩ := num_same (s.extract a (letE s a))
  unfold atE atQ atF at *
  unfold atomR at h ⊢
  rw [h1]
  split at h
  · exact absurd rfl h
  · rename_i hn
    split at h
    · exact absurd rfl h
    · rename_i hs
      rw [if_neg hn, if_neg hn, if_neg hs, if_neg hs]
      exact ⟨rfl, rfl, rfl⟩
noncomputable def pdB (u : Bool) (n : Nat) (f : Nat) (args : List PV) (x : Box) : Option (PV × Box × Ob) := match f, args, x with
  | 50, [.ptr 0 0], ⟨[.str s, .int .i64 a], ty⟩ => match Nat.beq ty 87 with
    | true => some (.int .u8 (nxt s a.toNat), rP s (skp s a.toNat), [(decide (0 ≤ a ∧ a ≤ (s.size : Int)), true), (Nat.ble s.size 1099511627776, true)])
    | false => none
  | 54, [.ptr 0 0], ⟨[.str s, .int .i64 a], ty⟩ => match Nat.beq ty 87 with
    | true => some (.agg [.int .i64 (ndK (atX s a.toNat)), .int .i64 (ndN (atX s a.toNat)), .str (ndT (atX s a.toNat)), .nil], rP s (atA s a.toNat), [(decide (0 ≤ a ∧ a ≤ (s.size : Int)), true), (decide (atE s a.toNat = 0), true), (Nat.ble s.size 1099511627776, true)])
    | false => none
  | 68, [.ptr 0 0, .int .i64 w], ⟨[.str s, .int .i64 a], ty⟩ => match u && Nat.beq ty 87 with
    | true => some (.tup [.agg (ndJ (qX s n a.toNat)), .agg (ndP (qX s n a.toNat))], rP s (qA s n a.toNat), [(decide (0 ≤ a ∧ a ≤ (s.size : Int)), true), (decide (w = 1000 - (n : Int)), true), (decide (qE s n a.toNat = 0), true), (Nat.ble s.size 1099511627776, true)])
    | false => none
  | _, _, _ => none
theorem pdB_ok {u : Bool} {n : Nat} (ih : u = true → RpAt n) : ∀ f xs x r x' o, pdB u n f xs x = some (r, x', o) → (∀ p ∈ o, p.1 = p.2) → PCalls G0 f xs [x] (fun o' b' => o' = .ret r ∧ b' = [x']) ∧ r.sc 0 = true ∧ scL 0 x.cs = true ∧ scL 0 x'.cs = true := by
  intro f args x r b o h ho
  unfold pdB at h
  split at h
  · rename_i s a ty
    split at h
    · rename_i hc
      cases h
      simp only [Nat.beq_eq] at hc
      subst hc
      have h1 : 0 ≤ a ∧ a ≤ (s.size : Int) := of_decide_eq_true (ho (decide (0 ≤ a ∧ a ≤ (s.size : Int)), true) (by simp))
      have h2 : s.size ≤ 1099511627776 := Nat.le_of_ble_eq_true (ho (Nat.ble s.size 1099511627776, true) (by simp))
      have key := nextP_ok s h2 a.toNat (by omega)
      unfold rP at key
      rw [Int.toNat_of_nonneg h1.1] at key
      exact ⟨key, rfl, rfl, rfl⟩
    · cases h
  · rename_i s a ty
    split at h
    · rename_i hc
      cases h
      simp only [Nat.beq_eq] at hc
      subst hc
      have h1 : 0 ≤ a ∧ a ≤ (s.size : Int) := of_decide_eq_true (ho (decide (0 ≤ a ∧ a ≤ (s.size : Int)), true) (by simp))
      have h2 : s.size ≤ 1099511627776 := Nat.le_of_ble_eq_true (ho (Nat.ble s.size 1099511627776, true) (by simp))
      have h3 : atE s a.toNat = 0 := of_decide_eq_true (ho (decide (atE s a.toNat = 0), true) (by simp))
      have key := atomP s h2 a.toNat (by omega)
      obtain ⟨e1, e2⟩ := atQ_some h3
      rw [e1] at key
      unfold rP at key
      rw [Int.toNat_of_nonneg h1.1] at key
      refine ⟨key.mono fun o b h => ?_, rfl, rfl, rfl⟩
      rcases h with ⟨cs, g1, g2, g3⟩ | ⟨g1, _⟩
      · cases g1
        exact ⟨g2, by rw [g3, e2]; rfl⟩
      · cases g1
    · cases h
  · rename_i w s a ty
    split at h
    · rename_i hc
      cases h
      simp only [Nat.beq_eq, Bool.and_eq_true] at hc
      obtain ⟨hu, hc⟩ := hc
      subst hc
      have h1 : 0 ≤ a ∧ a ≤ (s.size : Int) := of_decide_eq_true (ho (decide (0 ≤ a ∧ a ≤ (s.size : Int)), true) (by simp))
      have h2 : s.size ≤ 1099511627776 := Nat.le_of_ble_eq_true (ho (Nat.ble s.size 1099511627776, true) (by simp))
      have h3 : w = 1000 - (n : Int) := of_decide_eq_true (ho (decide (w = 1000 - (n : Int)), true) (by simp))
      have h4 : qE s n a.toNat = 0 := of_decide_eq_true (ho (decide (qE s n a.toNat = 0), true) (by simp))
      have key := ih hu s h2 a.toNat (by omega)
      have e1 : rP s a.toNat = ⟨[.str s, .int .i64 a], 87⟩ := by unfold rP; rw [Int.toNat_of_nonneg h1.1]
      rw [e1, ← h3] at key
      refine ⟨key.mono fun o b h => ?_, rfl, rfl, rfl⟩
      rcases h with ⟨_, g2, g3⟩ | ⟨g1, _⟩
      · exact ⟨g2, g3⟩
      · exact absurd h4 g1
    · cases h
  · cases h
noncomputable def pdP (pn u : Bool) (n : Nat) (f : Nat) (args : List PV) (H : Hp) : Option (PV × Hp × Ob) := match f, args, H with
  | 75, [.ptr 0 0, .int .i64 e], ⟨[⟨[.str s, .int .i64 a], ty⟩], []⟩ => match Nat.beq ty 87 with
    | true => some (faultV a e, ⟨[⟨[.str s, .int .i64 a], ty⟩], []⟩, [(decide (0 ≤ a), true)])
    | false => none
  | 54, [.ptr 0 0], ⟨[⟨[.str s, .int .i64 a], ty⟩], []⟩ => match pn && Nat.beq ty 87 with
    | true => some (faultV a 4, ⟨[⟨[.str s, .int .i64 a], ty⟩], []⟩, [(decide (0 ≤ a ∧ a ≤ (s.size : Int)), true), (decide (atE s a.toNat = 0), false), (Nat.ble s.size 1099511627776, true)])
    | false => none
  | 68, [.ptr 0 0, .int .i64 w], ⟨[⟨[.str s, .int .i64 a], ty⟩], []⟩ => match pn && (u && Nat.beq ty 87) with
    | true => some (faultV (qF s n a.toNat) (qE s n a.toNat), ⟨[rF s (qF s n a.toNat)], []⟩, [(decide (0 ≤ a ∧ a ≤ (s.size : Int)), true), (decide (w = 1000 - (n : Int)), true), (decide (qE s n a.toNat = 0), false), (Nat.ble s.size 1099511627776, true)])
    | false => none
  | _, _, _ => none
theorem pdP_ok {pn u : Bool} {n : Nat} (ih : u = true → RpAt n) : ∀ f xs H x H' o, pdP pn u n f xs H = some (x, H', o) → (∀ p ∈ o, p.1 = p.2) → RCalls G0 f xs H (fun o' H2 => o' = .pan x ∧ H2 = H') ∧ x.scP (belowN H'.bx.length) (belowN H'.rw.length) = true ∧ H'.scB H'.bx.length H'.rw.length = true := by
  intro f xs H x H' o h ho
  have fin : ∀ {R : Out → List Box → Prop} {f : Nat} {args : List PV} {b b' : List Box} {x : PV}, PCalls G0 f args b R → (∀ o c, R o c → o = .pan x ∧ c = b') → RCalls G0 f args ⟨b, []⟩ (fun o' H2 => o' = .pan x ∧ H2 = ⟨b', []⟩) := fun hc hR => (PCalls.toR hc).mono fun o' H2 ⟨g1, g2⟩ => by
    obtain ⟨b2, r⟩ := H2
    simp only [] at g1 g2
    obtain ⟨e1, e2⟩ := hR _ _ g2
    rw [g1, e2]; exact ⟨e1, rfl⟩
  unfold pdP at h
  split at h
  · rename_i e s a ty
    split at h
    · rename_i hc
      cases h
      simp only [Nat.beq_eq] at hc
      subst hc
      have h1 : 0 ≤ a := of_decide_eq_true (ho _ (List.mem_singleton.2 rfl))
      have key := failP s a.toNat e
      unfold rP faultV at key
      rw [Int.toNat_of_nonneg h1] at key
      exact ⟨fin key (fun o c h => h), rfl, rfl⟩
    · cases h
  · rename_i s a ty
    split at h
    · rename_i hc
      cases h
      simp only [Nat.beq_eq, Bool.and_eq_true] at hc
      obtain ⟨_, hc⟩ := hc
      subst hc
      have h1 : 0 ≤ a ∧ a ≤ (s.size : Int) := of_decide_eq_true (ho (decide (0 ≤ a ∧ a ≤ (s.size : Int)), true) (by simp))
      have h2 : s.size ≤ 1099511627776 := Nat.le_of_ble_eq_true (ho (Nat.ble s.size 1099511627776, true) (by simp))
      have h3 : ¬ atE s a.toNat = 0 := of_decide_eq_false (ho (decide (atE s a.toNat = 0), false) (by simp))
      have key := atomP s h2 a.toNat (by omega)
      rw [(atQ_none h3).1] at key
      unfold rP at key
      rw [Int.toNat_of_nonneg h1.1] at key
      refine ⟨fin key (fun o c h => ?_), rfl, rfl⟩
      rcases h with ⟨cs, g1, _⟩ | ⟨_, g2, g3⟩
      · cases g1
      · exact ⟨g2, g3⟩
    · cases h
  · rename_i w s a ty
    split at h
    · rename_i hc
      cases h
      simp only [Nat.beq_eq, Bool.and_eq_true] at hc
      obtain ⟨_, hu, hc⟩ := hc
      subst hc
      have h1 : 0 ≤ a ∧ a ≤ (s.size : Int) := of_decide_eq_true (ho (decide (0 ≤ a ∧ a ≤ (s.size : Int)), true) (by simp))
      have h2 : s.size ≤ 1099511627776 := Nat.le_of_ble_eq_true (ho (Nat.ble s.size 1099511627776, true) (by simp))
      have h3 : w = 1000 - (n : Int) := of_decide_eq_true (ho (decide (w = 1000 - (n : Int)), true) (by simp))
      have h4 : ¬ qE s n a.toNat = 0 := of_decide_eq_false (ho (decide (qE s n a.toNat = 0), false) (by simp))
      have key := ih hu s h2 a.toNat (by omega)
      have e1 : rP s a.toNat = ⟨[.str s, .int .i64 a], 87⟩ := by unfold rP; rw [Int.toNat_of_nonneg h1.1]
      rw [e1, ← h3] at key
      refine ⟨fin key (fun o c h => ?_), rfl, rfl⟩
      rcases h with ⟨g1, _⟩ | ⟨_, g2, g3⟩
      · exact absurd g1 h4
      · exact ⟨g2, g3⟩
    · cases h
  · cases h
noncomputable def SPd (pn u : Bool) (n : Nat) (ih : u = true → RpAt n) (l : List (Nat × List (Nat × Bool))) (v : List (Nat × List (Nat × PV))) : Cfg G0 := { F := F, hF := hF, S := pdS, hS := pdS_ok, B := pdB u n, hB := pdB_ok ih, D := fun f => Nat.beq f 68 || Nat.beq f 54, orc := orcM l, val := valM v, pn := fun f => Nat.beq f 75 || (pn && (Nat.beq f 54 || Nat.beq f 68)), P := pdP pn u n, hP := pdP_ok ih }
mutual
theorem Nd.pl_nz : ∀ d : Nd, nzL d.pl = d.pl
  | .mk k n s ks a => by simp only [Nd.pl, nzL, PV.nz, Nds.pl_nz ks]
theorem Nds.pl_nz : ∀ ds : Nds, nzL ds.pl = ds.pl
  | .nil => rfl
  | .cons d ds => by simp only [Nds.pl, nzL_app, Nd.pl_nz d, Nds.pl_nz ds]
end
theorem ndJ_eq (x : Nd) : ndJ x = x.dat.cells := by obtain ⟨k, n, t, ks, a⟩ := x; rfl
theorem ndP_eq (x : Nd) : ndP x = x.pl := by obtain ⟨k, n, t, ks, a⟩ := x; rfl
theorem Nds.snoc_pl : ∀ (ds : Nds) (x : Nd), (ds.snoc x).pl = ds.pl ++ x.pl
  | .nil, x => by simp [Nds.snoc, Nds.pl]
  | .cons d ds, x => by simp only [Nds.snoc, Nds.pl, Nds.snoc_pl ds x, List.append_assoc]
theorem Nds.snoc_dc : ∀ (ds : Nds) (x : Nd), (ds.snoc x).dat.cells = ds.dat.cells ++ x.dat.cells
  | .nil, x => by simp [Nds.snoc, Nds.dat, Dats.cells]
  | .cons d ds, x => by simp only [Nds.snoc, Nds.dat, Dats.cells, Nds.snoc_dc ds x, List.append_assoc]
theorem skp_skp (s : ByteArray) (a : Nat) : skp s (skp s a) = skp s a := by
  rcases Nat.lt_or_ge (skp s a) s.size with h | h
  · obtain ⟨g1, g2⟩ := clean_skp s a h
    rw [skp_eq s (skp s a), if_pos h, if_neg (by rw [g1]; decide), if_neg g2]
  · exact skp_out s _ h
theorem nxt_in (s : ByteArray) (a : Nat) : decide (0 ≤ nxt s a ∧ nxt s a < 256) = true := by
  unfold nxt
  split
  · exact decide_eq_true (bt_in s _)
  · rfl
/-- One round of the reading of a list: its fault is the list's. -/
theorem rdL_err {s : ByteArray} {n x k : Nat} {l : Nds} (hg : goes s ⟨x, 0, 0⟩ = true) (he : ¬ rdE s n x = 0) : (rdL (rdD s n) s (k + 1) ⟨x, 0, 0⟩ l).2.e = rdE s n x ∧ (rdL (rdD s n) s (k + 1) ⟨x, 0, 0⟩ l).2.b = rdF s n x := by
  rw [rdL, if_pos hg]
  have : goes s ⟨skp s (rdD s n x).2.a, (rdD s n x).2.e, (rdD s n x).2.b⟩ = false := goes_err he
  rw [rdL_stop this]
  exact ⟨rfl, rfl⟩
theorem goes_at0 (s : ByteArray) (x : Nat) : goes s ⟨x, 0, 0⟩ = !(decide (x < s.size) && bt s (x : Int) == 41) := rfl
theorem rp_step (u : Bool) (n : Nat) (ih : u = true → RpAt n) (N : Nat) (h1 : u = true → N = n + 1) (h0 : u = false → N = 0) (hN : N ≤ 1000) : RpAt N := by
  intro s hs a ha
  obtain ⟨w, hw⟩ : ∃ w : Int, w = 1000 - (N : Int) := ⟨_, rfl⟩
  rw [← hw]
  refine PCalls.nz ?_
  refine Fn.enterB Tryd.func68 Tryd.ntmps68 rfl (Nat.le_of_ble_eq_true rfl) fun C fr fp hnt hnb hp hfr hfp => ?_
  have hss : Nat.ble s.size 1099511627776 = true := Nat.ble_eq_true_of_le hs
  obtain ⟨y, hy⟩ : ∃ y, y = skp s a := ⟨_, rfl⟩
  have hy2 : y ≤ s.size := by rw [hy]; exact skp_le s a ha
  have hcl : skp s y = y := by rw [hy]; exact skp_skp s a
  have eq := rdD_eq s N y
  have fin : ∀ st d p z bx rw', nrm [4, 5] st = ⟨[(4, .ptr 1 0), (5, .ptr 2 0)], ⟨rP s z :: ⟨d, 25⟩ :: ⟨p, 64⟩ :: bx, rw'⟩⟩ → d.length = 4 → p.length = 2 → scL 1 d = true → scL 1 p = true → (∃ X, rdD s N y = (X, ⟨z, 0, 0⟩) ∧ nzL d = X.dat.cells ∧ nzL p = X.pl) → fr st := fun st d p z bx rw' hst l1 l2 s1 s2 ⟨X, g1, g2, g3⟩ => hfr st [4, 5] (by
    have a1 : qX s N a = X := by unfold qX rdX; rw [← hy, g1]
    have a2 : qA s N a = z := by unfold qA rdA; rw [← hy, g1]
    have a3 : qE s N a = 0 := by unfold qE rdE; rw [← hy, g1]
    rw [hst]
    refine ⟨1, .tup [.agg d, .agg p], Nat.le_refl _, Nat.le_add_left _ _, ?_, ?_, rfl, .inl ⟨a3, ?_, ?_⟩⟩
    · match d, l1, p, l2 with
      | [d1, d2, d3, d4], _, [p1, p2], _ => rfl
    · simp only [PV.sc, scL, s1, s2, Bool.and_true] at *
    · show Out.ret (.tup [.agg (nzL d), .agg (nzL p)]) = _
      rw [g2, g3, a1, ndJ_eq, ndP_eq]
    · rw [a2]; rfl)
  have pan : ∀ st (x e : Int) bx rw', st.h = ⟨rF s x :: bx, rw'⟩ → e ≠ 0 → rdE s N y = e → rdF s N y = x → fp (faultV x e) st := fun st x e bx rw' hst he g1 g2 => hfp _ st (by
    have a3 : qE s N a = e := by unfold qE; rw [← hy]; exact g1
    have a4 : qF s N a = x := by unfold qF; rw [← hy]; exact g2
    refine ⟨1, Nat.le_refl _, by rw [hst]; exact Nat.le_add_left _ _, rfl, by rw [hst]; rfl, .inr ⟨by rw [a3]; exact he, ?_, ?_⟩⟩
    · rw [a3, a4]; rfl
    · rw [hst, a4]; rfl)
  have dy : decide (0 ≤ (a : Int) ∧ (a : Int) ≤ (s.size : Int)) = true := by rw [decide_eq_true_eq]; omega
  have dyy : decide (0 ≤ (y : Int) ∧ (y : Int) ≤ (s.size : Int)) = true := by rw [decide_eq_true_eq]; omega
  have dy0 : decide (0 ≤ (y : Int)) = true := by rw [decide_eq_true_eq]; omega
  refine Q.runSeq (SPd false u n ih [] []) 100 121 hnt [0, 1, 4, 5] (z := { t := [(0, PV.ptr 0 0), (1, PV.int IntKind.i64 w), (4, PV.ptr 1 0), (5, PV.ptr 2 0)], h := { bx := [{ cs := [PV.str s, PV.int IntKind.i64 (Int.ofNat a)], ty := 87 }, { cs := [PV.int IntKind.i64 (0 : Int), PV.int IntKind.i64 (0 : Int), PV.str { data := #[] }, PV.nil], ty := 25 }, { cs := [PV.int IntKind.i64 (0 : Int), PV.nil], ty := 64 }], rw := [] } }) (o := []) (by kernel_rfl) (by ((repeat' (first | exact okO_nil | refine okN ?_ ?_)); all_goals first | assumption | rfl | exact same_of rfl | exact sameS_self _ | (simp only [decide_eq_true_eq, decide_eq_false_iff_not, Nat.ble_eq, Nat.beq_eq, beq_eq_false_iff_ne, beq_iff_eq, ne_eq] <;> omega))) ?_
  refine Q.runSeq (SPd false u n ih [] []) 100 121 hnt [0, 1, 4, 5, 6] (z := { t := [(0, PV.ptr 0 0), (1, PV.int IntKind.i64 w), (4, PV.ptr 1 0), (5, PV.ptr 2 0), (6, PV.int IntKind.u8 (if skp s (Int.toNat (↑a : Int)) < ByteArray.size s then bt s (Int.ofNat (skp s (Int.toNat (Int.ofNat a)))) else (0 : Int)))], h := { bx := [{ cs := [PV.str s, PV.int IntKind.i64 (Int.ofNat (skp s (Int.toNat (Int.ofNat a))))], ty := 87 }, { cs := [PV.int IntKind.i64 (0 : Int), PV.int IntKind.i64 (0 : Int), PV.str { data := #[] }, PV.nil], ty := 25 }, { cs := [PV.int IntKind.i64 (0 : Int), PV.nil], ty := 64 }], rw := [] } }) (o := [(decide (0 ≤ (↑a : Int) ∧ (↑a : Int) ≤ (↑(ByteArray.size s) : Int)), true), (Nat.ble (ByteArray.size s) 1099511627776, true)]) (by kernel_rfl) (by ((repeat' (first | exact okO_nil | refine okN ?_ ?_)); all_goals first | assumption | rfl | exact same_of rfl | exact sameS_self _ | (simp only [decide_eq_true_eq, decide_eq_false_iff_not, Nat.ble_eq, Nat.beq_eq, beq_eq_false_iff_ne, beq_iff_eq, ne_eq] <;> omega))) ?_
  obtain ⟨c, hc⟩ : ∃ c, c = nxt s a := ⟨_, rfl⟩
  have hc8 : decide (0 ≤ c ∧ c < 256) = true := by rw [hc]; exact nxt_in s a
  show SWP G0 C _ _ ⟨[(0, .ptr 0 0), (1, .int .i64 w), (4, .ptr 1 0), (5, .ptr 2 0), (6, .int .u8 (nxt s a))], ⟨[rP s (skp s a), dZ, pZ], []⟩⟩
  rw [← hc, ← hy]
  rw [nxt, ← hy] at hc
  refine Q.runSeq (SPd false u n ih [] []) 100 121 hnt [0, 1, 4, 5, 6, 7] (z := { t := [(0, PV.ptr 0 0), (1, PV.int IntKind.i64 w), (4, PV.ptr 1 0), (5, PV.ptr 2 0), (6, PV.int IntKind.u8 c), (7, PV.ptr 3 0)], h := { bx := [{ cs := [PV.str s, PV.int IntKind.i64 (Int.ofNat y)], ty := 87 }, { cs := [PV.int IntKind.i64 (0 : Int), PV.int IntKind.i64 (0 : Int), PV.str { data := #[] }, PV.nil], ty := 25 }, { cs := [PV.int IntKind.i64 (0 : Int), PV.nil], ty := 64 }, { cs := [PV.int IntKind.i64 (Int.ofNat y), PV.nil], ty := 64 }], rw := [] } }) (o := []) (by kernel_rfl) (by ((repeat' (first | exact okO_nil | refine okN ?_ ?_)); all_goals first | assumption | rfl | exact same_of rfl | exact sameS_self _ | (simp only [decide_eq_true_eq, decide_eq_false_iff_not, Nat.ble_eq, Nat.beq_eq, beq_eq_false_iff_ne, beq_iff_eq, ne_eq] <;> omega))) ?_
  -- no datum begins here
  by_cases hb : c ≠ 40 ∧ c ≠ 39 ∧ letC c = false
  · have e22 := hb.2.2
    have e25 := beqF hb.1
    have e29 := beqF hb.2.1
    refine Q.runSeq (SPd false u n ih [(121, [(22, false), (25, false), (29, false)])] []) 100 121 hnt [0, 1, 4, 5, 6, 7, 8] (z := { t := [(0, PV.ptr 0 0), (1, PV.int IntKind.i64 w), (4, PV.ptr 1 0), (5, PV.ptr 2 0), (6, PV.int IntKind.u8 c), (7, PV.ptr 3 0), (8, PV.bool false)], h := { bx := [{ cs := [PV.str s, PV.int IntKind.i64 (Int.ofNat y)], ty := 87 }, { cs := [PV.int IntKind.i64 (0 : Int), PV.int IntKind.i64 (0 : Int), PV.str { data := #[] }, PV.nil], ty := 25 }, { cs := [PV.int IntKind.i64 (0 : Int), PV.nil], ty := 64 }, { cs := [PV.int IntKind.i64 (Int.ofNat y), PV.nil], ty := 64 }], rw := [] } }) (o := [(true, true), (decide (0 ≤ c ∧ c < 256), true), (letC c, false), (c == (40 : Int), false), (c == (39 : Int), false)]) (by kernel_rfl) (by ((repeat' (first | exact okO_nil | refine okN ?_ ?_)); all_goals first | assumption | rfl | exact same_of rfl | exact sameS_self _ | (simp only [decide_eq_true_eq, decide_eq_false_iff_not, Nat.ble_eq, Nat.beq_eq, beq_eq_false_iff_ne, beq_iff_eq, ne_eq] <;> omega))) ?_
    refine Q.runSeq (SPd false u n ih [] []) 100 121 hnt [0, 1, 4, 5, 6, 7] (z := { t := [(0, PV.ptr 0 0), (1, PV.int IntKind.i64 w), (4, PV.ptr 1 0), (5, PV.ptr 2 0), (6, PV.int IntKind.u8 c), (7, PV.ptr 3 0)], h := { bx := [{ cs := [PV.str s, PV.int IntKind.i64 (Int.ofNat y)], ty := 87 }, { cs := [PV.int IntKind.i64 (0 : Int), PV.int IntKind.i64 (0 : Int), PV.str { data := #[] }, PV.nil], ty := 25 }, { cs := [PV.int IntKind.i64 (0 : Int), PV.nil], ty := 64 }, { cs := [PV.int IntKind.i64 (Int.ofNat y), PV.nil], ty := 64 }], rw := [] } }) (o := []) (by kernel_rfl) (by ((repeat' (first | exact okO_nil | refine okN ?_ ?_)); all_goals first | assumption | rfl | exact same_of rfl | exact sameS_self _ | (simp only [decide_eq_true_eq, decide_eq_false_iff_not, Nat.ble_eq, Nat.beq_eq, beq_eq_false_iff_ne, beq_iff_eq, ne_eq] <;> omega))) ?_
    have key : rdE s N y = 4 ∧ rdF s N y = (y : Int) := by
      unfold rdE rdF
      rcases Nat.lt_or_ge y s.size with hl | hg
      · rw [if_pos hl] at hc
        rw [eq, if_neg (by omega), if_pos ⟨by rw [← hc]; exact hb.1, by rw [← hc]; exact hb.2.1, by rw [← hc]; exact hb.2.2⟩]
        exact ⟨rfl, rfl⟩
      · rw [eq, if_pos hg]
        have : y = s.size := by omega
        exact ⟨rfl, by rw [this]⟩
    exact SWP.runQ (SPd true u n ih [(121, [(40, false), (46, false), (86, false)])] []) 100 121 hnt [] (e := .panic (faultV y 4)) (z := { t := [], h := { bx := [{ cs := [PV.str s, PV.int IntKind.i64 (Int.ofNat y)], ty := 87 }, { cs := [PV.int IntKind.i64 (0 : Int), PV.int IntKind.i64 (0 : Int), PV.str { data := #[] }, PV.nil], ty := 25 }, { cs := [PV.int IntKind.i64 (0 : Int), PV.nil], ty := 64 }, { cs := [PV.int IntKind.i64 (Int.ofNat y), PV.nil], ty := 64 }], rw := [] } }) (o := [(true, true), (decide (0 ≤ c ∧ c < 256), true), (letC c, false), (c == (40 : Int), false), (c == (39 : Int), false), (true, true)]) (by kernel_rfl) (by ((repeat' (first | exact okO_nil | refine okN ?_ ?_)); all_goals first | assumption | rfl | exact same_of rfl | exact sameS_self _ | (simp only [decide_eq_true_eq, decide_eq_false_iff_not, Nat.ble_eq, Nat.beq_eq, beq_eq_false_iff_ne, beq_iff_eq, ne_eq] <;> omega))) (fun st hst => pan st y 4 _ _ (congrArg AS.h hst) (by decide) key.1 key.2)
  have hlt : y < s.size := by
    rcases Nat.lt_or_ge y s.size with hl | hg
    · exact hl
    · rw [if_neg (by omega)] at hc
      exact absurd ⟨by rw [hc]; decide, by rw [hc]; decide, by rw [hc]; decide⟩ hb
  rw [if_pos hlt] at hc
  rw [if_neg (by omega), ← hc, if_neg hb] at eq
  have beg : ∀ {Q : AEx → AS → Prop} {c0 : Code}, SWP G0 C c0 Q ⟨[(0, .ptr 0 0), (1, .int .i64 w), (4, .ptr 1 0), (5, .ptr 2 0), (6, .int .u8 c), (7, .ptr 3 0), (8, .bool true)], ⟨[rP s y, dZ, pZ, pB y .nil], []⟩⟩ → SWP G0 C c0 Q ⟨[(0, .ptr 0 0), (1, .int .i64 w), (4, .ptr 1 0), (5, .ptr 2 0), (6, .int .u8 c), (7, .ptr 3 0), (8, .bool true)], ⟨[rP s y, dZ, pZ, pB y .nil], []⟩⟩ := fun h => h
  refine Q.seq fun K3 hK3 => ?_
  suffices hmain : SWP G0 C _ _ ⟨[(0, .ptr 0 0), (1, .int .i64 w), (4, .ptr 1 0), (5, .ptr 2 0), (6, .int .u8 c), (7, .ptr 3 0), (8, .bool true)], ⟨[rP s y, dZ, pZ, pB y .nil], []⟩⟩ by
    have go : ∀ st, nrm [0, 1, 4, 5, 6, 7, 8] st = ⟨[(0, .ptr 0 0), (1, .int .i64 w), (4, .ptr 1 0), (5, .ptr 2 0), (6, .int .u8 c), (7, .ptr 3 0), (8, .bool true)], ⟨[rP s y, dZ, pZ, pB y .nil], []⟩⟩ → K3 st := fun st hst => hK3 st (.norm [0, 1, 4, 5, 6, 7, 8] (by rw [hst]; exact hmain))
    cases e22 : letC c with
    | true => exact SWP.runQ (SPd false u n ih [(121, [(22, true)])] []) 100 121 hnt [0, 1, 4, 5, 6, 7, 8] (e := .normal) (z := { t := [(0, PV.ptr 0 0), (1, PV.int IntKind.i64 w), (4, PV.ptr 1 0), (5, PV.ptr 2 0), (6, PV.int IntKind.u8 c), (7, PV.ptr 3 0), (8, PV.bool true)], h := { bx := [{ cs := [PV.str s, PV.int IntKind.i64 (Int.ofNat y)], ty := 87 }, { cs := [PV.int IntKind.i64 (0 : Int), PV.int IntKind.i64 (0 : Int), PV.str { data := #[] }, PV.nil], ty := 25 }, { cs := [PV.int IntKind.i64 (0 : Int), PV.nil], ty := 64 }, { cs := [PV.int IntKind.i64 (Int.ofNat y), PV.nil], ty := 64 }], rw := [] } }) (o := [(true, true), (decide (0 ≤ c ∧ c < 256), true), (letC c, true)]) (by kernel_rfl) (by ((repeat' (first | exact okO_nil | refine okN ?_ ?_)); all_goals first | assumption | rfl | exact same_of rfl | exact sameS_self _ | (simp only [decide_eq_true_eq, decide_eq_false_iff_not, Nat.ble_eq, Nat.beq_eq, beq_eq_false_iff_ne, beq_iff_eq, ne_eq] <;> omega))) go
    | false =>
      by_cases e40 : c = 40
      · have e25 := beqT e40
        exact SWP.runQ (SPd false u n ih [(121, [(22, false), (25, true)])] []) 100 121 hnt [0, 1, 4, 5, 6, 7, 8] (e := .normal) (z := { t := [(0, PV.ptr 0 0), (1, PV.int IntKind.i64 w), (4, PV.ptr 1 0), (5, PV.ptr 2 0), (6, PV.int IntKind.u8 c), (7, PV.ptr 3 0), (8, PV.bool true)], h := { bx := [{ cs := [PV.str s, PV.int IntKind.i64 (Int.ofNat y)], ty := 87 }, { cs := [PV.int IntKind.i64 (0 : Int), PV.int IntKind.i64 (0 : Int), PV.str { data := #[] }, PV.nil], ty := 25 }, { cs := [PV.int IntKind.i64 (0 : Int), PV.nil], ty := 64 }, { cs := [PV.int IntKind.i64 (Int.ofNat y), PV.nil], ty := 64 }], rw := [] } }) (o := [(true, true), (decide (0 ≤ c ∧ c < 256), true), (letC c, false), (c == (40 : Int), true)]) (by kernel_rfl) (by ((repeat' (first | exact okO_nil | refine okN ?_ ?_)); all_goals first | assumption | rfl | exact same_of rfl | exact sameS_self _ | (simp only [decide_eq_true_eq, decide_eq_false_iff_not, Nat.ble_eq, Nat.beq_eq, beq_eq_false_iff_ne, beq_iff_eq, ne_eq] <;> omega))) go
      · have e25 := beqF e40
        have e39 : c = 39 := by
          by_cases h : c = 39
          · exact h
          · exact absurd ⟨e40, h, e22⟩ hb
        have e29 := beqT e39
        exact SWP.runQ (SPd false u n ih [(121, [(22, false), (25, false), (29, true)])] []) 100 121 hnt [0, 1, 4, 5, 6, 7, 8] (e := .normal) (z := { t := [(0, PV.ptr 0 0), (1, PV.int IntKind.i64 w), (4, PV.ptr 1 0), (5, PV.ptr 2 0), (6, PV.int IntKind.u8 c), (7, PV.ptr 3 0), (8, PV.bool true)], h := { bx := [{ cs := [PV.str s, PV.int IntKind.i64 (Int.ofNat y)], ty := 87 }, { cs := [PV.int IntKind.i64 (0 : Int), PV.int IntKind.i64 (0 : Int), PV.str { data := #[] }, PV.nil], ty := 25 }, { cs := [PV.int IntKind.i64 (0 : Int), PV.nil], ty := 64 }, { cs := [PV.int IntKind.i64 (Int.ofNat y), PV.nil], ty := 64 }], rw := [] } }) (o := [(true, true), (decide (0 ≤ c ∧ c < 256), true), (letC c, false), (c == (40 : Int), false), (c == (39 : Int), true)]) (by kernel_rfl) (by ((repeat' (first | exact okO_nil | refine okN ?_ ?_)); all_goals first | assumption | rfl | exact same_of rfl | exact sameS_self _ | (simp only [decide_eq_true_eq, decide_eq_false_iff_not, Nat.ble_eq, Nat.beq_eq, beq_eq_false_iff_ne, beq_iff_eq, ne_eq] <;> omega))) go
  clear hK3 K3 beg
  cases u with
  | false =>
    obtain rfl := h0 rfl
    have e34 : decide (1000 ≤ w) = true := by rw [decide_eq_true_eq]; omega
    refine Q.seq fun K hK => ?_
    exact SWP.runQ (SPd true false n ih [(121, [(34, true)])] []) 100 121 hnt [] (e := .panic (faultV y 3)) (z := { t := [], h := { bx := [{ cs := [PV.str s, PV.int IntKind.i64 (Int.ofNat y)], ty := 87 }, { cs := [PV.int IntKind.i64 (0 : Int), PV.int IntKind.i64 (0 : Int), PV.str { data := #[] }, PV.nil], ty := 25 }, { cs := [PV.int IntKind.i64 (0 : Int), PV.nil], ty := 64 }, { cs := [PV.int IntKind.i64 (Int.ofNat y), PV.nil], ty := 64 }], rw := [] } }) (o := [(decide (1000 ≤ w), true), (true, true)]) (by kernel_rfl) (by ((repeat' (first | exact okO_nil | refine okN ?_ ?_)); all_goals first | assumption | rfl | exact same_of rfl | exact sameS_self _ | (simp only [decide_eq_true_eq, decide_eq_false_iff_not, Nat.ble_eq, Nat.beq_eq, beq_eq_false_iff_ne, beq_iff_eq, ne_eq] <;> omega))) (fun st hst => pan st y 3 _ _ (congrArg AS.h hst) (by decide) (by unfold rdE; rw [eq]) (by unfold rdF; rw [eq]))
  | true =>
  obtain rfl := h1 rfl
  have e34 : decide (1000 ≤ w) = false := by rw [decide_eq_false_iff_not]; omega
  refine Q.runSeq (SPd false true n ih [(121, [(34, false)])] []) 100 121 hnt [0, 1, 4, 5, 6, 7] (z := { t := [(0, PV.ptr 0 0), (1, PV.int IntKind.i64 w), (4, PV.ptr 1 0), (5, PV.ptr 2 0), (6, PV.int IntKind.u8 c), (7, PV.ptr 3 0)], h := { bx := [{ cs := [PV.str s, PV.int IntKind.i64 (Int.ofNat y)], ty := 87 }, { cs := [PV.int IntKind.i64 (0 : Int), PV.int IntKind.i64 (0 : Int), PV.str { data := #[] }, PV.nil], ty := 25 }, { cs := [PV.int IntKind.i64 (0 : Int), PV.nil], ty := 64 }, { cs := [PV.int IntKind.i64 (Int.ofNat y), PV.nil], ty := 64 }], rw := [] } }) (o := [(decide (1000 ≤ w), false)]) (by kernel_rfl) (by ((repeat' (first | exact okO_nil | refine okN ?_ ?_)); all_goals first | assumption | rfl | exact same_of rfl | exact sameS_self _ | (simp only [decide_eq_true_eq, decide_eq_false_iff_not, Nat.ble_eq, Nat.beq_eq, beq_eq_false_iff_ne, beq_iff_eq, ne_eq] <;> omega))) ?_
  have w2 : IntKind.wrap IntKind.i64 (w + 1) = 1000 - (n : Int) := by rw [IntKind.wrap_i64]; omega
  have wy : IntKind.wrap IntKind.i64 (Int.ofNat (y + 1)) = ((y + 1 : Nat) : Int) := wrapI (y + 1) (by omega)
  have fw : decide (IntKind.wrap IntKind.i64 (w + 1) = 1000 - (n : Int)) = true := by rw [w2]; exact decide_eq_true rfl
  simp only [] at eq
  cases e40l : letC c with
  | true =>
    -- an atom
    have c39 : ¬ c = 39 := fun h => by rw [h] at e40l; exact absurd e40l (by decide)
    rw [if_neg (fun g => c39 g.1), if_pos e40l] at eq
    by_cases he : atE s y = 0
    · have d3 := decide_eq_true he
      have eq2 : rdD s (n + 1) y = (atX s y, ⟨atA s y, 0, 0⟩) := by
        rw [eq]
        have hb0 : (atomR s y).2.b = 0 := by
          unfold atE at he
          unfold atomR at he ⊢
          split at he
          · rename_i h; rw [if_pos h]
          · rename_i h
            split at he
            · rename_i h'; rw [if_neg h, if_pos h']
            · exact absurd he n4
        have : (atomR s y).2 = ⟨atA s y, atE s y, (atomR s y).2.b⟩ := rfl
        rw [he, hb0] at this
        exact Prod.ext rfl this
      have hks : ndS (atX s y) = .nil := by
        unfold atX atomR
        split
        · rfl
        · split <;> rfl
      have hka : ndA (atX s y) = (y : Int) := by
        unfold atE at he
        unfold atX
        unfold atomR at he ⊢
        split at he
        · rename_i h; rw [if_pos h]; rfl
        · rename_i h
          split at he
          · rename_i h'; rw [if_neg h, if_pos h']; rfl
          · exact absurd he n4
      refine Q.seq fun K9 hK9 => ?_
      refine Q.block ?_
      refine Q.runSeq (SPd false true n ih [(121, [(40, true)])] []) 100 121 hnt [0, 4, 5, 7, 38] (z := { t := [(0, PV.ptr 0 0), (4, PV.ptr 1 0), (5, PV.ptr 2 0), (7, PV.ptr 3 0), (38, PV.bool true)], h := { bx := [{ cs := [PV.str s, PV.int IntKind.i64 (Int.ofNat y)], ty := 87 }, { cs := [PV.int IntKind.i64 (0 : Int), PV.int IntKind.i64 (0 : Int), PV.str { data := #[] }, PV.nil], ty := 25 }, { cs := [PV.int IntKind.i64 (0 : Int), PV.nil], ty := 64 }, { cs := [PV.int IntKind.i64 (Int.ofNat y), PV.nil], ty := 64 }], rw := [] } }) (o := [(true, true), (decide (0 ≤ c ∧ c < 256), true), (letC c, true)]) (by kernel_rfl) (by ((repeat' (first | exact okO_nil | refine okN ?_ ?_)); all_goals first | assumption | rfl | exact same_of rfl | exact sameS_self _ | (simp only [decide_eq_true_eq, decide_eq_false_iff_not, Nat.ble_eq, Nat.beq_eq, beq_eq_false_iff_ne, beq_iff_eq, ne_eq] <;> omega))) ?_
      refine Q.cond (b := true) rfl (fun _ => ?_) (fun h => by cases h)
      refine Q.seq fun K hK => ?_
      refine SWP.runLQ (SPd false true n ih [] []) 100 121 hnt [4, 5] (l := List.replicate 3 { t := [(4, PV.ptr 1 0), (5, PV.ptr 2 0)], h := { bx := [{ cs := [PV.str s, PV.int IntKind.i64 (Int.ofNat (atA s (Int.toNat (Int.ofNat y))))], ty := 87 }, { cs := [PV.int IntKind.i64 (ndK (atX s (Int.toNat (↑y : Int)))), PV.int IntKind.i64 (ndN (atX s (Int.toNat (↑y : Int)))), PV.str (ndT (atX s (Int.toNat (↑y : Int)))), PV.nil], ty := 25 }, { cs := [PV.int IntKind.i64 (Int.ofNat y), PV.nil], ty := 64 }, { cs := [PV.int IntKind.i64 (Int.ofNat y), PV.nil], ty := 64 }], rw := [] } }) (o := [(decide (0 ≤ (↑y : Int) ∧ (↑y : Int) ≤ (↑(ByteArray.size s) : Int)), true), (decide (atE s (Int.toNat (↑y : Int)) = 0), true), (Nat.ble (ByteArray.size s) 1099511627776, true), (decide (0 ≤ (↑y : Int) ∧ (↑y : Int) ≤ (↑(ByteArray.size s) : Int)), true), (decide (atE s (Int.toNat (↑y : Int)) = 0), true), (Nat.ble (ByteArray.size s) 1099511627776, true)]) (by kernel_rfl) (by ((repeat' (first | exact okO_nil | refine okN ?_ ?_)); all_goals first | assumption | rfl | exact same_of rfl | exact sameS_self _ | (simp only [decide_eq_true_eq, decide_eq_false_iff_not, Nat.ble_eq, Nat.beq_eq, beq_eq_false_iff_ne, beq_iff_eq, ne_eq] <;> omega))) (fun st hst => hK st (.norm [4, 5] ?_))
      rw [List.eq_of_mem_replicate hst]
      exact .ret (fin _ _ _ (atA s y) _ _ rfl rfl rfl rfl rfl ⟨atX s y, eq2, by rw [← ndJ_eq]; unfold ndJ; rw [hks]; rfl, by rw [← ndP_eq]; unfold ndP; rw [hks, hka]; rfl⟩)
    · have d3 : decide (atE s (Int.toNat (y : Int)) = 0) = false := by rw [Int.toNat_natCast]; exact decide_eq_false he
      obtain ⟨_, k1, k2⟩ := atQ_none he
      refine Q.seq fun K9 hK9 => ?_
      refine Q.block ?_
      refine Q.runSeq (SPd false true n ih [(121, [(40, true)])] []) 100 121 hnt [0, 4, 5, 7, 38] (z := { t := [(0, PV.ptr 0 0), (4, PV.ptr 1 0), (5, PV.ptr 2 0), (7, PV.ptr 3 0), (38, PV.bool true)], h := { bx := [{ cs := [PV.str s, PV.int IntKind.i64 (Int.ofNat y)], ty := 87 }, { cs := [PV.int IntKind.i64 (0 : Int), PV.int IntKind.i64 (0 : Int), PV.str { data := #[] }, PV.nil], ty := 25 }, { cs := [PV.int IntKind.i64 (0 : Int), PV.nil], ty := 64 }, { cs := [PV.int IntKind.i64 (Int.ofNat y), PV.nil], ty := 64 }], rw := [] } }) (o := [(true, true), (decide (0 ≤ c ∧ c < 256), true), (letC c, true)]) (by kernel_rfl) (by ((repeat' (first | exact okO_nil | refine okN ?_ ?_)); all_goals first | assumption | rfl | exact same_of rfl | exact sameS_self _ | (simp only [decide_eq_true_eq, decide_eq_false_iff_not, Nat.ble_eq, Nat.beq_eq, beq_eq_false_iff_ne, beq_iff_eq, ne_eq] <;> omega))) ?_
      refine Q.cond (b := true) rfl (fun _ => ?_) (fun h => by cases h)
      refine Q.seq fun K hK => ?_
      refine SWP.runXQ (SPd true true n ih [] []) 100 121 hnt hp.q (l := List.replicate 2 { t := [(0, PV.iface 121 (PV.agg [PV.int IntKind.i64 (Int.ofNat y), PV.int IntKind.i64 (4 : Int)]))], h := { bx := [{ cs := [PV.str s, PV.int IntKind.i64 (Int.ofNat y)], ty := 87 }, { cs := [PV.int IntKind.i64 (0 : Int), PV.int IntKind.i64 (0 : Int), PV.str { data := #[] }, PV.nil], ty := 25 }, { cs := [PV.int IntKind.i64 (0 : Int), PV.nil], ty := 64 }, { cs := [PV.int IntKind.i64 (Int.ofNat y), PV.nil], ty := 64 }], rw := [] } }) (o := [(decide (0 ≤ (↑y : Int) ∧ (↑y : Int) ≤ (↑(ByteArray.size s) : Int)), true), (decide (atE s (Int.toNat (↑y : Int)) = 0), false), (Nat.ble (ByteArray.size s) 1099511627776, true), (decide (0 ≤ (↑y : Int) ∧ (↑y : Int) ≤ (↑(ByteArray.size s) : Int)), true), (decide (atE s (Int.toNat (↑y : Int)) = 0), false), (Nat.ble (ByteArray.size s) 1099511627776, true)]) (by kernel_rfl) (by ((repeat' (first | exact okO_nil | refine okN ?_ ?_)); all_goals first | assumption | rfl | exact same_of rfl | exact sameS_self _ | (simp only [decide_eq_true_eq, decide_eq_false_iff_not, Nat.ble_eq, Nat.beq_eq, beq_eq_false_iff_ne, beq_iff_eq, ne_eq] <;> omega))) ?_
      intro st hst x h e
      rw [List.eq_of_mem_replicate hst] at e
      cases e
      exact pan _ y 4 _ _ rfl (by decide) (by unfold rdE; rw [eq]; exact k1) (by unfold rdF; rw [eq]; exact k2)
  | false =>
  have nl : ¬ letC c = true := by rw [e40l]; decide
  refine Q.seq fun K9 hK9 => ?_
  refine Q.block ?_
  refine Q.runSeq (SPd false true n ih [(121, [(40, false)])] []) 100 121 hnt [0, 1, 4, 5, 6, 7, 38] (z := { t := [(0, PV.ptr 0 0), (1, PV.int IntKind.i64 w), (4, PV.ptr 1 0), (5, PV.ptr 2 0), (6, PV.int IntKind.u8 c), (7, PV.ptr 3 0), (38, PV.bool false)], h := { bx := [{ cs := [PV.str s, PV.int IntKind.i64 (Int.ofNat y)], ty := 87 }, { cs := [PV.int IntKind.i64 (0 : Int), PV.int IntKind.i64 (0 : Int), PV.str { data := #[] }, PV.nil], ty := 25 }, { cs := [PV.int IntKind.i64 (0 : Int), PV.nil], ty := 64 }, { cs := [PV.int IntKind.i64 (Int.ofNat y), PV.nil], ty := 64 }], rw := [] } }) (o := [(true, true), (decide (0 ≤ c ∧ c < 256), true), (letC c, false)]) (by kernel_rfl) (by ((repeat' (first | exact okO_nil | refine okN ?_ ?_)); all_goals first | assumption | rfl | exact same_of rfl | exact sameS_self _ | (simp only [decide_eq_true_eq, decide_eq_false_iff_not, Nat.ble_eq, Nat.beq_eq, beq_eq_false_iff_ne, beq_iff_eq, ne_eq] <;> omega))) ?_
  refine Q.cond (b := false) rfl (fun h => by cases h) (fun _ => ?_)
  by_cases h40 : c = 40
  · -- a list
    have e46 := beqT h40
    have h39 : ¬ c = 39 := by omega
    rw [if_neg (fun g => h39 g.1), if_neg nl, if_neg h39] at eq
    refine Q.runSeq (SPd false true n ih [(121, [(46, true)])] []) 100 121 hnt [0, 1, 4, 5, 6, 7, 44] (z := { t := [(0, PV.ptr 0 0), (1, PV.int IntKind.i64 w), (4, PV.ptr 1 0), (5, PV.ptr 2 0), (6, PV.int IntKind.u8 c), (7, PV.ptr 3 0), (44, PV.bool true)], h := { bx := [{ cs := [PV.str s, PV.int IntKind.i64 (Int.ofNat y)], ty := 87 }, { cs := [PV.int IntKind.i64 (0 : Int), PV.int IntKind.i64 (0 : Int), PV.str { data := #[] }, PV.nil], ty := 25 }, { cs := [PV.int IntKind.i64 (0 : Int), PV.nil], ty := 64 }, { cs := [PV.int IntKind.i64 (Int.ofNat y), PV.nil], ty := 64 }], rw := [] } }) (o := [(c == (40 : Int), true)]) (by kernel_rfl) (by ((repeat' (first | exact okO_nil | refine okN ?_ ?_)); all_goals first | assumption | rfl | exact same_of rfl | exact sameS_self _ | (simp only [decide_eq_true_eq, decide_eq_false_iff_not, Nat.ble_eq, Nat.beq_eq, beq_eq_false_iff_ne, beq_iff_eq, ne_eq] <;> omega))) ?_
    refine Q.cond (b := true) rfl (fun _ => ?_) (fun h => by cases h)
    refine Q.runSeq (SPd false true n ih [] []) 100 121 hnt [0, 1, 4, 5, 7] (z := { t := [(0, PV.ptr 0 0), (1, PV.int IntKind.i64 w), (4, PV.ptr 1 0), (5, PV.ptr 2 0), (7, PV.ptr 3 0)], h := { bx := [{ cs := [PV.str s, PV.int IntKind.i64 (IntKind.wrap IntKind.i64 (Int.ofNat (y + 1)))], ty := 87 }, { cs := [PV.int IntKind.i64 (0 : Int), PV.int IntKind.i64 (0 : Int), PV.str { data := #[] }, PV.nil], ty := 25 }, { cs := [PV.int IntKind.i64 (0 : Int), PV.nil], ty := 64 }, { cs := [PV.int IntKind.i64 (Int.ofNat y), PV.nil], ty := 64 }], rw := [] } }) (o := []) (by kernel_rfl) (by ((repeat' (first | exact okO_nil | refine okN ?_ ?_)); all_goals first | assumption | rfl | exact same_of rfl | exact sameS_self _ | (simp only [decide_eq_true_eq, decide_eq_false_iff_not, Nat.ble_eq, Nat.beq_eq, beq_eq_false_iff_ne, beq_iff_eq, ne_eq] <;> omega))) ?_
    rw [wy]
    obtain ⟨x0, hx0⟩ : ∃ x, x = y + 1 := ⟨_, rfl⟩
    show SWP G0 C _ _ ⟨[(0, .ptr 0 0), (1, .int .i64 w), (4, .ptr 1 0), (5, .ptr 2 0), (7, .ptr 3 0)], ⟨[rP s (y + 1), dZ, pZ, pB y .nil], []⟩⟩
    rw [← hx0] at eq ⊢
    have hx02 : x0 ≤ s.size := by omega
    refine Q.runSeq (SPd false true n ih [] []) 100 121 hnt [0, 1, 4, 5, 7, 9] (z := { t := [(0, PV.ptr 0 0), (1, PV.int IntKind.i64 w), (4, PV.ptr 1 0), (5, PV.ptr 2 0), (7, PV.ptr 3 0), (9, PV.nil)], h := { bx := [{ cs := [PV.str s, PV.int IntKind.i64 (Int.ofNat x0)], ty := 87 }, { cs := [PV.int IntKind.i64 (0 : Int), PV.int IntKind.i64 (0 : Int), PV.str { data := #[] }, PV.nil], ty := 25 }, { cs := [PV.int IntKind.i64 (0 : Int), PV.nil], ty := 64 }, { cs := [PV.int IntKind.i64 (Int.ofNat y), PV.nil], ty := 64 }], rw := [] } }) (o := []) (by kernel_rfl) (by ((repeat' (first | exact okO_nil | refine okN ?_ ?_)); all_goals first | assumption | rfl | exact same_of rfl | exact sameS_self _ | (simp only [decide_eq_true_eq, decide_eq_false_iff_not, Nat.ble_eq, Nat.beq_eq, beq_eq_false_iff_ne, beq_iff_eq, ne_eq] <;> omega))) ?_
    refine SWP.adoptS 9 25 4 rfl ?_
    refine SWP.adoptB 3 1 64 2 rfl rfl ?_
    refine SWP.norm [0, 1, 4, 5, 7, 9] ?_
    have hst := rdD_steps s n
    refine Q.seq fun K hK => ?_
    refine Q.block ?_
    let T (x : Nat) (l : Nds) : AS := ⟨[(0, .ptr 0 0), (1, .int .i64 w), (4, .ptr 1 0), (5, .ptr 2 0), (7, .ptr 3 0), (9, .own 0 l.len)], ⟨[rP s x, dZ, pZ, pB y (.own 1 l.len)], [some (jR l.dat.cells l.len), some (pR l.pl l.len)]⟩⟩
    refine Q.loopH (σ := { x : Nat × Nds × Nat // x.1 ≤ s.size ∧ s.size + 1 - x.1 ≤ x.2.2 ∧ x.2.1.len + x.2.2 ≤ s.size + 1 ∧ rdL (rdD s n) s x.2.2 ⟨skp s x.1, 0, 0⟩ x.2.1 = rdL (rdD s n) s (s.size + 1) ⟨skp s x0, 0, 0⟩ .nil }) [0, 1, 4, 5, 7, 9] 4 (by rw [hnb]; exact Nat.le_of_ble_eq_true rfl) (fun x => T x.1.1 x.1.2.1) (fun x => x.1.2.2) ⟨(x0, .nil, s.size + 1), hx02, Nat.sub_le _ _, by simp [Nds.len], rfl⟩ (fun x => ⟨rfl, rfl, rfl⟩) ⟨[], rfl⟩ fun ⟨(x, l, k), hx, hk, hlen, hrd⟩ => ?_
    have hx : x ≤ s.size := hx
    have hk : s.size + 1 - x ≤ k := hk
    have hlen : l.len + k ≤ s.size + 1 := hlen
    have hrd : rdL (rdD s n) s k ⟨skp s x, 0, 0⟩ l = rdL (rdD s n) s (s.size + 1) ⟨skp s x0, 0, 0⟩ .nil := hrd
    rw [← hrd] at eq
    show SWP G0 C _ _ ⟨[(0, .ptr 0 0), (1, .int .i64 w), (4, .ptr 1 0), (5, .ptr 2 0), (7, .ptr 3 0), (9, .own 0 l.len)], ⟨[rP s x, dZ, pZ, pB y (.own 1 l.len)], [some (jR l.dat.cells l.len), some (pR l.pl l.len)]⟩⟩
    obtain ⟨m, hm⟩ : ∃ m, m = l.len := ⟨_, rfl⟩
    obtain ⟨rc, hrc⟩ : ∃ rc, rc = l.dat.cells := ⟨_, rfl⟩
    obtain ⟨pc, hpc⟩ : ∃ rc, rc = l.pl := ⟨_, rfl⟩
    refine swp_st (st' := ⟨[(0, .ptr 0 0), (1, .int .i64 w), (4, .ptr 1 0), (5, .ptr 2 0), (7, .ptr 3 0), (9, .own 0 m)], ⟨[rP s x, dZ, pZ, pB y (.own 1 m)], [some (jR rc m), some (pR pc m)]⟩⟩) (by rw [hm, hrc, hpc]) ?_
    rw [← hm] at hlen
    have dx : decide (0 ≤ (x : Int) ∧ (x : Int) ≤ (s.size : Int)) = true := by rw [decide_eq_true_eq]; omega
    obtain ⟨k, rfl⟩ : ∃ j, k = j + 1 := ⟨k - 1, by omega⟩
    have hz2 := skp_le s x hx
    have hzz := skp_skp s x
    have hge := skp_ge s x
    refine Q.seq fun K2 hK2 => ?_
    obtain ⟨z, hz⟩ : ∃ z, z = skp s x := ⟨_, rfl⟩
    have hnz : nxt s x = if z < s.size then bt s (z : Int) else 0 := by rw [nxt, hz]
    have g0 := goes_at0 s z
    rw [← hz] at hz2 hzz hge eq hrd
    by_cases hgo : goes s ⟨z, 0, 0⟩ = true
    · have h41 : (!nxt s x == (41 : Int)) = true := by
        rw [hgo] at g0
        rw [hnz]
        rcases Nat.lt_or_ge z s.size with h | h
        · rw [if_pos h]
          rw [decide_eq_true h, Bool.true_and] at g0
          exact g0.symm
        · rw [if_neg (by omega)]; rfl
      have h41 : (!(if skp s (Int.toNat (x : Int)) < ByteArray.size s then bt s (Int.ofNat (skp s (Int.toNat (Int.ofNat x)))) else (0 : Int)) == (41 : Int)) = true := h41
      refine SWP.runQ (SPd false true n ih [(121, [(56, true)])] []) 100 121 hnt [0, 1, 4, 5, 7, 9] (e := .normal) (z := { t := [(0, PV.ptr 0 0), (1, PV.int IntKind.i64 w), (4, PV.ptr 1 0), (5, PV.ptr 2 0), (7, PV.ptr 3 0), (9, PV.own 0 m)], h := { bx := [{ cs := [PV.str s, PV.int IntKind.i64 (Int.ofNat (skp s (Int.toNat (Int.ofNat x))))], ty := 87 }, { cs := [PV.int IntKind.i64 (0 : Int), PV.int IntKind.i64 (0 : Int), PV.str { data := #[] }, PV.nil], ty := 25 }, { cs := [PV.int IntKind.i64 (0 : Int), PV.nil], ty := 64 }, { cs := [PV.int IntKind.i64 (Int.ofNat y), PV.own 1 m], ty := 64 }], rw := [some { cs := rc, n := m, ty := 25, sz := 4 }, some { cs := pc, n := m, ty := 64, sz := 2 }] } }) (o := [(decide (0 ≤ (↑x : Int) ∧ (↑x : Int) ≤ (↑(ByteArray.size s) : Int)), true), (Nat.ble (ByteArray.size s) 1099511627776, true), (!(if skp s (Int.toNat (↑x : Int)) < ByteArray.size s then bt s (Int.ofNat (skp s (Int.toNat (Int.ofNat x)))) else (0 : Int)) == (41 : Int), true), (true, true)]) (by kernel_rfl) (by ((repeat' (first | exact okO_nil | refine okN ?_ ?_)); all_goals first | assumption | rfl | exact same_of rfl | exact sameS_self _ | (simp only [decide_eq_true_eq, decide_eq_false_iff_not, Nat.ble_eq, Nat.beq_eq, beq_eq_false_iff_ne, beq_iff_eq, ne_eq] <;> omega))) (fun st hst' => hK2 st (.norm [0, 1, 4, 5, 7, 9] ?_))
      rw [hst']
      refine swp_st (st' := ⟨[(0, .ptr 0 0), (1, .int .i64 w), (4, .ptr 1 0), (5, .ptr 2 0), (7, .ptr 3 0), (9, .own 0 m)], ⟨[rP s z, dZ, pZ, pB y (.own 1 m)], [some (jR rc m), some (pR pc m)]⟩⟩) (by rw [hz]; rfl) ?_
      clear hst' hK2
      refine Q.block ?_
      have hqx : qX s n z = rdX s n z := by unfold qX; rw [hzz]
      have hqa : qA s n z = rdA s n z := by unfold qA; rw [hzz]
      have hqe : qE s n z = rdE s n z := by unfold qE; rw [hzz]
      have hqf : qF s n z = rdF s n z := by unfold qF; rw [hzz]
      have dz : decide (0 ≤ (z : Int) ∧ (z : Int) ≤ (s.size : Int)) = true := by rw [decide_eq_true_eq]; omega
      by_cases he : rdE s n z = 0
      · have de : decide (qE s n (Int.toNat (z : Int)) = 0) = true := by rw [Int.toNat_natCast, hqe]; exact decide_eq_true he
        refine Q.runSeq (SPd false true n ih [] []) 100 121 hnt [0, 1, 4, 5, 7, 9, 10, 11] (z := ⟨[(0, .ptr 0 0), (1, .int .i64 w), (4, .ptr 1 0), (5, .ptr 2 0), (7, .ptr 3 0), (9, .own 0 m), (10, .ptr 4 0), (11, .ptr 5 0)], ⟨[rP s (qA s n z), dZ, pZ, pB y (.own 1 m), ⟨ndJ (qX s n z), 25⟩, ⟨ndP (qX s n z), 64⟩], [some (jR rc m), some (pR pc m)]⟩⟩) (o := [(decide (0 ≤ (↑z : Int) ∧ (↑z : Int) ≤ (↑(ByteArray.size s) : Int)), true), (decide (IntKind.wrap IntKind.i64 (w + 1) = 1000 - (↑n : Int)), true), (decide (qE s n (Int.toNat (↑z : Int)) = 0), true), (Nat.ble (ByteArray.size s) 1099511627776, true)]) (by kernel_rfl) (by ((repeat' (first | exact okO_nil | refine okN ?_ ?_)); all_goals first | assumption | rfl | exact same_of rfl | exact sameS_self _ | (simp only [decide_eq_true_eq, decide_eq_false_iff_not, Nat.ble_eq, Nat.beq_eq, beq_eq_false_iff_ne, beq_iff_eq, ne_eq] <;> omega))) ?_
        obtain ⟨X, hX⟩ : ∃ X, X = qX s n z := ⟨_, rfl⟩
        obtain ⟨p, hp'⟩ : ∃ X, X = qA s n z := ⟨_, rfl⟩
        obtain ⟨xp, hxp⟩ : ∃ z, z = (ndS X).pl := ⟨_, rfl⟩
        refine swp_st (st' := ⟨[(0, .ptr 0 0), (1, .int .i64 w), (4, .ptr 1 0), (5, .ptr 2 0), (7, .ptr 3 0), (9, .own 0 m), (10, .ptr 4 0), (11, .ptr 5 0)], ⟨[rP s p, dZ, pZ, pB y (.own 1 m), ⟨ndJ X, 25⟩, ⟨[.int .i64 (ndA X), .slice (Nds.len (ndS X)) xp], 64⟩], [some (jR rc m), some (pR pc m)]⟩⟩) (by rw [hxp, hX, hp']; rfl) ?_
        rw [hqx] at hX
        rw [hqa] at hp'
        have hs2 := hst z hz2
        have g1 : (rdD s n z).2 = ⟨rdA s n z, rdE s n z, rdF s n z⟩ := rfl
        have g2 : (rdD s n z).1 = rdX s n z := rfl
        rw [g1] at hs2
        have hin := hs2.1.ok he
        have hadv := hs2.2 he
        have hin1 : rdA s n z ≤ s.size := hin.1
        have hb0 : rdF s n z = 0 := hin.2
        have hadv : z < rdA s n z := hadv
        rw [rdL, if_pos hgo, g1, g2, he, hb0, ← hX, ← hp'] at hrd
        rw [← hp'] at hin1 hadv
        have g3 : m + 1 = (l.snoc X).len := by rw [Nds.snoc_len, hm]
        have g4 : rc ++ ndJ X = (l.snoc X).dat.cells := by rw [Nds.snoc_dc, hrc, ndJ_eq]
        have g5 : pc ++ ndP X = (l.snoc X).pl := by rw [Nds.snoc_pl, hpc, ndP_eq]
        have m1 : Nat.ble ((m + 1) * 4) 140737488355328 = true := by rw [Nat.ble_eq]; omega
        have m2 : Nat.ble ((m + 1) * 2) 140737488355328 = true := by rw [Nat.ble_eq]; omega
        have g5' : pc ++ [.int .i64 (ndA X), .slice (Nds.len (ndS X)) xp] = (l.snoc X).pl := by rw [hxp]; exact g5
        refine SWP.runLQ (SPd false true n ih [(121, [(67, true), (72, true)])] []) 100 121 hnt [0, 1, 4, 5, 7, 9] (l := List.replicate 71 { t := [(0, PV.ptr 0 0), (1, PV.int IntKind.i64 w), (4, PV.ptr 1 0), (5, PV.ptr 2 0), (7, PV.ptr 3 0), (9, PV.own 0 (m + 1))], h := { bx := [{ cs := [PV.str s, PV.int IntKind.i64 (Int.ofNat p)], ty := 87 }, { cs := [PV.int IntKind.i64 (0 : Int), PV.int IntKind.i64 (0 : Int), PV.str { data := #[] }, PV.nil], ty := 25 }, { cs := [PV.int IntKind.i64 (0 : Int), PV.nil], ty := 64 }, { cs := [PV.int IntKind.i64 (Int.ofNat y), PV.own 1 (m + 1)], ty := 64 }, { cs := [PV.int IntKind.i64 (ndK X), PV.int IntKind.i64 (ndN X), PV.str (ndT X), PV.slice (Dats.len (Nds.dat (ndS X))) (Dats.cells (Nds.dat (ndS X)))], ty := 25 }, { cs := [PV.int IntKind.i64 (ndA X), PV.slice (Nds.len (ndS X)) xp], ty := 64 }], rw := [some { cs := rc ++ [PV.int IntKind.i64 (ndK X), PV.int IntKind.i64 (ndN X), PV.str (ndT X), PV.slice (Dats.len (Nds.dat (ndS X))) (Dats.cells (Nds.dat (ndS X)))], n := m + 1, ty := 25, sz := 4 }, some { cs := pc ++ [PV.int IntKind.i64 (ndA X), PV.slice (Nds.len (ndS X)) xp], n := m + 1, ty := 64, sz := 2 }] } }) (o := [(true, true), (Nat.ble ((m + 1) * 56) 140737488355328, true), (Nat.ble (m + 1) 9223372036854775807, true), (true, true), (Nat.ble ((m + 1) * 32) 140737488355328, true), (Nat.ble (m + 1) 9223372036854775807, true), (true, true), (Nat.ble ((m + 1) * 56) 140737488355328, true), (Nat.ble (m + 1) 9223372036854775807, true), (true, true), (Nat.ble ((m + 1) * 32) 140737488355328, true), (Nat.ble (m + 1) 9223372036854775807, true), (true, true), (Nat.ble ((m + 1) * 56) 140737488355328, true), (Nat.ble (m + 1) 9223372036854775807, true), (true, true), (Nat.ble ((m + 1) * 32) 140737488355328, true), (Nat.ble (m + 1) 9223372036854775807, true), (true, true), (Nat.ble ((m + 1) * 56) 140737488355328, true), (Nat.ble (m + 1) 9223372036854775807, true), (true, true), (Nat.ble ((m + 1) * 32) 140737488355328, true), (Nat.ble (m + 1) 9223372036854775807, true), (true, true), (Nat.ble ((m + 1) * 56) 140737488355328, true), (Nat.ble (m + 1) 9223372036854775807, true), (true, true), (Nat.ble ((m + 1) * 32) 140737488355328, true), (Nat.ble (m + 1) 9223372036854775807, true), (true, true), (Nat.ble ((m + 1) * 56) 140737488355328, true), (Nat.ble (m + 1) 9223372036854775807, true), (true, true), (Nat.ble ((m + 1) * 32) 140737488355328, true), (Nat.ble (m + 1) 9223372036854775807, true), (true, true), (Nat.ble ((m + 1) * 56) 140737488355328, true), (Nat.ble (m + 1) 9223372036854775807, true), (true, true), (Nat.ble ((m + 1) * 32) 140737488355328, true), (Nat.ble (m + 1) 9223372036854775807, true), (true, true), (Nat.ble ((m + 1) * 56) 140737488355328, true), (Nat.ble (m + 1) 9223372036854775807, true), (true, true), (Nat.ble ((m + 1) * 32) 140737488355328, true), (Nat.ble (m + 1) 9223372036854775807, true), (true, true), (Nat.ble ((m + 1) * 56) 140737488355328, true), (Nat.ble (m + 1) 9223372036854775807, true), (true, true), (Nat.ble ((m + 1) * 32) 140737488355328, true), (Nat.ble (m + 1) 9223372036854775807, true), (true, true), (Nat.ble ((m + 1) * 56) 140737488355328, true), (Nat.ble (m + 1) 9223372036854775807, true), (true, true), (Nat.ble ((m + 1) * 32) 140737488355328, true), (Nat.ble (m + 1) 9223372036854775807, true), (true, true), (Nat.ble ((m + 1) * 56) 140737488355328, true), (Nat.ble (m + 1) 9223372036854775807, true), (true, true), (Nat.ble ((m + 1) * 32) 140737488355328, true), (Nat.ble (m + 1) 9223372036854775807, true), (true, true), (Nat.ble ((m + 1) * 56) 140737488355328, true), (Nat.ble (m + 1) 9223372036854775807, true), (true, true), (Nat.ble ((m + 1) * 32) 140737488355328, true), (Nat.ble (m + 1) 9223372036854775807, true), (true, true), (Nat.ble ((m + 1) * 56) 140737488355328, true), (Nat.ble (m + 1) 9223372036854775807, true), (true, true), (Nat.ble ((m + 1) * 32) 140737488355328, true), (Nat.ble (m + 1) 9223372036854775807, true), (true, true), (Nat.ble ((m + 1) * 56) 140737488355328, true), (Nat.ble (m + 1) 9223372036854775807, true), (true, true), (Nat.ble ((m + 1) * 32) 140737488355328, true), (Nat.ble (m + 1) 9223372036854775807, true), (true, true), (Nat.ble ((m + 1) * 56) 140737488355328, true), (Nat.ble (m + 1) 9223372036854775807, true), (true, true), (Nat.ble ((m + 1) * 32) 140737488355328, true), (Nat.ble (m + 1) 9223372036854775807, true), (true, true), (Nat.ble ((m + 1) * 56) 140737488355328, true), (Nat.ble (m + 1) 9223372036854775807, true), (true, true), (Nat.ble ((m + 1) * 32) 140737488355328, true), (Nat.ble (m + 1) 9223372036854775807, true), (true, true), (Nat.ble ((m + 1) * 56) 140737488355328, true), (Nat.ble (m + 1) 9223372036854775807, true), (true, true), (Nat.ble ((m + 1) * 32) 140737488355328, true), (Nat.ble (m + 1) 9223372036854775807, true), (true, true), (Nat.ble ((m + 1) * 56) 140737488355328, true), (Nat.ble (m + 1) 9223372036854775807, true), (true, true), (Nat.ble ((m + 1) * 32) 140737488355328, true), (Nat.ble (m + 1) 9223372036854775807, true), (true, true), (Nat.ble ((m + 1) * 56) 140737488355328, true), (Nat.ble (m + 1) 9223372036854775807, true), (true, true), (Nat.ble ((m + 1) * 32) 140737488355328, true), (Nat.ble (m + 1) 9223372036854775807, true), (true, true), (Nat.ble ((m + 1) * 56) 140737488355328, true), (Nat.ble (m + 1) 9223372036854775807, true), (true, true), (Nat.ble ((m + 1) * 32) 140737488355328, true), (Nat.ble (m + 1) 9223372036854775807, true), (true, true), (Nat.ble ((m + 1) * 56) 140737488355328, true), (Nat.ble (m + 1) 9223372036854775807, true), (true, true), (Nat.ble ((m + 1) * 32) 140737488355328, true), (Nat.ble (m + 1) 9223372036854775807, true), (true, true), (Nat.ble ((m + 1) * 56) 140737488355328, true), (Nat.ble (m + 1) 9223372036854775807, true), (true, true), (Nat.ble ((m + 1) * 32) 140737488355328, true), (Nat.ble (m + 1) 9223372036854775807, true), (true, true), (Nat.ble ((m + 1) * 56) 140737488355328, true), (Nat.ble (m + 1) 9223372036854775807, true), (true, true), (Nat.ble ((m + 1) * 32) 140737488355328, true), (Nat.ble (m + 1) 9223372036854775807, true), (true, true), (Nat.ble ((m + 1) * 56) 140737488355328, true), (Nat.ble (m + 1) 9223372036854775807, true), (true, true), (Nat.ble ((m + 1) * 32) 140737488355328, true), (Nat.ble (m + 1) 9223372036854775807, true), (true, true), (Nat.ble ((m + 1) * 56) 140737488355328, true), (Nat.ble (m + 1) 9223372036854775807, true), (true, true), (Nat.ble ((m + 1) * 32) 140737488355328, true), (Nat.ble (m + 1) 9223372036854775807, true), (true, true), (Nat.ble ((m + 1) * 56) 140737488355328, true), (Nat.ble (m + 1) 9223372036854775807, true), (true, true), (Nat.ble ((m + 1) * 32) 140737488355328, true), (Nat.ble (m + 1) 9223372036854775807, true), (true, true), (Nat.ble ((m + 1) * 56) 140737488355328, true), (Nat.ble (m + 1) 9223372036854775807, true), (true, true), (Nat.ble ((m + 1) * 32) 140737488355328, true), (Nat.ble (m + 1) 9223372036854775807, true), (true, true), (Nat.ble ((m + 1) * 56) 140737488355328, true), (Nat.ble (m + 1) 9223372036854775807, true), (true, true), (Nat.ble ((m + 1) * 32) 140737488355328, true), (Nat.ble (m + 1) 9223372036854775807, true), (true, true), (Nat.ble ((m + 1) * 56) 140737488355328, true), (Nat.ble (m + 1) 9223372036854775807, true), (true, true), (Nat.ble ((m + 1) * 32) 140737488355328, true), (Nat.ble (m + 1) 9223372036854775807, true), (true, true), (Nat.ble ((m + 1) * 56) 140737488355328, true), (Nat.ble (m + 1) 9223372036854775807, true), (true, true), (Nat.ble ((m + 1) * 32) 140737488355328, true), (Nat.ble (m + 1) 9223372036854775807, true), (true, true), (Nat.ble ((m + 1) * 56) 140737488355328, true), (Nat.ble (m + 1) 9223372036854775807, true), (true, true), (Nat.ble ((m + 1) * 32) 140737488355328, true), (Nat.ble (m + 1) 9223372036854775807, true), (true, true), (Nat.ble ((m + 1) * 56) 140737488355328, true), (Nat.ble (m + 1) 9223372036854775807, true), (true, true), (Nat.ble ((m + 1) * 32) 140737488355328, true), (Nat.ble (m + 1) 9223372036854775807, true), (true, true), (Nat.ble ((m + 1) * 56) 140737488355328, true), (Nat.ble (m + 1) 9223372036854775807, true), (true, true), (Nat.ble ((m + 1) * 32) 140737488355328, true), (Nat.ble (m + 1) 9223372036854775807, true), (true, true), (Nat.ble ((m + 1) * 56) 140737488355328, true), (Nat.ble (m + 1) 9223372036854775807, true), (true, true), (Nat.ble ((m + 1) * 32) 140737488355328, true), (Nat.ble (m + 1) 9223372036854775807, true), (true, true), (Nat.ble ((m + 1) * 56) 140737488355328, true), (Nat.ble (m + 1) 9223372036854775807, true), (true, true), (Nat.ble ((m + 1) * 32) 140737488355328, true), (Nat.ble (m + 1) 9223372036854775807, true), (true, true), (Nat.ble ((m + 1) * 56) 140737488355328, true), (Nat.ble (m + 1) 9223372036854775807, true), (true, true), (Nat.ble ((m + 1) * 32) 140737488355328, true), (Nat.ble (m + 1) 9223372036854775807, true), (true, true), (Nat.ble ((m + 1) * 56) 140737488355328, true), (Nat.ble (m + 1) 9223372036854775807, true), (true, true), (Nat.ble ((m + 1) * 32) 140737488355328, true), (Nat.ble (m + 1) 9223372036854775807, true), (true, true), (Nat.ble ((m + 1) * 56) 140737488355328, true), (Nat.ble (m + 1) 9223372036854775807, true), (true, true), (Nat.ble ((m + 1) * 32) 140737488355328, true), (Nat.ble (m + 1) 9223372036854775807, true), (true, true), (Nat.ble ((m + 1) * 56) 140737488355328, true), (Nat.ble (m + 1) 9223372036854775807, true), (true, true), (Nat.ble ((m + 1) * 32) 140737488355328, true), (Nat.ble (m + 1) 9223372036854775807, true), (true, true), (Nat.ble ((m + 1) * 56) 140737488355328, true), (Nat.ble (m + 1) 9223372036854775807, true), (true, true), (Nat.ble ((m + 1) * 32) 140737488355328, true), (Nat.ble (m + 1) 9223372036854775807, true), (true, true), (Nat.ble ((m + 1) * 56) 140737488355328, true), (Nat.ble (m + 1) 9223372036854775807, true), (true, true), (Nat.ble ((m + 1) * 32) 140737488355328, true), (Nat.ble (m + 1) 9223372036854775807, true), (true, true), (Nat.ble ((m + 1) * 56) 140737488355328, true), (Nat.ble (m + 1) 9223372036854775807, true), (true, true), (Nat.ble ((m + 1) * 32) 140737488355328, true), (Nat.ble (m + 1) 9223372036854775807, true), (true, true), (Nat.ble ((m + 1) * 56) 140737488355328, true), (Nat.ble (m + 1) 9223372036854775807, true), (true, true), (Nat.ble ((m + 1) * 32) 140737488355328, true), (Nat.ble (m + 1) 9223372036854775807, true), (true, true), (Nat.ble ((m + 1) * 56) 140737488355328, true), (Nat.ble (m + 1) 9223372036854775807, true), (true, true), (Nat.ble ((m + 1) * 32) 140737488355328, true), (Nat.ble (m + 1) 9223372036854775807, true), (true, true), (Nat.ble ((m + 1) * 56) 140737488355328, true), (Nat.ble (m + 1) 9223372036854775807, true), (true, true), (Nat.ble ((m + 1) * 32) 140737488355328, true), (Nat.ble (m + 1) 9223372036854775807, true), (true, true), (Nat.ble ((m + 1) * 56) 140737488355328, true), (Nat.ble (m + 1) 9223372036854775807, true), (true, true), (Nat.ble ((m + 1) * 32) 140737488355328, true), (Nat.ble (m + 1) 9223372036854775807, true), (true, true), (Nat.ble ((m + 1) * 56) 140737488355328, true), (Nat.ble (m + 1) 9223372036854775807, true), (true, true), (Nat.ble ((m + 1) * 32) 140737488355328, true), (Nat.ble (m + 1) 9223372036854775807, true), (true, true), (Nat.ble ((m + 1) * 56) 140737488355328, true), (Nat.ble (m + 1) 9223372036854775807, true), (true, true), (Nat.ble ((m + 1) * 32) 140737488355328, true), (Nat.ble (m + 1) 9223372036854775807, true), (true, true), (Nat.ble ((m + 1) * 56) 140737488355328, true), (Nat.ble (m + 1) 9223372036854775807, true), (true, true), (Nat.ble ((m + 1) * 32) 140737488355328, true), (Nat.ble (m + 1) 9223372036854775807, true), (true, true), (Nat.ble ((m + 1) * 56) 140737488355328, true), (Nat.ble (m + 1) 9223372036854775807, true), (true, true), (Nat.ble ((m + 1) * 32) 140737488355328, true), (Nat.ble (m + 1) 9223372036854775807, true), (true, true), (Nat.ble ((m + 1) * 56) 140737488355328, true), (Nat.ble (m + 1) 9223372036854775807, true), (true, true), (Nat.ble ((m + 1) * 32) 140737488355328, true), (Nat.ble (m + 1) 9223372036854775807, true), (true, true), (Nat.ble ((m + 1) * 56) 140737488355328, true), (Nat.ble (m + 1) 9223372036854775807, true), (true, true), (Nat.ble ((m + 1) * 32) 140737488355328, true), (Nat.ble (m + 1) 9223372036854775807, true), (true, true), (Nat.ble ((m + 1) * 56) 140737488355328, true), (Nat.ble (m + 1) 9223372036854775807, true), (true, true), (Nat.ble ((m + 1) * 32) 140737488355328, true), (Nat.ble (m + 1) 9223372036854775807, true), (true, true), (Nat.ble ((m + 1) * 56) 140737488355328, true), (Nat.ble (m + 1) 9223372036854775807, true), (true, true), (Nat.ble ((m + 1) * 32) 140737488355328, true), (Nat.ble (m + 1) 9223372036854775807, true), (true, true), (Nat.ble ((m + 1) * 56) 140737488355328, true), (Nat.ble (m + 1) 9223372036854775807, true), (true, true), (Nat.ble ((m + 1) * 32) 140737488355328, true), (Nat.ble (m + 1) 9223372036854775807, true), (true, true), (Nat.ble ((m + 1) * 56) 140737488355328, true), (Nat.ble (m + 1) 9223372036854775807, true), (true, true), (Nat.ble ((m + 1) * 32) 140737488355328, true), (Nat.ble (m + 1) 9223372036854775807, true), (true, true), (Nat.ble ((m + 1) * 56) 140737488355328, true), (Nat.ble (m + 1) 9223372036854775807, true), (true, true), (Nat.ble ((m + 1) * 32) 140737488355328, true), (Nat.ble (m + 1) 9223372036854775807, true), (true, true), (Nat.ble ((m + 1) * 56) 140737488355328, true), (Nat.ble (m + 1) 9223372036854775807, true), (true, true), (Nat.ble ((m + 1) * 32) 140737488355328, true), (Nat.ble (m + 1) 9223372036854775807, true), (true, true), (Nat.ble ((m + 1) * 56) 140737488355328, true), (Nat.ble (m + 1) 9223372036854775807, true), (true, true), (Nat.ble ((m + 1) * 32) 140737488355328, true), (Nat.ble (m + 1) 9223372036854775807, true), (true, true), (Nat.ble ((m + 1) * 56) 140737488355328, true), (Nat.ble (m + 1) 9223372036854775807, true), (true, true), (Nat.ble ((m + 1) * 32) 140737488355328, true), (Nat.ble (m + 1) 9223372036854775807, true), (true, true), (Nat.ble ((m + 1) * 56) 140737488355328, true), (Nat.ble (m + 1) 9223372036854775807, true), (true, true), (Nat.ble ((m + 1) * 32) 140737488355328, true), (Nat.ble (m + 1) 9223372036854775807, true), (true, true), (Nat.ble ((m + 1) * 56) 140737488355328, true), (Nat.ble (m + 1) 9223372036854775807, true), (true, true), (Nat.ble ((m + 1) * 32) 140737488355328, true), (Nat.ble (m + 1) 9223372036854775807, true), (true, true), (Nat.ble ((m + 1) * 56) 140737488355328, true), (Nat.ble (m + 1) 9223372036854775807, true), (true, true), (Nat.ble ((m + 1) * 32) 140737488355328, true), (Nat.ble (m + 1) 9223372036854775807, true), (true, true), (Nat.ble ((m + 1) * 56) 140737488355328, true), (Nat.ble (m + 1) 9223372036854775807, true), (true, true), (Nat.ble ((m + 1) * 32) 140737488355328, true), (Nat.ble (m + 1) 9223372036854775807, true), (true, true), (Nat.ble ((m + 1) * 56) 140737488355328, true), (Nat.ble (m + 1) 9223372036854775807, true), (true, true), (Nat.ble ((m + 1) * 32) 140737488355328, true), (Nat.ble (m + 1) 9223372036854775807, true), (true, true), (Nat.ble ((m + 1) * 56) 140737488355328, true), (Nat.ble (m + 1) 9223372036854775807, true), (true, true), (Nat.ble ((m + 1) * 32) 140737488355328, true), (Nat.ble (m + 1) 9223372036854775807, true), (true, true), (Nat.ble ((m + 1) * 56) 140737488355328, true), (Nat.ble (m + 1) 9223372036854775807, true), (true, true), (Nat.ble ((m + 1) * 32) 140737488355328, true), (Nat.ble (m + 1) 9223372036854775807, true), (true, true), (Nat.ble ((m + 1) * 56) 140737488355328, true), (Nat.ble (m + 1) 9223372036854775807, true), (true, true), (Nat.ble ((m + 1) * 32) 140737488355328, true), (Nat.ble (m + 1) 9223372036854775807, true), (true, true), (Nat.ble ((m + 1) * 56) 140737488355328, true), (Nat.ble (m + 1) 9223372036854775807, true), (true, true), (Nat.ble ((m + 1) * 32) 140737488355328, true), (Nat.ble (m + 1) 9223372036854775807, true), (true, true), (Nat.ble ((m + 1) * 56) 140737488355328, true), (Nat.ble (m + 1) 9223372036854775807, true), (true, true), (Nat.ble ((m + 1) * 32) 140737488355328, true), (Nat.ble (m + 1) 9223372036854775807, true), (true, true), (Nat.ble ((m + 1) * 56) 140737488355328, true), (Nat.ble (m + 1) 9223372036854775807, true), (true, true), (Nat.ble ((m + 1) * 32) 140737488355328, true), (Nat.ble (m + 1) 9223372036854775807, true)]) (by kernel_rfl) (by ((repeat' (first | exact okO_nil | refine okN ?_ ?_)); all_goals first | assumption | rfl | exact same_of rfl | exact sameS_self _ | (simp only [decide_eq_true_eq, decide_eq_false_iff_not, Nat.ble_eq, Nat.beq_eq, beq_eq_false_iff_ne, beq_iff_eq, ne_eq] <;> omega))) (fun st hst => ⟨⟨(p, l.snoc X, k), hin1, by show s.size + 1 - p ≤ k; omega, by show (l.snoc X).len + k ≤ _; rw [← g3]; omega, hrd⟩, Nat.lt_succ_self k, [⟨ndJ X, 25⟩, ⟨[.int .i64 (ndA X), .slice (Nds.len (ndS X)) xp], 64⟩], ?_⟩)
        rw [List.eq_of_mem_replicate hst]
        have e2 : (⟨[(0, .ptr 0 0), (1, .int .i64 w), (4, .ptr 1 0), (5, .ptr 2 0), (7, .ptr 3 0), (9, .own 0 (m + 1))], ⟨[rP s p, dZ, pZ, pB y (.own 1 (m + 1)), ⟨ndJ X, 25⟩, ⟨[.int .i64 (ndA X), .slice (Nds.len (ndS X)) xp], 64⟩], [some (jR (rc ++ ndJ X) (m + 1)), some (pR (pc ++ [.int .i64 (ndA X), .slice (Nds.len (ndS X)) xp]) (m + 1))]⟩⟩ : AS) = ⟨[(0, .ptr 0 0), (1, .int .i64 w), (4, .ptr 1 0), (5, .ptr 2 0), (7, .ptr 3 0), (9, .own 0 ((l.snoc X).len))], ⟨[rP s p, dZ, pZ, pB y (.own 1 ((l.snoc X).len)), ⟨ndJ X, 25⟩, ⟨[.int .i64 (ndA X), .slice (Nds.len (ndS X)) xp], 64⟩], [some (jR ((l.snoc X).dat.cells) ((l.snoc X).len)), some (pR ((l.snoc X).pl) ((l.snoc X).len))]⟩⟩ := by rw [g3, g4, g5']
        exact Eq.trans (b := (⟨[(0, .ptr 0 0), (1, .int .i64 w), (4, .ptr 1 0), (5, .ptr 2 0), (7, .ptr 3 0), (9, .own 0 (m + 1))], ⟨[rP s p, dZ, pZ, pB y (.own 1 (m + 1)), ⟨ndJ X, 25⟩, ⟨[.int .i64 (ndA X), .slice (Nds.len (ndS X)) xp], 64⟩], [some (jR (rc ++ ndJ X) (m + 1)), some (pR (pc ++ [.int .i64 (ndA X), .slice (Nds.len (ndS X)) xp]) (m + 1))]⟩⟩ : AS)) rfl (e2.trans rfl)
      · have de : decide (qE s n (Int.toNat (z : Int)) = 0) = false := by rw [Int.toNat_natCast, hqe]; exact decide_eq_false he
        refine Q.seq fun K3 hK3 => ?_
        obtain ⟨k1, k2⟩ := rdL_err (k := k) (l := l) hgo he
        exact SWP.runQ (SPd true true n ih [] []) 100 121 hnt [] (e := .panic (faultV (qF s n z) (qE s n z))) (z := { t := [], h := { bx := [{ cs := [PV.str s, PV.int IntKind.i64 (rdF s n (skp s (Int.toNat (Int.ofNat z))))], ty := 87 }, { cs := [PV.int IntKind.i64 (0 : Int), PV.int IntKind.i64 (0 : Int), PV.str { data := #[] }, PV.nil], ty := 25 }, { cs := [PV.int IntKind.i64 (0 : Int), PV.nil], ty := 64 }, { cs := [PV.int IntKind.i64 (Int.ofNat y), PV.own 1 m], ty := 64 }], rw := [some { cs := rc, n := m, ty := 25, sz := 4 }, some { cs := pc, n := m, ty := 64, sz := 2 }] } }) (o := [(decide (0 ≤ (↑z : Int) ∧ (↑z : Int) ≤ (↑(ByteArray.size s) : Int)), true), (decide (IntKind.wrap IntKind.i64 (w + 1) = 1000 - (↑n : Int)), true), (decide (qE s n (Int.toNat (↑z : Int)) = 0), false), (Nat.ble (ByteArray.size s) 1099511627776, true)]) (by kernel_rfl) (by ((repeat' (first | exact okO_nil | refine okN ?_ ?_)); all_goals first | assumption | rfl | exact same_of rfl | exact sameS_self _ | (simp only [decide_eq_true_eq, decide_eq_false_iff_not, Nat.ble_eq, Nat.beq_eq, beq_eq_false_iff_ne, beq_iff_eq, ne_eq] <;> omega))) (fun st hst => pan st (qF s n z) (qE s n z) _ _ (congrArg AS.h hst) (by rw [hqe]; exact he) (by unfold rdE; rw [eq, hqe]; exact k1) (by unfold rdF; rw [eq, hqf]; exact k2))
    · have hgf : goes s ⟨z, 0, 0⟩ = false := by simpa using hgo
      rw [hgf] at g0
      have g0' : decide (z < s.size) = true ∧ (bt s (z : Int) == 41) = true := by
        rw [← Bool.and_eq_true]
        simpa using g0.symm
      have hzl : z < s.size := of_decide_eq_true g0'.1
      have h41 : (!nxt s x == (41 : Int)) = false := by rw [hnz, if_pos hzl, g0'.2]; rfl
      have h41 : (!(if skp s (Int.toNat (x : Int)) < ByteArray.size s then bt s (Int.ofNat (skp s (Int.toNat (Int.ofNat x)))) else (0 : Int)) == (41 : Int)) = false := h41
      refine SWP.runQ (SPd false true n ih [(121, [(56, false)])] []) 100 121 hnt [0, 1, 4, 5, 7, 9] (e := .exit 1) (z := { t := [(0, PV.ptr 0 0), (1, PV.int IntKind.i64 w), (4, PV.ptr 1 0), (5, PV.ptr 2 0), (7, PV.ptr 3 0), (9, PV.own 0 m)], h := { bx := [{ cs := [PV.str s, PV.int IntKind.i64 (Int.ofNat (skp s (Int.toNat (Int.ofNat x))))], ty := 87 }, { cs := [PV.int IntKind.i64 (0 : Int), PV.int IntKind.i64 (0 : Int), PV.str { data := #[] }, PV.nil], ty := 25 }, { cs := [PV.int IntKind.i64 (0 : Int), PV.nil], ty := 64 }, { cs := [PV.int IntKind.i64 (Int.ofNat y), PV.own 1 m], ty := 64 }], rw := [some { cs := rc, n := m, ty := 25, sz := 4 }, some { cs := pc, n := m, ty := 64, sz := 2 }] } }) (o := [(decide (0 ≤ (↑x : Int) ∧ (↑x : Int) ≤ (↑(ByteArray.size s) : Int)), true), (Nat.ble (ByteArray.size s) 1099511627776, true), (!(if skp s (Int.toNat (↑x : Int)) < ByteArray.size s then bt s (Int.ofNat (skp s (Int.toNat (Int.ofNat x)))) else (0 : Int)) == (41 : Int), false), (false, false)]) (by kernel_rfl) (by ((repeat' (first | exact okO_nil | refine okN ?_ ?_)); all_goals first | assumption | rfl | exact same_of rfl | exact sameS_self _ | (simp only [decide_eq_true_eq, decide_eq_false_iff_not, Nat.ble_eq, Nat.beq_eq, beq_eq_false_iff_ne, beq_iff_eq, ne_eq] <;> omega))) (fun st hst' => hK st (.norm [0, 1, 4, 5, 7, 9] ?_))
      rw [hst']
      show SWP G0 C _ _ ⟨[(0, .ptr 0 0), (1, .int .i64 w), (4, .ptr 1 0), (5, .ptr 2 0), (7, .ptr 3 0), (9, .own 0 m)], ⟨[rP s (skp s x), dZ, pZ, pB y (.own 1 m)], [some (jR rc m), some (pR pc m)]⟩⟩
      rw [← hz]
      clear hst' hK hK2
      rw [rdL_stop hgf] at eq
      clear hx hk dx hge hnz h41 hrd hz
      obtain ⟨x, hx⟩ : ∃ x, x = z := ⟨_, rfl⟩
      rw [← hx] at eq hzl ⊢
      have wx : IntKind.wrap IntKind.i64 (Int.ofNat (x + 1)) = ((x + 1 : Nat) : Int) := wrapI (x + 1) (by omega)
      refine SWP.frz [0, 1] ?_
      refine Q.runSeq (SPd false true n ih [] []) 100 121 hnt [4, 5, 7, 9] (z := { t := [(4, PV.ptr 1 0), (5, PV.ptr 2 0), (7, PV.ptr 3 0), (9, PV.slice m rc)], h := { bx := [{ cs := [PV.str s, PV.int IntKind.i64 (IntKind.wrap IntKind.i64 (Int.ofNat (x + 1)))], ty := 87 }, { cs := [PV.int IntKind.i64 (0 : Int), PV.int IntKind.i64 (0 : Int), PV.str { data := #[] }, PV.nil], ty := 25 }, { cs := [PV.int IntKind.i64 (0 : Int), PV.nil], ty := 64 }, { cs := [PV.int IntKind.i64 (Int.ofNat y), PV.slice m pc], ty := 64 }], rw := [none, none] } }) (o := []) (by kernel_rfl) (by ((repeat' (first | exact okO_nil | refine okN ?_ ?_)); all_goals first | assumption | rfl | exact same_of rfl | exact sameS_self _ | (simp only [decide_eq_true_eq, decide_eq_false_iff_not, Nat.ble_eq, Nat.beq_eq, beq_eq_false_iff_ne, beq_iff_eq, ne_eq] <;> omega))) ?_
      rw [wx]
      obtain ⟨x1, hx1⟩ : ∃ x1, x1 = x + 1 := ⟨_, rfl⟩
      show SWP G0 C _ _ ⟨[(4, .ptr 1 0), (5, .ptr 2 0), (7, .ptr 3 0), (9, .slice m rc)], ⟨[rP s (x + 1), dZ, pZ, pB y (.slice m pc)], [none, none]⟩⟩
      rw [← hx1]
      refine Q.seq fun K hK => ?_
      refine SWP.runLQ (SPd false true n ih [] []) 100 121 hnt [4, 5] (l := List.replicate 3 { t := [(4, PV.ptr 1 0), (5, PV.ptr 2 0)], h := { bx := [{ cs := [PV.str s, PV.int IntKind.i64 (Int.ofNat x1)], ty := 87 }, { cs := [PV.int IntKind.i64 (3 : Int), PV.int IntKind.i64 (0 : Int), PV.str { data := #[] }, PV.slice m rc], ty := 25 }, { cs := [PV.int IntKind.i64 (Int.ofNat y), PV.slice m pc], ty := 64 }, { cs := [PV.int IntKind.i64 (Int.ofNat y), PV.slice m pc], ty := 64 }], rw := [none, none] } }) (o := []) (by kernel_rfl) (by ((repeat' (first | exact okO_nil | refine okN ?_ ?_)); all_goals first | assumption | rfl | exact same_of rfl | exact sameS_self _ | (simp only [decide_eq_true_eq, decide_eq_false_iff_not, Nat.ble_eq, Nat.beq_eq, beq_eq_false_iff_ne, beq_iff_eq, ne_eq] <;> omega))) (fun st hst => hK st (.norm [4, 5] ?_))
      rw [List.eq_of_mem_replicate hst]
      exact .ret (fin _ _ _ x1 _ _ rfl rfl rfl rfl rfl ⟨.mk 3 0 ⟨#[]⟩ l y, by rw [eq, hx1], by
        rw [hm, hrc, ← Nds.dat_len]
        simp only [nzL, PV.nz, Dats.nz]
        rfl, by
        rw [hm, hpc]
        simp only [nzL, PV.nz, Nds.pl_nz]
        rfl⟩)
  · -- a quote
    have e46 := beqF h40
    have h39 : c = 39 := by
      by_cases h : c = 39
      · exact h
      · exact absurd ⟨h40, h, e40l⟩ hb
    have e86 := beqT h39
    refine Q.runSeq (SPd false true n ih [(121, [(46, false)])] []) 100 121 hnt [0, 1, 4, 5, 6, 7, 44] (z := { t := [(0, PV.ptr 0 0), (1, PV.int IntKind.i64 w), (4, PV.ptr 1 0), (5, PV.ptr 2 0), (6, PV.int IntKind.u8 c), (7, PV.ptr 3 0), (44, PV.bool false)], h := { bx := [{ cs := [PV.str s, PV.int IntKind.i64 (Int.ofNat y)], ty := 87 }, { cs := [PV.int IntKind.i64 (0 : Int), PV.int IntKind.i64 (0 : Int), PV.str { data := #[] }, PV.nil], ty := 25 }, { cs := [PV.int IntKind.i64 (0 : Int), PV.nil], ty := 64 }, { cs := [PV.int IntKind.i64 (Int.ofNat y), PV.nil], ty := 64 }], rw := [] } }) (o := [(c == (40 : Int), false)]) (by kernel_rfl) (by ((repeat' (first | exact okO_nil | refine okN ?_ ?_)); all_goals first | assumption | rfl | exact same_of rfl | exact sameS_self _ | (simp only [decide_eq_true_eq, decide_eq_false_iff_not, Nat.ble_eq, Nat.beq_eq, beq_eq_false_iff_ne, beq_iff_eq, ne_eq] <;> omega))) ?_
    refine Q.cond (b := false) rfl (fun h => by cases h) (fun _ => ?_)
    refine Q.runSeq (SPd false true n ih [(121, [(86, true)])] []) 100 121 hnt [0, 1, 4, 5, 6, 7, 84] (z := { t := [(0, PV.ptr 0 0), (1, PV.int IntKind.i64 w), (4, PV.ptr 1 0), (5, PV.ptr 2 0), (6, PV.int IntKind.u8 c), (7, PV.ptr 3 0), (84, PV.bool true)], h := { bx := [{ cs := [PV.str s, PV.int IntKind.i64 (Int.ofNat y)], ty := 87 }, { cs := [PV.int IntKind.i64 (0 : Int), PV.int IntKind.i64 (0 : Int), PV.str { data := #[] }, PV.nil], ty := 25 }, { cs := [PV.int IntKind.i64 (0 : Int), PV.nil], ty := 64 }, { cs := [PV.int IntKind.i64 (Int.ofNat y), PV.nil], ty := 64 }], rw := [] } }) (o := [(c == (39 : Int), true)]) (by kernel_rfl) (by ((repeat' (first | exact okO_nil | refine okN ?_ ?_)); all_goals first | assumption | rfl | exact same_of rfl | exact sameS_self _ | (simp only [decide_eq_true_eq, decide_eq_false_iff_not, Nat.ble_eq, Nat.beq_eq, beq_eq_false_iff_ne, beq_iff_eq, ne_eq] <;> omega))) ?_
    refine Q.cond (b := true) rfl (fun _ => ?_) (fun h => by cases h)
    by_cases hn0 : n = 0
    · have e89 : decide (1000 ≤ IntKind.wrap IntKind.i64 (w + 1)) = true := by rw [w2, decide_eq_true_eq]; omega
      rw [if_pos ⟨h39, hn0⟩] at eq
      refine Q.seq fun K hK => ?_
      exact SWP.runQ (SPd true true n ih [(121, [(89, true)])] []) 100 121 hnt [] (e := .panic (faultV y 3)) (z := { t := [], h := { bx := [{ cs := [PV.str s, PV.int IntKind.i64 (Int.ofNat y)], ty := 87 }, { cs := [PV.int IntKind.i64 (0 : Int), PV.int IntKind.i64 (0 : Int), PV.str { data := #[] }, PV.nil], ty := 25 }, { cs := [PV.int IntKind.i64 (0 : Int), PV.nil], ty := 64 }, { cs := [PV.int IntKind.i64 (Int.ofNat y), PV.nil], ty := 64 }], rw := [] } }) (o := [(decide (1000 ≤ IntKind.wrap IntKind.i64 (w + 1)), true), (true, true), (true, true)]) (by kernel_rfl) (by ((repeat' (first | exact okO_nil | refine okN ?_ ?_)); all_goals first | assumption | rfl | exact same_of rfl | exact sameS_self _ | (simp only [decide_eq_true_eq, decide_eq_false_iff_not, Nat.ble_eq, Nat.beq_eq, beq_eq_false_iff_ne, beq_iff_eq, ne_eq] <;> omega))) (fun st hst => pan st y 3 _ _ (congrArg AS.h hst) (by decide) (by unfold rdE; rw [eq]) (by unfold rdF; rw [eq]))
    · have e89 : decide (1000 ≤ IntKind.wrap IntKind.i64 (w + 1)) = false := by rw [w2, decide_eq_false_iff_not]; omega
      rw [if_neg (fun g => hn0 g.2), if_neg nl, if_pos h39] at eq
      refine Q.runSeq (SPd false true n ih [(121, [(89, false)])] []) 100 121 hnt [0, 1, 4, 5, 7] (z := { t := [(0, PV.ptr 0 0), (1, PV.int IntKind.i64 w), (4, PV.ptr 1 0), (5, PV.ptr 2 0), (7, PV.ptr 3 0)], h := { bx := [{ cs := [PV.str s, PV.int IntKind.i64 (Int.ofNat y)], ty := 87 }, { cs := [PV.int IntKind.i64 (0 : Int), PV.int IntKind.i64 (0 : Int), PV.str { data := #[] }, PV.nil], ty := 25 }, { cs := [PV.int IntKind.i64 (0 : Int), PV.nil], ty := 64 }, { cs := [PV.int IntKind.i64 (Int.ofNat y), PV.nil], ty := 64 }], rw := [] } }) (o := [(decide (1000 ≤ IntKind.wrap IntKind.i64 (w + 1)), false), (false, false)]) (by kernel_rfl) (by ((repeat' (first | exact okO_nil | refine okN ?_ ?_)); all_goals first | assumption | rfl | exact same_of rfl | exact sameS_self _ | (simp only [decide_eq_true_eq, decide_eq_false_iff_not, Nat.ble_eq, Nat.beq_eq, beq_eq_false_iff_ne, beq_iff_eq, ne_eq] <;> omega))) ?_
      refine Q.runSeq (SPd false true n ih [] []) 100 121 hnt [0, 1, 4, 5, 7] (z := { t := [(0, PV.ptr 0 0), (1, PV.int IntKind.i64 w), (4, PV.ptr 1 0), (5, PV.ptr 2 0), (7, PV.ptr 3 0)], h := { bx := [{ cs := [PV.str s, PV.int IntKind.i64 (IntKind.wrap IntKind.i64 (Int.ofNat (y + 1)))], ty := 87 }, { cs := [PV.int IntKind.i64 (0 : Int), PV.int IntKind.i64 (0 : Int), PV.str { data := #[] }, PV.nil], ty := 25 }, { cs := [PV.int IntKind.i64 (0 : Int), PV.nil], ty := 64 }, { cs := [PV.int IntKind.i64 (Int.ofNat y), PV.nil], ty := 64 }], rw := [] } }) (o := []) (by kernel_rfl) (by ((repeat' (first | exact okO_nil | refine okN ?_ ?_)); all_goals first | assumption | rfl | exact same_of rfl | exact sameS_self _ | (simp only [decide_eq_true_eq, decide_eq_false_iff_not, Nat.ble_eq, Nat.beq_eq, beq_eq_false_iff_ne, beq_iff_eq, ne_eq] <;> omega))) ?_
      rw [wy]
      obtain ⟨x0, hx0⟩ : ∃ x, x = y + 1 := ⟨_, rfl⟩
      show SWP G0 C _ _ ⟨[(0, .ptr 0 0), (1, .int .i64 w), (4, .ptr 1 0), (5, .ptr 2 0), (7, .ptr 3 0)], ⟨[rP s (y + 1), dZ, pZ, pB y .nil], []⟩⟩
      rw [← hx0] at eq ⊢
      have dx : decide (0 ≤ (x0 : Int) ∧ (x0 : Int) ≤ (s.size : Int)) = true := by rw [decide_eq_true_eq]; omega
      by_cases he : qE s n x0 = 0
      · have de : decide (qE s n (Int.toNat (x0 : Int)) = 0) = true := by rw [Int.toNat_natCast]; exact decide_eq_true he
        refine Q.runSeq (SPd false true n ih [] []) 100 121 hnt [4, 5, 7, 12, 13] (z := ⟨[(4, .ptr 1 0), (5, .ptr 2 0), (7, .ptr 3 0), (12, .ptr 4 0), (13, .ptr 5 0)], ⟨[rP s (qA s n x0), dZ, pZ, pB y .nil, ⟨ndJ (qX s n x0), 25⟩, ⟨ndP (qX s n x0), 64⟩], []⟩⟩) (o := [(decide (0 ≤ (↑x0 : Int) ∧ (↑x0 : Int) ≤ (↑(ByteArray.size s) : Int)), true), (decide (IntKind.wrap IntKind.i64 (w + 1) = 1000 - (↑n : Int)), true), (decide (qE s n (Int.toNat (↑x0 : Int)) = 0), true), (Nat.ble (ByteArray.size s) 1099511627776, true)]) (by kernel_rfl) (by ((repeat' (first | exact okO_nil | refine okN ?_ ?_)); all_goals first | assumption | rfl | exact same_of rfl | exact sameS_self _ | (simp only [decide_eq_true_eq, decide_eq_false_iff_not, Nat.ble_eq, Nat.beq_eq, beq_eq_false_iff_ne, beq_iff_eq, ne_eq] <;> omega))) ?_
        obtain ⟨X, hX⟩ : ∃ X, X = qX s n x0 := ⟨_, rfl⟩
        obtain ⟨p, hp'⟩ : ∃ X, X = qA s n x0 := ⟨_, rfl⟩
        rw [← hX, ← hp']
        have hs2 := rdD_steps s n (skp s x0) (skp_le s x0 (by omega))
        have eq2 : rdD s (n + 1) y = (.mk 3 0 ⟨#[]⟩ (.cons (.mk 2 0 wQuote .nil y) (.cons X .nil)) y, ⟨p, 0, 0⟩) := by
          rw [eq, hX, hp']
          have g1 : (rdD s n (skp s x0)).2 = ⟨qA s n x0, qE s n x0, qF s n x0⟩ := rfl
          have g2 : (rdD s n (skp s x0)).1 = qX s n x0 := rfl
          have hb0 : qF s n x0 = 0 := (hs2.1.ok he).2
          rw [g1, g2, he, hb0]
        obtain ⟨xp, hxp⟩ : ∃ z, z = (ndS X).pl := ⟨_, rfl⟩
        show SWP G0 C _ _ ⟨[(4, .ptr 1 0), (5, .ptr 2 0), (7, .ptr 3 0), (12, .ptr 4 0), (13, .ptr 5 0)], ⟨[rP s p, dZ, pZ, pB y .nil, ⟨ndJ X, 25⟩, ⟨[.int .i64 (ndA X), .slice (Nds.len (ndS X)) (ndS X).pl], 64⟩], []⟩⟩
        rw [← hxp]
        refine Q.runSeq (SPd false true n ih [] []) 100 121 hnt [4, 5, 7, 12] (z := { t := [(4, PV.ptr 1 0), (5, PV.ptr 2 0), (7, PV.ptr 3 0), (12, PV.ptr 4 0)], h := { bx := [{ cs := [PV.str s, PV.int IntKind.i64 (Int.ofNat p)], ty := 87 }, { cs := [PV.int IntKind.i64 (0 : Int), PV.int IntKind.i64 (0 : Int), PV.str { data := #[] }, PV.nil], ty := 25 }, { cs := [PV.int IntKind.i64 (0 : Int), PV.nil], ty := 64 }, { cs := [PV.int IntKind.i64 (Int.ofNat y), PV.slice 2 [PV.int IntKind.i64 (Int.ofNat y), PV.nil, PV.int IntKind.i64 (ndA X), PV.slice (Nds.len (ndS X)) xp]], ty := 64 }, { cs := [PV.int IntKind.i64 (ndK X), PV.int IntKind.i64 (ndN X), PV.str (ndT X), PV.slice (Dats.len (Nds.dat (ndS X))) (Dats.cells (Nds.dat (ndS X)))], ty := 25 }, { cs := [PV.int IntKind.i64 (ndA X), PV.slice (Nds.len (ndS X)) xp], ty := 64 }], rw := [] } }) (o := []) (by kernel_rfl) (by ((repeat' (first | exact okO_nil | refine okN ?_ ?_)); all_goals first | assumption | rfl | exact same_of rfl | exact sameS_self _ | (simp only [decide_eq_true_eq, decide_eq_false_iff_not, Nat.ble_eq, Nat.beq_eq, beq_eq_false_iff_ne, beq_iff_eq, ne_eq] <;> omega))) ?_
        refine Q.seq fun K hK => ?_
        refine SWP.runLQ (SPd false true n ih [] []) 100 121 hnt [4, 5] (l := List.replicate 5 { t := [(4, PV.ptr 1 0), (5, PV.ptr 2 0)], h := { bx := [{ cs := [PV.str s, PV.int IntKind.i64 (Int.ofNat p)], ty := 87 }, { cs := [PV.int IntKind.i64 (3 : Int), PV.int IntKind.i64 (0 : Int), PV.str { data := #[] }, PV.slice 2 [PV.int IntKind.i64 (2 : Int), PV.int IntKind.i64 (0 : Int), PV.str { data := #[113, 117, 111, 116, 101] }, PV.nil, PV.int IntKind.i64 (ndK X), PV.int IntKind.i64 (ndN X), PV.str (ndT X), PV.slice (Dats.len (Nds.dat (ndS X))) (Dats.cells (Nds.dat (ndS X)))]], ty := 25 }, { cs := [PV.int IntKind.i64 (Int.ofNat y), PV.slice 2 [PV.int IntKind.i64 (Int.ofNat y), PV.nil, PV.int IntKind.i64 (ndA X), PV.slice (Nds.len (ndS X)) xp]], ty := 64 }, { cs := [PV.int IntKind.i64 (Int.ofNat y), PV.slice 2 [PV.int IntKind.i64 (Int.ofNat y), PV.nil, PV.int IntKind.i64 (ndA X), PV.slice (Nds.len (ndS X)) xp]], ty := 64 }, { cs := [PV.int IntKind.i64 (ndK X), PV.int IntKind.i64 (ndN X), PV.str (ndT X), PV.slice (Dats.len (Nds.dat (ndS X))) (Dats.cells (Nds.dat (ndS X)))], ty := 25 }, { cs := [PV.int IntKind.i64 (ndA X), PV.slice (Nds.len (ndS X)) xp], ty := 64 }], rw := [] } }) (o := []) (by kernel_rfl) (by ((repeat' (first | exact okO_nil | refine okN ?_ ?_)); all_goals first | assumption | rfl | exact same_of rfl | exact sameS_self _ | (simp only [decide_eq_true_eq, decide_eq_false_iff_not, Nat.ble_eq, Nat.beq_eq, beq_eq_false_iff_ne, beq_iff_eq, ne_eq] <;> omega))) (fun st hst => hK st (.norm [4, 5] ?_))
        rw [List.eq_of_mem_replicate hst]
        exact .ret (fin _ _ _ p _ _ rfl rfl rfl rfl rfl ⟨_, eq2, by
          simp only [nzL, PV.nz, Dats.nz, Dats.cells, Dat.cells, Nds.dat, Nd.dat, Dats.len]
          obtain ⟨k, n', t, ks, a'⟩ := X
          rfl, by
          rw [hxp]
          simp only [nzL, PV.nz, Nds.pl_nz, Nds.pl, Nd.pl, Nds.len]
          obtain ⟨k, n', t, ks, a'⟩ := X
          rfl⟩)
      · have de : decide (qE s n (Int.toNat (x0 : Int)) = 0) = false := by rw [Int.toNat_natCast]; exact decide_eq_false he
        refine Q.seq fun K hK => ?_
        exact SWP.runQ (SPd true true n ih [] []) 100 121 hnt [] (e := .panic (faultV (qF s n x0) (qE s n x0))) (z := { t := [], h := { bx := [{ cs := [PV.str s, PV.int IntKind.i64 (rdF s n (skp s (Int.toNat (Int.ofNat x0))))], ty := 87 }, { cs := [PV.int IntKind.i64 (0 : Int), PV.int IntKind.i64 (0 : Int), PV.str { data := #[] }, PV.nil], ty := 25 }, { cs := [PV.int IntKind.i64 (0 : Int), PV.nil], ty := 64 }, { cs := [PV.int IntKind.i64 (Int.ofNat y), PV.nil], ty := 64 }], rw := [] } }) (o := [(decide (0 ≤ (↑x0 : Int) ∧ (↑x0 : Int) ≤ (↑(ByteArray.size s) : Int)), true), (decide (IntKind.wrap IntKind.i64 (w + 1) = 1000 - (↑n : Int)), true), (decide (qE s n (Int.toNat (↑x0 : Int)) = 0), false), (Nat.ble (ByteArray.size s) 1099511627776, true)]) (by kernel_rfl) (by ((repeat' (first | exact okO_nil | refine okN ?_ ?_)); all_goals first | assumption | rfl | exact same_of rfl | exact sameS_self _ | (simp only [decide_eq_true_eq, decide_eq_false_iff_not, Nat.ble_eq, Nat.beq_eq, beq_eq_false_iff_ne, beq_iff_eq, ne_eq] <;> omega))) (fun st hst => pan st (qF s n x0) (qE s n x0) _ _ (congrArg AS.h hst) he (by unfold rdE; rw [eq]; rfl) (by unfold rdF; rw [eq]; rfl))
theorem rp_at : ∀ N, N ≤ 1000 → RpAt N
  | 0, h => rp_step false 0 (fun h => by cases h) 0 (fun h => by cases h) (fun _ => rfl) h
  | n + 1, h => rp_step true n (fun _ => rp_at n (by omega)) (n + 1) (fun _ => rfl) (fun h => by cases h) h
end Seat
end Go.Proofs.YtenpjkcclmmlhaaDoor
/- The program's reader: guard, which recovers (idle end). -/
namespace Go.Proofs.YtenpjkcclmmlhaaDoor
open Go.AS Go.RowKit
set_option linter.unusedVariables false
set_option linter.unusedSimpArgs false
set_option maxRecDepth 100000
set_option maxHeartbeats 400000
namespace Seat
/-- The program, no table known. -/
noncomputable def G1 : Prg := ⟨Tryd.prog, T, hT, fun _ => none, mo⟩
noncomputable def SG1 : Cfg G1 := { F := F, hF := hF, S := fun _ _ => none, hS := fun _ _ _ _ h => by cases h }
theorem guard_idle (v1 v2 : Value) (w : World) : CallsD Tryd.prog 67 #[v1, v2] .returning w fun e u' w' => (∃ v, e = .returned v) ∧ u' = .returning ∧ Below w.heap.size w w' := by
  let E : Env := ⟨fun _ => 0, fun _ => .nilFunc, fun _ => False, w.heap.size, 0, 0⟩
  let a : Act := ({ tmps := #[v1, v2] ++ Array.replicate 19 undef, defers := [] } : Act).put (some 7) .nilIface
  have hrel : Rel G1 (Ctx.of w E 0 21) E ⟨[(7, .niliface)], ⟨[], []⟩⟩ a w := ⟨rfl, by simp [a, Act.put, Ctx.of], fun s => by
      simp only [lk]
      split
      · rename_i h
        subst h
        have : a.tmps.getD 7 undef = .nilIface := by simp [a, Act.put, Array.getD]
        rw [this]
        exact .imm .niliface
      · exact .junk _,
    ⟨rfl, rfl, Nat.le_refl _, fun i b hb => by simp at hb, fun i r hr => by simp at hr, fun i j h => absurd h (Nat.not_lt_zero _), fun i j r s k h => by simp at h, fun i j r h => absurd h (Nat.not_lt_zero _), fun k h => h.elim, fun k i h => absurd h (Nat.not_lt_zero _), fun k j r h => by simp at h, fun g cs hg => by cases hg⟩,
    rfl, Nat.zero_le _, fun _ _ => rfl, fun i h1 h2 => absurd h2 (Nat.not_lt_zero _), fun _ h => h, fun _ h => .inl h, fun _ _ _ _ => rfl, rfl, rfl, rfl, Nat.le_refl _, fun j s k hj => by simp at hj⟩
  refine callsD_recover Tryd.func67 rfl rfl (fun ρ => rfl) ?_
  refine wp_mono (SWP.runQ SG1 100 21 rfl [] (e := .normal) (z := ⟨[], ⟨[], []⟩⟩) (o := []) (Q := fun e s => e = .normal ∧ s.h = ⟨[], []⟩) (by kernel_rfl) (fun p hp => by cases hp) (fun st hst => ⟨rfl, congrArg AS.h hst⟩) E a w hrel) ?_
  rintro e a' w' ⟨ae, s, E', ⟨rfl, hs⟩, rfl, r⟩
  obtain ⟨v, h1, _⟩ := aret_ok (fn := Tryd.f67) (r := .tup []) r.fr r.hp rfl
  exact ⟨r.defers, v, h1, ⟨_, rfl⟩, rfl, ⟨r.os, r.tape, r.out, r.sz, fun k hk => r.keep k hk (fun i hi => absurd hi (Nat.not_lt_zero _)) (fun h => h)⟩⟩
end Seat
end Go.Proofs.YtenpjkcclmmlhaaDoor
/- The program's reader: guard, which recovers. -/
namespace Go.Proofs.YtenpjkcclmmlhaaDoor
open Go.AS Go.RowKit
set_option linter.unusedVariables false
set_option linter.unusedSimpArgs false
set_option maxRecDepth 100000
set_option maxHeartbeats 1000000
namespace Seat
theorem guard_pan (b1 b2 : Nat) (x y : Int) (c1 c2 : Value) (w : World) (hne : b1 ≠ b2) (h1 : w.heap[b1]? = some (.cells #[c1] 3 (0, 0))) (h2 : w.heap[b2]? = some (.cells #[c2] 26 (0, 0))) :
    CallsD Tryd.prog 67 #[.pointer (some ⟨b1, 0, none⟩), .pointer (some ⟨b2, 0, none⟩)] (.panicking [{ v := .iface 121 (.agg #[.int .i64 x, .int .i64 y]), recovered := false }]) w fun e u' w' =>
      (∃ v, e = .returned v) ∧ u' = .panicking [{ v := .iface 121 (.agg #[.int .i64 x, .int .i64 y]), recovered := true }] ∧ Below w.heap.size (putBlk (putBlk w b1 [.int .i64 x] 3) b2 [.int .i64 y] 26) w' := by
  let E : Env := ⟨fun i => if i = 0 then b1 else b2, fun _ => .nilFunc, fun _ => False, w.heap.size, 2, 0⟩
  let fv : Value := .iface 121 (.agg #[.int .i64 x, .int .i64 y])
  let a : Act := ({ tmps := #[.pointer (some ⟨b1, 0, none⟩), .pointer (some ⟨b2, 0, none⟩)] ++ Array.replicate 19 undef, defers := [] } : Act).put (some 7) fv
  have two : ∀ i : Nat, i < 2 → i = 0 ∨ i = 1 := fun i h => by omega
  have hrel : Rel G1 ⟨w, E, 2, 21, w.heap.size, fun _ => False, []⟩ E ⟨[(7, .iface 121 (.agg [.int .i64 x, .int .i64 y])), (0, .ptr 0 0), (1, .ptr 1 0)], ⟨[⟨[.junk], 3⟩, ⟨[.junk], 26⟩], []⟩⟩ a w := ⟨rfl, by simp [a, Act.put], fun s => by
      simp only [lk]
      split
      · rename_i h
        subst h
        have : a.tmps.getD 7 undef = fv := by simp [a, Act.put, Array.getD]
        rw [this]
        exact .iface _ (.agg (vs := [.int .i64 x, .int .i64 y]) rfl fun j z v hz hv => by
          match j with
          | 0 => simp at hz hv; subst hz; subst hv; exact .imm (.int _ _)
          | 1 => simp at hz hv; subst hz; subst hv; exact .imm (.int _ _)
          | j + 2 => simp at hz)
      · split
        · rename_i h
          subst h
          have : a.tmps.getD 0 undef = .pointer (some ⟨b1, 0, none⟩) := by simp [a, Act.put, Array.getD]
          rw [this]
          exact .ptr (E := E) (b := 0) 0 (by show 0 < 2; omega)
        · split
          · rename_i h
            subst h
            have : a.tmps.getD 1 undef = .pointer (some ⟨b2, 0, none⟩) := by simp [a, Act.put, Array.getD]
            rw [this]
            exact .ptr (E := E) (b := 1) 0 (by show 1 < 2; omega)
          · exact .junk _,
    ⟨rfl, rfl, Nat.le_refl _, fun i b hb => by
        match i with
        | 0 => simp at hb; subst hb; exact ⟨[c1], h1, .cons (.junk _) (.nil _ _)⟩
        | 1 => simp at hb; subst hb; exact ⟨[c2], h2, .cons (.junk _) (.nil _ _)⟩
        | i + 2 => simp at hb, fun i r hr => by simp at hr, fun i j hi hj he => by
        rcases two i hi with rfl | rfl <;> rcases two j hj with rfl | rfl
        · rfl
        · exact absurd he hne
        · exact absurd he.symm hne
        · rfl, fun i j r s k h => by simp at h, fun i j r hi hj => by simp at hj, fun k h => h.elim, fun k i hi h => h.elim, fun k j r h => by simp at h, fun g cs hg => by cases hg⟩,
    rfl, Nat.le_refl _, fun _ _ => rfl, fun i h1 h2 => absurd h2 (Nat.not_lt.2 h1), fun _ h => h, fun _ h => .inl h, fun _ _ _ _ => rfl, rfl, rfl, rfl, Nat.le_refl _, fun j s k hj => by simp at hj⟩
  refine callsD_recover Tryd.func67 rfl rfl (fun ρ => rfl) ?_
  refine wp_mono (SWP.runQ SG1 100 21 rfl [] (e := .normal) (z := { t := [], h := { bx := [{ cs := [PV.int IntKind.i64 x], ty := 3 }, { cs := [PV.int IntKind.i64 y], ty := 26 }, { cs := [PV.int IntKind.i64 x, PV.int IntKind.i64 y], ty := 121 }], rw := [] } }) (o := [(sameS { t := [(13, PV.ptr 0 0), (14, PV.ptr 1 0), (15, PV.ptr 2 0), (16, PV.int IntKind.i64 x), (17, PV.ptr 2 1), (18, PV.int IntKind.i64 y), (19, PV.ptr 0 0), (20, PV.ptr 1 0), (5, PV.ptr 2 0), (12, PV.agg [PV.int IntKind.i64 x, PV.int IntKind.i64 y]), (11, PV.bool true), (10, PV.tup [PV.agg [PV.int IntKind.i64 x, PV.int IntKind.i64 y], PV.bool true]), (9, PV.bool false), (7, PV.iface 121 (PV.agg [PV.int IntKind.i64 x, PV.int IntKind.i64 y])), (0, PV.ptr 0 0), (1, PV.ptr 1 0)], h := { bx := [{ cs := [PV.int IntKind.i64 x], ty := 3 }, { cs := [PV.int IntKind.i64 y], ty := 26 }, { cs := [PV.int IntKind.i64 x, PV.int IntKind.i64 y], ty := 121 }], rw := [] } } { t := [(13, PV.ptr 0 0), (14, PV.ptr 1 0), (15, PV.ptr 2 0), (16, PV.int IntKind.i64 x), (17, PV.ptr 2 1), (18, PV.int IntKind.i64 y), (19, PV.ptr 0 0), (20, PV.ptr 1 0), (5, PV.ptr 2 0), (12, PV.agg [PV.int IntKind.i64 x, PV.int IntKind.i64 y]), (11, PV.bool true), (10, PV.tup [PV.agg [PV.int IntKind.i64 x, PV.int IntKind.i64 y], PV.bool true]), (9, PV.bool false), (7, PV.iface 121 (PV.agg [PV.int IntKind.i64 x, PV.int IntKind.i64 y])), (0, PV.ptr 0 0), (1, PV.ptr 1 0)], h := { bx := [{ cs := [PV.int IntKind.i64 x], ty := 3 }, { cs := [PV.int IntKind.i64 y], ty := 26 }, { cs := [PV.int IntKind.i64 x, PV.int IntKind.i64 y], ty := 121 }], rw := [] } }, true), (sameS { t := [(13, PV.ptr 0 0), (14, PV.ptr 1 0), (15, PV.ptr 2 0), (16, PV.int IntKind.i64 x), (17, PV.ptr 2 1), (18, PV.int IntKind.i64 y), (19, PV.ptr 0 0), (20, PV.ptr 1 0), (5, PV.ptr 2 0), (12, PV.agg [PV.int IntKind.i64 x, PV.int IntKind.i64 y]), (11, PV.bool true), (10, PV.tup [PV.agg [PV.int IntKind.i64 x, PV.int IntKind.i64 y], PV.bool true]), (9, PV.bool false), (7, PV.iface 121 (PV.agg [PV.int IntKind.i64 x, PV.int IntKind.i64 y])), (0, PV.ptr 0 0), (1, PV.ptr 1 0)], h := { bx := [{ cs := [PV.int IntKind.i64 x], ty := 3 }, { cs := [PV.int IntKind.i64 y], ty := 26 }, { cs := [PV.int IntKind.i64 x, PV.int IntKind.i64 y], ty := 121 }], rw := [] } } { t := [(13, PV.ptr 0 0), (14, PV.ptr 1 0), (15, PV.ptr 2 0), (16, PV.int IntKind.i64 x), (17, PV.ptr 2 1), (18, PV.int IntKind.i64 y), (19, PV.ptr 0 0), (20, PV.ptr 1 0), (5, PV.ptr 2 0), (12, PV.agg [PV.int IntKind.i64 x, PV.int IntKind.i64 y]), (11, PV.bool true), (10, PV.tup [PV.agg [PV.int IntKind.i64 x, PV.int IntKind.i64 y], PV.bool true]), (9, PV.bool false), (7, PV.iface 121 (PV.agg [PV.int IntKind.i64 x, PV.int IntKind.i64 y])), (0, PV.ptr 0 0), (1, PV.ptr 1 0)], h := { bx := [{ cs := [PV.int IntKind.i64 x], ty := 3 }, { cs := [PV.int IntKind.i64 y], ty := 26 }, { cs := [PV.int IntKind.i64 x, PV.int IntKind.i64 y], ty := 121 }], rw := [] } }, true)]) (Q := fun e s => e = .normal ∧ s.h.bx.length = 3 ∧ s.h.bx[0]? = some ⟨[.int .i64 x], 3⟩ ∧ s.h.bx[1]? = some ⟨[.int .i64 y], 26⟩) (by kernel_rfl) (by ((repeat' (first | exact okO_nil | refine okN ?_ ?_)); all_goals first | assumption | rfl | exact same_of rfl | exact sameS_self _ | (simp only [decide_eq_true_eq, decide_eq_false_iff_not, Nat.ble_eq, Nat.beq_eq, beq_eq_false_iff_ne, beq_iff_eq, ne_eq] <;> omega))) (fun st hst => ⟨rfl, by have e := congrArg AS.h hst; have e2 : st.h = _ := e; rw [e2]; exact ⟨rfl, rfl, rfl⟩⟩) E a w hrel) ?_
  rintro e a' w' ⟨ae, s, E', ⟨rfl, _, hb0, hb1⟩, rfl, r⟩
  obtain ⟨v, g1, _⟩ := aret_ok (fn := Tryd.f67) (r := .tup []) r.fr r.hp rfl
  obtain ⟨us, k1, k2⟩ := r.hp.box 0 _ hb0
  obtain ⟨vs, k3, k4⟩ := r.hp.box 1 _ hb1
  obtain ⟨u, us', rfl, hu, hus⟩ := k2.cons_inv
  obtain rfl := hus.nil_inv
  obtain rfl := hu.int_inv
  obtain ⟨u, vs', rfl, hu, hus⟩ := k4.cons_inv
  obtain rfl := hus.nil_inv
  obtain rfl := hu.int_inv
  have e0 : E'.β 0 = b1 := r.β 0 (by show 0 < 2; omega)
  have e1 : E'.β 1 = b2 := r.β 1 (by show 1 < 2; omega)
  rw [e0] at k1
  rw [e1] at k3
  have l1 : b1 < w.heap.size := (Array.getElem?_eq_some_iff.1 h1).1
  have l2 : b2 < w.heap.size := (Array.getElem?_eq_some_iff.1 h2).1
  refine ⟨r.defers, v, g1, ⟨_, rfl⟩, rfl, ⟨r.os, r.tape, r.out, by rw [putBlk_size, putBlk_size]; exact r.sz, fun k hk => ?_⟩⟩
  by_cases q2 : k = b2
  · subst q2
    rw [k3, putBlk_at (by rw [putBlk_size]; exact l2)]
  · rw [putBlk_ne q2]
    by_cases q1 : k = b1
    · subst q1
      rw [k1, putBlk_at l1]
    · rw [putBlk_ne q1]
      exact r.keep k hk (fun i hi he => by
        rcases two i hi with rfl | rfl
        · exact q1 he.symm
        · exact q2 he.symm) (fun h => h)
theorem guardOk (G : Prg) (hP : G.P = Tryd.prog) : Guard G 67 121 3 26 .i64 .i64 := ⟨fun v1 v2 w => by rw [hP]; exact guard_idle v1 v2 w, fun b1 b2 x y c1 c2 w hne h1 h2 => by rw [hP]; exact guard_pan b1 b2 x y c1 c2 w hne h1 h2⟩
end Seat
end Go.Proofs.YtenpjkcclmmlhaaDoor
/- The program's reader: long, whose faults are recovered. Printed by dev/rp6.py and dev/nfsub.py (this session's). -/
namespace Go.Proofs.YtenpjkcclmmlhaaDoor
open Go.AS Go.RowKit
set_option linter.unusedVariables false
set_option linter.unusedSimpArgs false
set_option maxRecDepth 100000
set_option maxHeartbeats 4000000
namespace Seat
def iZ (a : Int) : Box := ⟨[.int .i64 a], 3⟩
def eZ (a : Int) : Box := ⟨[.int .i64 a], 26⟩
noncomputable def SLg (pn : Bool) (l : List (Nat × List (Nat × Bool))) (v : List (Nat × List (Nat × PV))) : Cfg G0 := SPd pn true 1000 (fun _ => rp_at 1000 (Nat.le_refl _)) l v
/-- The one datum of a string of any length, or where what is wrong. -/
def lnR (s : ByteArray) : Nd × Int × Int :=
  if rdE s 1000 (skp s 0) = 0 then (if skp s (rdA s 1000 (skp s 0)) < s.size then (.zero, (skp s (rdA s 1000 (skp s 0)) : Nat), 4) else (rdX s 1000 (skp s 0), 0, 0)) else (.zero, rdF s 1000 (skp s 0), rdE s 1000 (skp s 0))
theorem lnR_eq (s : ByteArray) : lnR s =
  (if rdE s 1000 (skp s 0) = 0 then (if skp s (rdA s 1000 (skp s 0)) < s.size then (.zero, (skp s (rdA s 1000 (skp s 0)) : Nat), 4) else (rdX s 1000 (skp s 0), 0, 0)) else (.zero, rdF s 1000 (skp s 0), rdE s 1000 (skp s 0)) : Nd × Int × Int) := rfl
def lnX (s : ByteArray) : Nd := (lnR s).1
def lnA (s : ByteArray) : Int := (lnR s).2.1
def lnE (s : ByteArray) : Int := (lnR s).2.2
theorem long_ok (s : ByteArray) (hs : s.size ≤ 1099511627776) : Pure G0 58 [.str s] (fun r => r = .tup [.agg (ndJ (lnX s)), .agg (ndP (lnX s)), .int .i64 (lnA s), .int .i64 (lnE s)]) := by
  refine Pure.nz ?_
  have hss : Nat.ble s.size 1099511627776 = true := Nat.ble_eq_true_of_le hs
  refine PCalls.deferQ (s1 := ⟨[(0, .str s), (2, .ptr 0 0), (3, .ptr 1 0), (4, .ptr 2 0), (5, .ptr 3 0)], ⟨[dZ, pZ, iZ 0, eZ 0], []⟩⟩) (b1 := 2) (b2 := 3) Tryd.func58 Tryd.ntmps58 rfl (Nat.le_of_ble_eq_true rfl) (guardOk G0 rfl) Tryd.func67 (by kernel_rfl) rfl rfl rfl rfl rfl rfl rfl (by decide) rfl
    (fun C hC => SWP.normQ (SWP.runQ (SLg false [] []) 100 30 hC [0, 2, 3, 4, 5] (e := .normal) (z := { t := [(0, PV.str s), (2, PV.ptr 0 0), (3, PV.ptr 1 0), (4, PV.ptr 2 0), (5, PV.ptr 3 0)], h := { bx := [{ cs := [PV.int IntKind.i64 (0 : Int), PV.int IntKind.i64 (0 : Int), PV.str { data := #[] }, PV.nil], ty := 25 }, { cs := [PV.int IntKind.i64 (0 : Int), PV.nil], ty := 64 }, { cs := [PV.int IntKind.i64 (0 : Int)], ty := 3 }, { cs := [PV.int IntKind.i64 (0 : Int)], ty := 26 }], rw := [] } }) (o := []) (by kernel_rfl) (by ((repeat' (first | exact okO_nil | refine okN ?_ ?_)); all_goals first | assumption | rfl | exact same_of rfl | exact sameS_self _ | (simp only [decide_eq_true_eq, decide_eq_false_iff_not, Nat.ble_eq, Nat.beq_eq, beq_eq_false_iff_ne, beq_iff_eq, ne_eq] <;> omega))) (fun st hst => ⟨[0, 2, 3, 4, 5], rfl, hst⟩))) fun C fr fp hnt hnb hfr hfp => ?_
  have eq := lnR_eq s
  have fin : ∀ st d p a e bx rw', nrm [2, 3, 4, 5] st = ⟨[(2, .ptr 0 0), (3, .ptr 1 0), (4, .ptr 2 0), (5, .ptr 3 0)], ⟨⟨d, 25⟩ :: ⟨p, 64⟩ :: iZ a :: eZ e :: bx, rw'⟩⟩ → d.length = 4 → p.length = 2 → scL 0 d = true → scL 0 p = true → nzL d = ndJ (lnX s) → nzL p = ndP (lnX s) → lnA s = a → lnE s = e → fr st := fun st d p a e bx rw' hst l1 l2 s1 s2 g1 g2 g3 g4 => hfr st [2, 3, 4, 5] (by
    rw [hst]
    refine ⟨0, .tup [.agg d, .agg p, .int .i64 a, .int .i64 e], Nat.le_refl _, Nat.zero_le _, ?_, ?_, rfl, rfl, _, rfl, ?_⟩
    · match d, l1, p, l2 with
      | [d1, d2, d3, d4], _, [p1, p2], _ => rfl
    · simp only [PV.sc, scL, s1, s2, Bool.and_true]
    · show PV.tup [.agg (nzL d), .agg (nzL p), .int .i64 a, .int .i64 e] = _
      rw [g1, g2, g3, g4])
  have pan : ∀ st (a e : Int) bx rw', nrm [2, 3, 4, 5] st = ⟨[(2, .ptr 0 0), (3, .ptr 1 0), (4, .ptr 2 0), (5, .ptr 3 0)], ⟨dZ :: pZ :: iZ 0 :: eZ 0 :: bx, rw'⟩⟩ → lnR s = (.zero, a, e) → fp (faultV a e) st := fun st a e bx rw' hst h => hfp a e st [2, 3, 4, 5] (.int .i64 0) (.int .i64 0) (by rw [hst]; rfl) (by rw [hst]; rfl) (by
    rw [hst]
    refine ⟨0, .tup [.agg dZ.cs, .agg pZ.cs, .int .i64 a, .int .i64 e], Nat.le_refl _, Nat.zero_le _, rfl, rfl, rfl, rfl, _, rfl, ?_⟩
    unfold lnX lnA lnE
    rw [h]
    rfl)
  refine Q.runSeq (SLg false [] []) 100 30 hnt [0, 2, 3, 4, 5, 6] (z := { t := [(0, PV.str s), (2, PV.ptr 0 0), (3, PV.ptr 1 0), (4, PV.ptr 2 0), (5, PV.ptr 3 0), (6, PV.ptr 4 0)], h := { bx := [{ cs := [PV.int IntKind.i64 (0 : Int), PV.int IntKind.i64 (0 : Int), PV.str { data := #[] }, PV.nil], ty := 25 }, { cs := [PV.int IntKind.i64 (0 : Int), PV.nil], ty := 64 }, { cs := [PV.int IntKind.i64 (0 : Int)], ty := 3 }, { cs := [PV.int IntKind.i64 (0 : Int)], ty := 26 }, { cs := [PV.str s, PV.int IntKind.i64 (0 : Int)], ty := 87 }], rw := [] } }) (o := []) (by kernel_rfl) (by ((repeat' (first | exact okO_nil | refine okN ?_ ?_)); all_goals first | assumption | rfl | exact same_of rfl | exact sameS_self _ | (simp only [decide_eq_true_eq, decide_eq_false_iff_not, Nat.ble_eq, Nat.beq_eq, beq_eq_false_iff_ne, beq_iff_eq, ne_eq] <;> omega))) ?_
  have hst := rdD_steps s 1000 (skp s 0) (skp_le s 0 (Nat.zero_le _))
  have hin : RS.In s 1000 ⟨rdA s 1000 (skp s 0), rdE s 1000 (skp s 0), rdF s 1000 (skp s 0)⟩ := hst.1
  by_cases he : rdE s 1000 (skp s 0) = 0
  · have de : decide (qE s 1000 (Int.toNat ((0 : Nat) : Int)) = 0) = true := decide_eq_true he
    have d0 : decide ((0 : Int) ≤ 0 ∧ (0 : Int) ≤ (s.size : Int)) = true := by rw [decide_eq_true_eq]; omega
    rw [if_pos he] at eq
    refine Q.runSeq (SLg false [] []) 100 30 hnt [0, 2, 3, 4, 5, 6, 7, 8] (z := ⟨[(0, .str s), (2, .ptr 0 0), (3, .ptr 1 0), (4, .ptr 2 0), (5, .ptr 3 0), (6, .ptr 4 0), (7, .ptr 5 0), (8, .ptr 6 0)], ⟨[dZ, pZ, iZ 0, eZ 0, rP s (qA s 1000 0), ⟨ndJ (qX s 1000 0), 25⟩, ⟨ndP (qX s 1000 0), 64⟩], []⟩⟩) (o := [(true, true), (true, true), (decide (qE s 1000 (Int.toNat (↑0 : Int)) = 0), true), (Nat.ble (ByteArray.size s) 1099511627776, true)]) (by kernel_rfl) (by ((repeat' (first | exact okO_nil | refine okN ?_ ?_)); all_goals first | assumption | rfl | exact same_of rfl | exact sameS_self _ | (simp only [decide_eq_true_eq, decide_eq_false_iff_not, Nat.ble_eq, Nat.beq_eq, beq_eq_false_iff_ne, beq_iff_eq, ne_eq] <;> omega))) ?_
    have hA : (rdA s 1000 (skp s 0)) ≤ s.size := (hin.ok he).1
    obtain ⟨X, hX⟩ : ∃ X, X = qX s 1000 0 := ⟨_, rfl⟩
    obtain ⟨p, hp'⟩ : ∃ X, X = qA s 1000 0 := ⟨_, rfl⟩
    obtain ⟨xp, hxp⟩ : ∃ z, z = (ndS X).pl := ⟨_, rfl⟩
    refine swp_st (st' := ⟨[(0, .str s), (2, .ptr 0 0), (3, .ptr 1 0), (4, .ptr 2 0), (5, .ptr 3 0), (6, .ptr 4 0), (7, .ptr 5 0), (8, .ptr 6 0)], ⟨[dZ, pZ, iZ 0, eZ 0, rP s p, ⟨ndJ X, 25⟩, ⟨[.int .i64 (ndA X), .slice (Nds.len (ndS X)) xp], 64⟩], []⟩⟩) (by rw [hxp, hX, hp']; rfl) ?_
    have e1 : rdA s 1000 (skp s 0) = p := hp'.symm
    have e2 : rdX s 1000 (skp s 0) = X := hX.symm
    rw [e1, e2] at eq
    rw [e1] at hA
    have dp : decide (0 ≤ (p : Int) ∧ (p : Int) ≤ (s.size : Int)) = true := by rw [decide_eq_true_eq]; omega
    have hle := skp_le s p hA
    rcases Nat.lt_or_ge (skp s p) s.size with hl | hg
    · rw [if_pos hl] at eq
      have dl : decide (((skp s (Int.toNat (p : Int)) : Nat) : Int) < (s.size : Int)) = true := lt_at hl
      refine Q.seq fun K hK => ?_
      exact SWP.runQ (SLg false [(30, [(25, true)])] []) 100 30 hnt [2, 3, 4, 5] (e := .panic (faultV (Int.ofNat (skp s p)) 4)) (z := { t := [(2, PV.ptr 0 0), (3, PV.ptr 1 0), (4, PV.ptr 2 0), (5, PV.ptr 3 0)], h := { bx := [{ cs := [PV.int IntKind.i64 (0 : Int), PV.int IntKind.i64 (0 : Int), PV.str { data := #[] }, PV.nil], ty := 25 }, { cs := [PV.int IntKind.i64 (0 : Int), PV.nil], ty := 64 }, { cs := [PV.int IntKind.i64 (0 : Int)], ty := 3 }, { cs := [PV.int IntKind.i64 (0 : Int)], ty := 26 }, { cs := [PV.str s, PV.int IntKind.i64 (Int.ofNat (skp s (Int.toNat (Int.ofNat p))))], ty := 87 }, { cs := [PV.int IntKind.i64 (ndK X), PV.int IntKind.i64 (ndN X), PV.str (ndT X), PV.slice (Dats.len (Nds.dat (ndS X))) (Dats.cells (Nds.dat (ndS X)))], ty := 25 }, { cs := [PV.int IntKind.i64 (ndA X), PV.slice (Nds.len (ndS X)) xp], ty := 64 }], rw := [] } }) (o := [(decide (0 ≤ (↑p : Int) ∧ (↑p : Int) ≤ (↑(ByteArray.size s) : Int)), true), (Nat.ble (ByteArray.size s) 1099511627776, true), (decide ((↑(skp s (Int.toNat (↑p : Int))) : Int) < (↑(ByteArray.size s) : Int)), true), (true, true), (true, true)]) (by kernel_rfl) (by ((repeat' (first | exact okO_nil | refine okN ?_ ?_)); all_goals first | assumption | rfl | exact same_of rfl | exact sameS_self _ | (simp only [decide_eq_true_eq, decide_eq_false_iff_not, Nat.ble_eq, Nat.beq_eq, beq_eq_false_iff_ne, beq_iff_eq, ne_eq] <;> omega))) (fun st hst => pan st (skp s p : Nat) 4 _ _ hst eq)
    · rw [if_neg (by omega)] at eq
      have dl : decide (((skp s (Int.toNat (p : Int)) : Nat) : Int) < (s.size : Int)) = false := ge_at hg
      refine Q.runSeq (SLg false [(30, [(25, false)])] []) 100 30 hnt [2, 3, 4, 5, 7, 8] (z := { t := [(2, PV.ptr 0 0), (3, PV.ptr 1 0), (4, PV.ptr 2 0), (5, PV.ptr 3 0), (7, PV.ptr 5 0), (8, PV.ptr 6 0)], h := { bx := [{ cs := [PV.int IntKind.i64 (0 : Int), PV.int IntKind.i64 (0 : Int), PV.str { data := #[] }, PV.nil], ty := 25 }, { cs := [PV.int IntKind.i64 (0 : Int), PV.nil], ty := 64 }, { cs := [PV.int IntKind.i64 (0 : Int)], ty := 3 }, { cs := [PV.int IntKind.i64 (0 : Int)], ty := 26 }, { cs := [PV.str s, PV.int IntKind.i64 (Int.ofNat (skp s (Int.toNat (Int.ofNat p))))], ty := 87 }, { cs := [PV.int IntKind.i64 (ndK X), PV.int IntKind.i64 (ndN X), PV.str (ndT X), PV.slice (Dats.len (Nds.dat (ndS X))) (Dats.cells (Nds.dat (ndS X)))], ty := 25 }, { cs := [PV.int IntKind.i64 (ndA X), PV.slice (Nds.len (ndS X)) xp], ty := 64 }], rw := [] } }) (o := [(decide (0 ≤ (↑p : Int) ∧ (↑p : Int) ≤ (↑(ByteArray.size s) : Int)), true), (Nat.ble (ByteArray.size s) 1099511627776, true), (decide ((↑(skp s (Int.toNat (↑p : Int))) : Int) < (↑(ByteArray.size s) : Int)), false), (false, false)]) (by kernel_rfl) (by ((repeat' (first | exact okO_nil | refine okN ?_ ?_)); all_goals first | assumption | rfl | exact same_of rfl | exact sameS_self _ | (simp only [decide_eq_true_eq, decide_eq_false_iff_not, Nat.ble_eq, Nat.beq_eq, beq_eq_false_iff_ne, beq_iff_eq, ne_eq] <;> omega))) ?_
      obtain ⟨q, hq⟩ : ∃ q, q = skp s p := ⟨_, rfl⟩
      refine swp_st (st' := ⟨[(2, .ptr 0 0), (3, .ptr 1 0), (4, .ptr 2 0), (5, .ptr 3 0), (7, .ptr 5 0), (8, .ptr 6 0)], ⟨[dZ, pZ, iZ 0, eZ 0, rP s q, ⟨ndJ X, 25⟩, ⟨[.int .i64 (ndA X), .slice (Nds.len (ndS X)) xp], 64⟩], []⟩⟩) (by rw [hq]; rfl) ?_
      refine Q.seq fun K hK => ?_
      refine SWP.runLQ (SLg false [] []) 100 30 hnt [2, 3, 4, 5] (l := List.replicate 2 { t := [(2, PV.ptr 0 0), (3, PV.ptr 1 0), (4, PV.ptr 2 0), (5, PV.ptr 3 0)], h := { bx := [{ cs := [PV.int IntKind.i64 (ndK X), PV.int IntKind.i64 (ndN X), PV.str (ndT X), PV.slice (Dats.len (Nds.dat (ndS X))) (Dats.cells (Nds.dat (ndS X)))], ty := 25 }, { cs := [PV.int IntKind.i64 (ndA X), PV.slice (Nds.len (ndS X)) xp], ty := 64 }, { cs := [PV.int IntKind.i64 (0 : Int)], ty := 3 }, { cs := [PV.int IntKind.i64 (0 : Int)], ty := 26 }, { cs := [PV.str s, PV.int IntKind.i64 (Int.ofNat q)], ty := 87 }, { cs := [PV.int IntKind.i64 (ndK X), PV.int IntKind.i64 (ndN X), PV.str (ndT X), PV.slice (Dats.len (Nds.dat (ndS X))) (Dats.cells (Nds.dat (ndS X)))], ty := 25 }, { cs := [PV.int IntKind.i64 (ndA X), PV.slice (Nds.len (ndS X)) xp], ty := 64 }], rw := [] } }) (o := []) (by kernel_rfl) (by ((repeat' (first | exact okO_nil | refine okN ?_ ?_)); all_goals first | assumption | rfl | exact same_of rfl | exact sameS_self _ | (simp only [decide_eq_true_eq, decide_eq_false_iff_not, Nat.ble_eq, Nat.beq_eq, beq_eq_false_iff_ne, beq_iff_eq, ne_eq] <;> omega))) (fun st hst => hK st (.norm [2, 3, 4, 5] ?_))
      rw [List.eq_of_mem_replicate hst]
      refine .ret (fin _ _ _ 0 0 _ _ rfl rfl rfl rfl rfl ?_ ?_ ?_ ?_)
      · unfold lnX; rw [eq]; show nzL (ndJ X) = _; rw [ndJ_eq, Dat.nz]
      · unfold lnX; rw [eq, hxp]; show nzL (ndP X) = _; rw [ndP_eq, Nd.pl_nz]
      · unfold lnA; rw [eq]
      · unfold lnE; rw [eq]
  · have de : decide (qE s 1000 (Int.toNat ((0 : Nat) : Int)) = 0) = false := decide_eq_false he
    have d0 : decide ((0 : Int) ≤ 0 ∧ (0 : Int) ≤ (s.size : Int)) = true := by rw [decide_eq_true_eq]; omega
    rw [if_neg he] at eq
    refine Q.seq fun K hK => ?_
    exact SWP.runQ (SLg true [] []) 100 30 hnt [2, 3, 4, 5] (e := .panic (faultV (qF s 1000 0) (qE s 1000 0))) (z := { t := [(2, PV.ptr 0 0), (3, PV.ptr 1 0), (4, PV.ptr 2 0), (5, PV.ptr 3 0)], h := { bx := [{ cs := [PV.int IntKind.i64 (0 : Int), PV.int IntKind.i64 (0 : Int), PV.str { data := #[] }, PV.nil], ty := 25 }, { cs := [PV.int IntKind.i64 (0 : Int), PV.nil], ty := 64 }, { cs := [PV.int IntKind.i64 (0 : Int)], ty := 3 }, { cs := [PV.int IntKind.i64 (0 : Int)], ty := 26 }, { cs := [PV.str s, PV.int IntKind.i64 (rdF s 1000 (skp s 0))], ty := 87 }], rw := [] } }) (o := [(true, true), (true, true), (decide (qE s 1000 (Int.toNat (↑0 : Int)) = 0), false), (Nat.ble (ByteArray.size s) 1099511627776, true)]) (by kernel_rfl) (by ((repeat' (first | exact okO_nil | refine okN ?_ ?_)); all_goals first | assumption | rfl | exact same_of rfl | exact sameS_self _ | (simp only [decide_eq_true_eq, decide_eq_false_iff_not, Nat.ble_eq, Nat.beq_eq, beq_eq_false_iff_ne, beq_iff_eq, ne_eq] <;> omega))) (fun st hst => pan st (qF s 1000 0) (qE s 1000 0) _ _ hst eq)
end Seat
end Go.Proofs.YtenpjkcclmmlhaaDoor
/- The document's reader: one datum of a string. Printed by dev/rd6.py and dev/nfsub.py (this session's). -/
namespace Go.Proofs.YtenpjkcclmmlhaaDoor
open Go.AS Go.RowKit
set_option linter.unusedVariables false
set_option linter.unusedSimpArgs false
set_option maxRecDepth 100000
set_option maxHeartbeats 4000000
namespace Seat
noncomputable def SOn (l : List (Nat × List (Nat × Bool))) (v : List (Nat × List (Nat × PV))) : Cfg G0 := SRd true 1000 (fun _ => rd_at 1000 (Nat.le_refl _)) l v
/-- The one datum of a string, or where what is wrong. -/
def oneR (s : ByteArray) : Nd × Int × Int := if 20000 < s.size then (.zero, 0, 3) else
  if rdE s 1000 (skp s 0) = 0 then (if skp s (rdA s 1000 (skp s 0)) < s.size then (.zero, (skp s (rdA s 1000 (skp s 0)) : Nat), 4) else (rdX s 1000 (skp s 0), 0, 0)) else (.zero, rdF s 1000 (skp s 0), rdE s 1000 (skp s 0))
theorem oneR_eq (s : ByteArray) : oneR s = (if 20000 < s.size then (.zero, 0, 3) else
  if rdE s 1000 (skp s 0) = 0 then (if skp s (rdA s 1000 (skp s 0)) < s.size then (.zero, (skp s (rdA s 1000 (skp s 0)) : Nat), 4) else (rdX s 1000 (skp s 0), 0, 0)) else (.zero, rdF s 1000 (skp s 0), rdE s 1000 (skp s 0)) : Nd × Int × Int) := rfl
theorem tup_weak {x : PV} {d : Nd} (hx : NilS x d) {a b : PV} {E : Env} {w : World} {v : Value} (h : VRep E w (.tup [.agg [.int .i64 (ndK d), .int .i64 (ndN d), .str (ndT d), x, .int .i64 (ndA d)], a, b]) v) : VRep E w (.tup [.agg (ndC d), a, b]) v := by
  obtain ⟨vs, rfl, g⟩ := h.tup_inv
  obtain ⟨v1, vs, rfl, h1, g⟩ := g.cons_inv
  obtain ⟨v2, vs, rfl, h2, g⟩ := g.cons_inv
  obtain ⟨v3, vs, rfl, h3, g⟩ := g.cons_inv
  obtain rfl := g.nil_inv
  have h5 := node_weak hx h1
  exact .tup rfl fun j x v hx hv => by
    match j, hx, hv with
    | 0, hx, hv => cases hx; cases hv; exact h5
    | 1, hx, hv => cases hx; cases hv; exact h2
    | 2, hx, hv => cases hx; cases hv; exact h3
    | j + 3, hx, hv => cases hx
theorem one_weak {f : FuncId} {args : List PV} {d : Nd} {a b : PV} (h : Pure G0 f args (fun r => ∃ x, NilS x d ∧ r = .tup [.agg [.int .i64 (ndK d), .int .i64 (ndN d), .str (ndT d), x, .int .i64 (ndA d)], a, b])) : Pure G0 f args (fun r => r = .tup [.agg (ndC d), a, b]) := fun E w vs hh hv =>
  (h E w vs hh hv).mono fun e w' ⟨o, bx', E', ⟨hb, r, ho, x, hx, hr⟩, hout, hrest⟩ => by
    subst ho; subst hr
    obtain ⟨v, rfl, hv⟩ := hout
    exact ⟨.ret (.tup [.agg (ndC d), a, b]), bx', E', ⟨hb, _, rfl, rfl⟩, ⟨v, rfl, tup_weak hx hv⟩, hrest⟩
theorem one_ok (s : ByteArray) : Pure G0 38 [.str s] (fun r => r = .tup [.agg (ndC (oneR s).1), .int .i64 (oneR s).2.1, .int .i64 (oneR s).2.2]) := by
  refine one_weak ?_
  have eq := oneR_eq s
  refine Fn.enterB Tryd.func38 Tryd.ntmps38 rfl (Nat.le_of_ble_eq_true rfl) fun C fr fp hnt hnb hp hfr hfp => ?_
  have fin : ∀ st d a e x bx rw', oneR s = (d, a, e) → NilS x d → nrm [2, 3, 4] st = ⟨[(2, .ptr 0 0), (3, .int .i64 a), (4, .int .i64 e)], ⟨⟨[.int .i64 (ndK d), .int .i64 (ndN d), .str (ndT d), x, .int .i64 (ndA d)], 69⟩ :: bx, rw'⟩⟩ → fr st := fun st d a e x bx rw' h hx hst => hfr st [2, 3, 4] (by
    rw [hst, h]
    refine ⟨0, .tup [.agg [.int .i64 (ndK d), .int .i64 (ndN d), .str (ndT d), x, .int .i64 (ndA d)], .int .i64 a, .int .i64 e], Nat.le_refl _, Nat.zero_le _, rfl, ?_, rfl, rfl, _, rfl, x, hx, rfl⟩
    rcases hx with rfl | ⟨rfl, _⟩ | ⟨_, _, _, rfl⟩ <;> rfl)
  refine Q.runSeq (SOn [] []) 100 55 hnt [0, 2, 3, 4] (z := { t := [(0, PV.str s), (2, PV.ptr 0 0), (3, PV.int IntKind.i64 (0 : Int)), (4, PV.int IntKind.i64 (0 : Int))], h := { bx := [{ cs := [PV.int IntKind.i64 (0 : Int), PV.int IntKind.i64 (0 : Int), PV.str { data := #[] }, PV.nil, PV.int IntKind.i64 (0 : Int)], ty := 69 }], rw := [] } }) (o := []) (by kernel_rfl) (by ((repeat' (first | exact okO_nil | refine okN ?_ ?_)); all_goals first | assumption | rfl | exact same_of rfl | exact sameS_self _ | (simp only [decide_eq_true_eq, decide_eq_false_iff_not, Nat.ble_eq, Nat.beq_eq, beq_eq_false_iff_ne, beq_iff_eq, ne_eq] <;> omega))) ?_
  by_cases hbig : 20000 < s.size
  · have d1 : decide (20000 < (s.size : Int)) = true := by rw [decide_eq_true_eq]; omega
    rw [if_pos hbig] at eq
    refine Q.seq fun K hK => ?_
    exact SWP.runQ (SOn [(55, [(9, true)])] []) 100 55 hnt [2, 3, 4] (e := .ret) (z := { t := [(2, PV.ptr 0 0), (3, PV.int IntKind.i64 (0 : Int)), (4, PV.int IntKind.i64 (3 : Int))], h := { bx := [{ cs := [PV.int IntKind.i64 (0 : Int), PV.int IntKind.i64 (0 : Int), PV.str { data := #[] }, PV.nil, PV.int IntKind.i64 (0 : Int)], ty := 69 }], rw := [] } }) (o := [(decide (20000 < (↑(ByteArray.size s) : Int)), true), (true, true)]) (by kernel_rfl) (by ((repeat' (first | exact okO_nil | refine okN ?_ ?_)); all_goals first | assumption | rfl | exact same_of rfl | exact sameS_self _ | (simp only [decide_eq_true_eq, decide_eq_false_iff_not, Nat.ble_eq, Nat.beq_eq, beq_eq_false_iff_ne, beq_iff_eq, ne_eq] <;> omega))) (fun st hst => fin st .zero 0 3 .nil [] [] eq (.inr (.inl ⟨rfl, rfl⟩)) hst)
  have d1 : decide (20000 < (s.size : Int)) = false := by rw [decide_eq_false_iff_not]; omega
  have d2 : Nat.ble s.size 1099511627776 = true := by rw [Nat.ble_eq]; omega
  rw [if_neg hbig] at eq
  refine Q.runSeq (SOn [(55, [(9, false)])] []) 100 55 hnt [0, 2] (z := { t := [(0, PV.str s), (2, PV.ptr 0 0)], h := { bx := [{ cs := [PV.int IntKind.i64 (0 : Int), PV.int IntKind.i64 (0 : Int), PV.str { data := #[] }, PV.nil, PV.int IntKind.i64 (0 : Int)], ty := 69 }], rw := [] } }) (o := [(decide (20000 < (↑(ByteArray.size s) : Int)), false), (false, false)]) (by kernel_rfl) (by ((repeat' (first | exact okO_nil | refine okN ?_ ?_)); all_goals first | assumption | rfl | exact same_of rfl | exact sameS_self _ | (simp only [decide_eq_true_eq, decide_eq_false_iff_not, Nat.ble_eq, Nat.beq_eq, beq_eq_false_iff_ne, beq_iff_eq, ne_eq] <;> omega))) ?_
  refine Q.runSeq (SOn [] []) 100 55 hnt [0, 2, 5] (z := { t := [(0, PV.str s), (2, PV.ptr 0 0), (5, PV.ptr 1 0)], h := { bx := [{ cs := [PV.int IntKind.i64 (0 : Int), PV.int IntKind.i64 (0 : Int), PV.str { data := #[] }, PV.nil, PV.int IntKind.i64 (0 : Int)], ty := 69 }, { cs := [PV.str s, PV.int IntKind.i64 (0 : Int), PV.int IntKind.i64 (0 : Int), PV.int IntKind.i64 (0 : Int)], ty := 97 }], rw := [] } }) (o := []) (by kernel_rfl) (by ((repeat' (first | exact okO_nil | refine okN ?_ ?_)); all_goals first | assumption | rfl | exact same_of rfl | exact sameS_self _ | (simp only [decide_eq_true_eq, decide_eq_false_iff_not, Nat.ble_eq, Nat.beq_eq, beq_eq_false_iff_ne, beq_iff_eq, ne_eq] <;> omega))) ?_
  refine Q.runSeq (SOn [] []) 100 55 hnt [0, 2, 5] (z := { t := [(0, PV.str s), (2, PV.ptr 0 0), (5, PV.ptr 1 0)], h := { bx := [{ cs := [PV.int IntKind.i64 (0 : Int), PV.int IntKind.i64 (0 : Int), PV.str { data := #[] }, PV.nil, PV.int IntKind.i64 (0 : Int)], ty := 69 }, { cs := [PV.str s, PV.int IntKind.i64 (Int.ofNat (skp s 0)), PV.int IntKind.i64 (0 : Int), PV.int IntKind.i64 (0 : Int)], ty := 97 }], rw := [] } }) (o := [(true, true), (Nat.ble (ByteArray.size s) 1099511627776, true)]) (by kernel_rfl) (by ((repeat' (first | exact okO_nil | refine okN ?_ ?_)); all_goals first | assumption | rfl | exact same_of rfl | exact sameS_self _ | (simp only [decide_eq_true_eq, decide_eq_false_iff_not, Nat.ble_eq, Nat.beq_eq, beq_eq_false_iff_ne, beq_iff_eq, ne_eq] <;> omega))) ?_
  obtain ⟨y, hy⟩ : ∃ y, y = skp s 0 := ⟨_, rfl⟩
  have hy2 : y ≤ s.size := by rw [hy]; exact skp_le s 0 (Nat.zero_le _)
  rw [← hy] at eq ⊢
  have dy : decide (0 ≤ (y : Int) ∧ (y : Int) ≤ (s.size : Int)) = true := by rw [decide_eq_true_eq]; omega
  refine Q.runSeq (SOn [] []) 100 55 hnt [0, 2, 5, 6] (z := { t := [(0, PV.str s), (2, PV.ptr 0 0), (5, PV.ptr 1 0), (6, PV.ptr 2 0)], h := { bx := [{ cs := [PV.int IntKind.i64 (0 : Int), PV.int IntKind.i64 (0 : Int), PV.str { data := #[] }, PV.nil, PV.int IntKind.i64 (0 : Int)], ty := 69 }, { cs := [PV.str s, PV.int IntKind.i64 (Int.ofNat (rdA s 1000 (Int.toNat (Int.ofNat y)))), PV.int IntKind.i64 (rdE s 1000 (Int.toNat (Int.ofNat y))), PV.int IntKind.i64 (rdF s 1000 (Int.toNat (Int.ofNat y)))], ty := 97 }, { cs := [PV.int IntKind.i64 (ndK (rdX s 1000 (Int.toNat (↑y : Int)))), PV.int IntKind.i64 (ndN (rdX s 1000 (Int.toNat (↑y : Int)))), PV.str (ndT (rdX s 1000 (Int.toNat (↑y : Int)))), PV.slice (Nds.len (ndS (rdX s 1000 (Int.toNat (↑y : Int))))) (Nds.cells (ndS (rdX s 1000 (Int.toNat (↑y : Int))))), PV.int IntKind.i64 (ndA (rdX s 1000 (Int.toNat (↑y : Int))))], ty := 69 }], rw := [] } }) (o := [(decide (0 ≤ (↑y : Int) ∧ (↑y : Int) ≤ (↑(ByteArray.size s) : Int)), true), (true, true), (Nat.ble (ByteArray.size s) 1099511627776, true)]) (by kernel_rfl) (by ((repeat' (first | exact okO_nil | refine okN ?_ ?_)); all_goals first | assumption | rfl | exact same_of rfl | exact sameS_self _ | (simp only [decide_eq_true_eq, decide_eq_false_iff_not, Nat.ble_eq, Nat.beq_eq, beq_eq_false_iff_ne, beq_iff_eq, ne_eq] <;> omega))) ?_
  have hst := (rdD_steps s 1000 y hy2).1
  have hin : RS.In s 1000 ⟨rdA s 1000 y, rdE s 1000 y, rdF s 1000 y⟩ := hst
  show SWP G0 C _ _ ⟨[(0, .str s), (2, .ptr 0 0), (5, .ptr 1 0), (6, .ptr 2 0)], ⟨[nZ, rB s (rdA s 1000 y) (rdE s 1000 y) (rdF s 1000 y), ⟨ndC (rdX s 1000 y), 69⟩], []⟩⟩
  obtain ⟨q, hq⟩ : ∃ q, q = rdA s 1000 y := ⟨_, rfl⟩
  obtain ⟨e, he⟩ : ∃ q, q = rdE s 1000 y := ⟨_, rfl⟩
  obtain ⟨b, hb⟩ : ∃ q, q = rdF s 1000 y := ⟨_, rfl⟩
  obtain ⟨x, hx⟩ : ∃ q, q = rdX s 1000 y := ⟨_, rfl⟩
  rw [← hq, ← he, ← hb] at hin ⊢
  rw [← hq, ← he, ← hb, ← hx] at eq
  rw [← hx]
  refine Q.runSeq (SOn [] []) 100 55 hnt [0, 2, 5, 6] (z := { t := [(0, PV.str s), (2, PV.ptr 0 0), (5, PV.ptr 1 0), (6, PV.ptr 2 0)], h := { bx := [{ cs := [PV.int IntKind.i64 (0 : Int), PV.int IntKind.i64 (0 : Int), PV.str { data := #[] }, PV.nil, PV.int IntKind.i64 (0 : Int)], ty := 69 }, { cs := [PV.str s, PV.int IntKind.i64 (Int.ofNat (skp s (Int.toNat (Int.ofNat q)))), PV.int IntKind.i64 e, PV.int IntKind.i64 b], ty := 97 }, { cs := [PV.int IntKind.i64 (ndK x), PV.int IntKind.i64 (ndN x), PV.str (ndT x), PV.slice (Nds.len (ndS x)) (Nds.cells (ndS x)), PV.int IntKind.i64 (ndA x)], ty := 69 }], rw := [] } }) (o := [(true, true), (Nat.ble (ByteArray.size s) 1099511627776, true)]) (by kernel_rfl) (by ((repeat' (first | exact okO_nil | refine okN ?_ ?_)); all_goals first | assumption | rfl | exact same_of rfl | exact sameS_self _ | (simp only [decide_eq_true_eq, decide_eq_false_iff_not, Nat.ble_eq, Nat.beq_eq, beq_eq_false_iff_ne, beq_iff_eq, ne_eq] <;> omega))) ?_
  show SWP G0 C _ _ ⟨[(0, .str s), (2, .ptr 0 0), (5, .ptr 1 0), (6, .ptr 2 0)], ⟨[nZ, rB s (skp s q) e b, ⟨ndC x, 69⟩], []⟩⟩
  clear hq
  obtain ⟨q, hq⟩ : ∃ z, z = skp s q := ⟨_, rfl⟩
  rw [← hq] at eq ⊢
  refine Q.seq fun K hK => ?_
  have bad : ∀ (q : Nat) (e b : Int), (!e == (0 : Int)) = true → (∀ st, nrm [2, 3, 4] st = ⟨[(2, .ptr 0 0), (3, .int .i64 b), (4, .int .i64 e)], ⟨[nZ, rB s q e b, ⟨ndC x, 69⟩], []⟩⟩ → fr st) → ∀ st, nrm [2, 5, 6] st = ⟨[(2, .ptr 0 0), (5, .ptr 1 0), (6, .ptr 2 0)], ⟨[nZ, rB s q e b, ⟨ndC x, 69⟩], []⟩⟩ → K st := fun q e b d4 hf st hst => hK st (.norm [2, 5, 6] (by
    rw [hst]
    refine Q.seq fun K hK => ?_
    refine Q.runSeq (SOn [(55, [(44, true)])] []) 100 55 hnt [2, 5, 6, 44] (z := { t := [(2, PV.ptr 0 0), (5, PV.ptr 1 0), (6, PV.ptr 2 0), (44, PV.bool true)], h := { bx := [{ cs := [PV.int IntKind.i64 (0 : Int), PV.int IntKind.i64 (0 : Int), PV.str { data := #[] }, PV.nil, PV.int IntKind.i64 (0 : Int)], ty := 69 }, { cs := [PV.str s, PV.int IntKind.i64 (Int.ofNat q), PV.int IntKind.i64 e, PV.int IntKind.i64 b], ty := 97 }, { cs := [PV.int IntKind.i64 (ndK x), PV.int IntKind.i64 (ndN x), PV.str (ndT x), PV.slice (Nds.len (ndS x)) (Nds.cells (ndS x)), PV.int IntKind.i64 (ndA x)], ty := 69 }], rw := [] } }) (o := [(!e == (0 : Int), true)]) (by kernel_rfl) (by ((repeat' (first | exact okO_nil | refine okN ?_ ?_)); all_goals first | assumption | rfl | exact same_of rfl | exact sameS_self _ | (simp only [decide_eq_true_eq, decide_eq_false_iff_not, Nat.ble_eq, Nat.beq_eq, beq_eq_false_iff_ne, beq_iff_eq, ne_eq] <;> omega))) ?_
    refine Q.cond (b := true) rfl (fun _ => ?_) (fun h => by cases h)
    refine Q.seq fun K2 hK2 => ?_
    refine SWP.runLQ (SOn [] []) 100 55 hnt [2, 3, 4] (l := List.replicate 69 { t := [(2, PV.ptr 0 0), (3, PV.int IntKind.i64 b), (4, PV.int IntKind.i64 e)], h := { bx := [{ cs := [PV.int IntKind.i64 (0 : Int), PV.int IntKind.i64 (0 : Int), PV.str { data := #[] }, PV.nil, PV.int IntKind.i64 (0 : Int)], ty := 69 }, { cs := [PV.str s, PV.int IntKind.i64 (Int.ofNat q), PV.int IntKind.i64 e, PV.int IntKind.i64 b], ty := 97 }, { cs := [PV.int IntKind.i64 (ndK x), PV.int IntKind.i64 (ndN x), PV.str (ndT x), PV.slice (Nds.len (ndS x)) (Nds.cells (ndS x)), PV.int IntKind.i64 (ndA x)], ty := 69 }], rw := [] } }) (o := []) (by kernel_rfl) (by ((repeat' (first | exact okO_nil | refine okN ?_ ?_)); all_goals first | assumption | rfl | exact same_of rfl | exact sameS_self _ | (simp only [decide_eq_true_eq, decide_eq_false_iff_not, Nat.ble_eq, Nat.beq_eq, beq_eq_false_iff_ne, beq_iff_eq, ne_eq] <;> omega))) (fun st hst => hK2 st (.norm [2, 3, 4] ?_))
    rw [List.eq_of_mem_replicate hst]
    exact .ret (hf _ rfl)))
  by_cases h0 : e = 0
  · rw [if_pos h0] at eq
    have hb0 : b = 0 := (hin.ok h0).2
    subst h0
    subst hb0
    rcases Nat.lt_or_ge q s.size with hl | hg
    · have d3 : decide ((q : Int) < (s.size : Int)) = true := by rw [decide_eq_true_eq]; omega
      rw [if_pos hl] at eq
      exact SWP.runQ (SOn [(55, [(32, true)])] []) 100 55 hnt [2, 5, 6] (e := .normal) (z := { t := [(2, PV.ptr 0 0), (5, PV.ptr 1 0), (6, PV.ptr 2 0)], h := { bx := [{ cs := [PV.int IntKind.i64 (0 : Int), PV.int IntKind.i64 (0 : Int), PV.str { data := #[] }, PV.nil, PV.int IntKind.i64 (0 : Int)], ty := 69 }, { cs := [PV.str s, PV.int IntKind.i64 (Int.ofNat q), PV.int IntKind.i64 (4 : Int), PV.int IntKind.i64 (Int.ofNat q)], ty := 97 }, { cs := [PV.int IntKind.i64 (ndK x), PV.int IntKind.i64 (ndN x), PV.str (ndT x), PV.slice (Nds.len (ndS x)) (Nds.cells (ndS x)), PV.int IntKind.i64 (ndA x)], ty := 69 }], rw := [] } }) (o := [(decide ((↑q : Int) < (↑(ByteArray.size s) : Int)), true)]) (by kernel_rfl) (by ((repeat' (first | exact okO_nil | refine okN ?_ ?_)); all_goals first | assumption | rfl | exact same_of rfl | exact sameS_self _ | (simp only [decide_eq_true_eq, decide_eq_false_iff_not, Nat.ble_eq, Nat.beq_eq, beq_eq_false_iff_ne, beq_iff_eq, ne_eq] <;> omega))) (bad q 4 q rfl (fun st hst => fin st .zero q 4 .nil [rB s q 4 q, ⟨ndC x, 69⟩] [] eq (.inr (.inl ⟨rfl, rfl⟩)) hst))
    · have d3 : decide ((q : Int) < (s.size : Int)) = false := by rw [decide_eq_false_iff_not]; omega
      rw [if_neg (by omega)] at eq
      refine SWP.runQ (SOn [(55, [(32, false)])] []) 100 55 hnt [2, 5, 6] (e := .normal) (z := { t := [(2, PV.ptr 0 0), (5, PV.ptr 1 0), (6, PV.ptr 2 0)], h := { bx := [{ cs := [PV.int IntKind.i64 (0 : Int), PV.int IntKind.i64 (0 : Int), PV.str { data := #[] }, PV.nil, PV.int IntKind.i64 (0 : Int)], ty := 69 }, { cs := [PV.str s, PV.int IntKind.i64 (Int.ofNat q), PV.int IntKind.i64 (0 : Int), PV.int IntKind.i64 (0 : Int)], ty := 97 }, { cs := [PV.int IntKind.i64 (ndK x), PV.int IntKind.i64 (ndN x), PV.str (ndT x), PV.slice (Nds.len (ndS x)) (Nds.cells (ndS x)), PV.int IntKind.i64 (ndA x)], ty := 69 }], rw := [] } }) (o := [(decide ((↑q : Int) < (↑(ByteArray.size s) : Int)), false)]) (by kernel_rfl) (by ((repeat' (first | exact okO_nil | refine okN ?_ ?_)); all_goals first | assumption | rfl | exact same_of rfl | exact sameS_self _ | (simp only [decide_eq_true_eq, decide_eq_false_iff_not, Nat.ble_eq, Nat.beq_eq, beq_eq_false_iff_ne, beq_iff_eq, ne_eq] <;> omega))) (fun st hst => hK st (.norm [2, 5, 6] ?_))
      rw [hst]
      exact SWP.runQ (SOn [] []) 100 55 hnt [2, 3, 4] (e := .ret) (z := { t := [(2, PV.ptr 0 0), (3, PV.int IntKind.i64 (0 : Int)), (4, PV.int IntKind.i64 (0 : Int))], h := { bx := [{ cs := [PV.int IntKind.i64 (ndK x), PV.int IntKind.i64 (ndN x), PV.str (ndT x), PV.slice (Nds.len (ndS x)) (Nds.cells (ndS x)), PV.int IntKind.i64 (ndA x)], ty := 69 }, { cs := [PV.str s, PV.int IntKind.i64 (Int.ofNat q), PV.int IntKind.i64 (0 : Int), PV.int IntKind.i64 (0 : Int)], ty := 97 }, { cs := [PV.int IntKind.i64 (ndK x), PV.int IntKind.i64 (ndN x), PV.str (ndT x), PV.slice (Nds.len (ndS x)) (Nds.cells (ndS x)), PV.int IntKind.i64 (ndA x)], ty := 69 }], rw := [] } }) (o := []) (by kernel_rfl) (by ((repeat' (first | exact okO_nil | refine okN ?_ ?_)); all_goals first | assumption | rfl | exact same_of rfl | exact sameS_self _ | (simp only [decide_eq_true_eq, decide_eq_false_iff_not, Nat.ble_eq, Nat.beq_eq, beq_eq_false_iff_ne, beq_iff_eq, ne_eq] <;> omega))) (fun st hst => fin st x 0 0 (.slice (ndS x).len (ndS x).cells) [rB s q 0 0, ⟨ndC x, 69⟩] [] eq (.inl rfl) hst)
  · rw [if_neg h0] at eq
    have d3 : (e == (0 : Int)) = false := beqF h0
    have d4 : (!e == (0 : Int)) = true := by rw [beqF h0]; rfl
    exact SWP.runQ (SOn [(55, [(24, false)])] []) 100 55 hnt [2, 5, 6] (e := .normal) (z := { t := [(2, PV.ptr 0 0), (5, PV.ptr 1 0), (6, PV.ptr 2 0)], h := { bx := [{ cs := [PV.int IntKind.i64 (0 : Int), PV.int IntKind.i64 (0 : Int), PV.str { data := #[] }, PV.nil, PV.int IntKind.i64 (0 : Int)], ty := 69 }, { cs := [PV.str s, PV.int IntKind.i64 (Int.ofNat q), PV.int IntKind.i64 e, PV.int IntKind.i64 b], ty := 97 }, { cs := [PV.int IntKind.i64 (ndK x), PV.int IntKind.i64 (ndN x), PV.str (ndT x), PV.slice (Nds.len (ndS x)) (Nds.cells (ndS x)), PV.int IntKind.i64 (ndA x)], ty := 69 }], rw := [] } }) (o := [(e == (0 : Int), false)]) (by kernel_rfl) (by ((repeat' (first | exact okO_nil | refine okN ?_ ?_)); all_goals first | assumption | rfl | exact same_of rfl | exact sameS_self _ | (simp only [decide_eq_true_eq, decide_eq_false_iff_not, Nat.ble_eq, Nat.beq_eq, beq_eq_false_iff_ne, beq_iff_eq, ne_eq] <;> omega))) (bad q e b d4 (fun st hst => fin st .zero b e .nil [rB s q e b, ⟨ndC x, 69⟩] [] eq (.inr (.inl ⟨rfl, rfl⟩)) hst))
end Seat
end Go.Proofs.YtenpjkcclmmlhaaDoor
/- The document's reader: Read. Printed by dev/rd7.py and dev/nfsub.py (this session's). -/
namespace Go.Proofs.YtenpjkcclmmlhaaDoor
open Go.AS Go.RowKit
set_option linter.unusedVariables false
set_option linter.unusedSimpArgs false
set_option maxRecDepth 100000
set_option maxHeartbeats 4000000
namespace Seat
def onX (s : ByteArray) : Nd := (oneR s).1
def onA (s : ByteArray) : Int := (oneR s).2.1
def onE (s : ByteArray) : Int := (oneR s).2.2
open Classical in
noncomputable def isNdo (m : Nat) (cs : List PV) : Bool := decide (∃ ks : Nds, ks.len = m ∧ ks.cells = cs ∧ ks.len ≤ 1099511627777 ∧ ks.ok)
theorem isNdo_at {ks : Nds} (hl : ks.len ≤ 1099511627777) (ho : ks.ok) : isNdo ks.len ks.cells = true := by
  unfold isNdo
  classical exact decide_eq_true ⟨ks, rfl, rfl, hl, ho⟩
theorem isNdo_of {m : Nat} {cs : List PV} (h : isNdo m cs = true) : ∃ ks : Nds, ks.len = m ∧ ks.cells = cs ∧ ks.len ≤ 1099511627777 ∧ ks.ok := by
  unfold isNdo at h
  classical exact of_decide_eq_true h
noncomputable def rrS (f : Nat) (args : List PV) : Option (PV × Ob) := match f, args with
  | 38, [.str s] => some (.tup [.agg (ndC (onX s)), .int .i64 (onA s), .int .i64 (onE s)], [])
  | 39, [.agg [.int .i64 k, .int .i64 n, .str t, .slice m cs, .int .i64 a]] => some (.agg [.int .i64 k, .int .i64 n, .str t, .slice m (ndD cs).cells], [(isNdo m cs, true)])
  | _, _ => none
theorem rrS_ok (f : Nat) (args : List PV) (r : PV) (o : Ob) (h : rrS f args = some (r, o)) (ho : ∀ p ∈ o, p.1 = p.2) (_ : pureL args = true) : Pure G0 f args (fun x => x = r) := by
  unfold rrS at h
  split at h
  · cases h
    exact one_ok _
  · rename_i k n t m cs a _
    cases h
    obtain ⟨ks, rfl, rfl, h2, h3⟩ := isNdo_of (ho (isNdo m cs, true) (List.mem_singleton.2 rfl))
    rw [ndD_at]
    exact dt_at (ks.size + 1) k n t ks a (Nat.lt_succ_self _) h2 h3
  · cases h
noncomputable def SRr (l : List (Nat × List (Nat × Bool))) (v : List (Nat × List (Nat × PV))) : Cfg G0 := { F := F, hF := hF, S := rrS, hS := rrS_ok, orc := orcM l, val := valM v }
theorem Nds.snoc_ok : ∀ (l : Nds) (x : Nd), l.ok → x.ok → (l.snoc x).ok
  | .nil, x, _, hx => ⟨hx, trivial⟩
  | .cons d ds, x, h, hx => ⟨h.1, Nds.snoc_ok ds x h.2 hx⟩
theorem rdL_ok {f : Nat → Nd × RS} {s : ByteArray} (hf : ∀ a, (f a).1.ok) : ∀ k r l, l.ok → (rdL f s k r l).1.ok
  | 0, r, l, h => h
  | k + 1, r, l, h => by
    rw [rdL]
    split
    · exact rdL_ok hf k _ _ (Nds.snoc_ok l _ h (hf r.a))
    · exact h
theorem rdL_len {f : Nat → Nd × RS} {s : ByteArray} : ∀ k r l, (rdL f s k r l).1.len ≤ l.len + k
  | 0, r, l => Nat.le_refl _
  | k + 1, r, l => by
    rw [rdL]
    split
    · have := rdL_len (f := f) (s := s) k ⟨skp s (f r.a).2.a, (f r.a).2.e, (f r.a).2.b⟩ (l.snoc (f r.a).1)
      rw [Nds.snoc_len] at this
      omega
    · show l.len ≤ _; omega
theorem Nd.zero_ok : Nd.zero.ok := ⟨Nat.zero_le _, trivial⟩
theorem atomR_ok (s : ByteArray) (a : Nat) : (atomR s a).1.ok := by
  unfold atomR
  split
  · exact ⟨Nat.zero_le _, trivial⟩
  · split
    · exact ⟨Nat.zero_le _, trivial⟩
    · exact Nd.zero_ok
theorem rdD_ok (s : ByteArray) (hs : s.size ≤ 1099511627776) : ∀ n a, (rdD s n a).1.ok := by
  intro n
  induction n with
  | zero =>
    intro a
    rw [rdD_eq]
    split
    · exact Nd.zero_ok
    · split
      · exact Nd.zero_ok
      · exact Nd.zero_ok
  | succ n ih =>
    intro a
    rw [rdD_eq]
    split
    · exact Nd.zero_ok
    · split
      · exact Nd.zero_ok
      · simp only []
        split
        · exact Nd.zero_ok
        · split
          · exact atomR_ok s a
          · split
            · exact ⟨by simp [Nds.len], ⟨Nat.zero_le _, trivial⟩, ih _, trivial⟩
            · refine ⟨?_, rdL_ok ih _ _ _ trivial⟩
              have := rdL_len (f := rdD s n) (s := s) (s.size + 1) ⟨skp s (a + 1), 0, 0⟩ .nil
              simp only [Nds.len] at this
              omega
theorem onX_ok (s : ByteArray) : (onX s).ok := by
  unfold onX oneR
  split
  · exact Nd.zero_ok
  · split
    · split
      · exact Nd.zero_ok
      · exact rdD_ok s (by omega) _ _
    · exact Nd.zero_ok
def readD (s : ByteArray) : Dat := if onE s = 0 then (onX s).dat else .mk 0 0 ⟨#[]⟩ .nil
theorem onA_zero (s : ByteArray) (h : onE s = 0) : onA s = 0 := by
  unfold onE oneR at h
  unfold onA oneR
  split at h
  · exact absurd h n3
  · rename_i h1
    rw [if_neg h1]
    split at h
    · rename_i h2
      rw [if_pos h2]
      split at h
      · exact absurd h n4
      · rename_i h3
        rw [if_neg h3]
    · rename_i h2
      exact absurd h h2
theorem read_ok (s : ByteArray) : Pure G0 16 [.str s] (fun r => r = .tup [.agg (readD s).cells, .int .i64 (onA s), .int .i64 (onE s)]) := by
  by_cases h0 : onE s = 0
  · have hrd : readD s = (onX s).dat := by rw [readD, if_pos h0]
    refine Fn.enterB Tryd.func16 Tryd.ntmps16 rfl (Nat.le_of_ble_eq_true rfl) fun C fr fp hnt hnb hp hfr hfp => ?_
    refine Q.runSeq (SRr [] []) 100 21 hnt [0, 2, 3, 4] (z := { t := [(0, PV.str s), (2, PV.ptr 0 0), (3, PV.int IntKind.i64 (0 : Int)), (4, PV.int IntKind.i64 (0 : Int))], h := { bx := [{ cs := [PV.int IntKind.i64 (0 : Int), PV.int IntKind.i64 (0 : Int), PV.str { data := #[] }, PV.nil], ty := 25 }], rw := [] } }) (o := []) (by kernel_rfl) (by ((repeat' (first | exact okO_nil | refine okN ?_ ?_)); all_goals first | assumption | rfl | exact same_of rfl | exact sameS_self _ | (simp only [decide_eq_true_eq, decide_eq_false_iff_not, Nat.ble_eq, Nat.beq_eq, beq_eq_false_iff_ne, beq_iff_eq, ne_eq] <;> omega))) ?_
    refine Q.runSeq (SRr [] []) 100 21 hnt [2, 5, 6, 7] (z := { t := [(2, PV.ptr 0 0), (5, PV.ptr 1 0), (6, PV.int IntKind.i64 (onA s)), (7, PV.int IntKind.i64 (onE s))], h := { bx := [{ cs := [PV.int IntKind.i64 (0 : Int), PV.int IntKind.i64 (0 : Int), PV.str { data := #[] }, PV.nil], ty := 25 }, { cs := [PV.int IntKind.i64 (ndK (onX s)), PV.int IntKind.i64 (ndN (onX s)), PV.str (ndT (onX s)), PV.slice (Nds.len (ndS (onX s))) (Nds.cells (ndS (onX s))), PV.int IntKind.i64 (ndA (onX s))], ty := 69 }], rw := [] } }) (o := [(true, true)]) (by kernel_rfl) (by ((repeat' (first | exact okO_nil | refine okN ?_ ?_)); all_goals first | assumption | rfl | exact same_of rfl | exact sameS_self _ | (simp only [decide_eq_true_eq, decide_eq_false_iff_not, Nat.ble_eq, Nat.beq_eq, beq_eq_false_iff_ne, beq_iff_eq, ne_eq] <;> omega))) ?_
    obtain ⟨x, hx⟩ : ∃ x, x = onX s := ⟨_, rfl⟩
    obtain ⟨a, ha⟩ : ∃ x, x = onA s := ⟨_, rfl⟩
    obtain ⟨e, he⟩ : ∃ x, x = onE s := ⟨_, rfl⟩
    have hok := onX_ok s
    have ha0 := onA_zero s h0
    rw [← hx] at hok hrd
    rw [← ha, ← he, hrd] at hfr
    rw [← ha] at ha0
    rw [← he] at h0
    rw [← hx, ← ha, ← he]
    subst ha0
    have d1 : (!e == (0 : Int)) = false := by rw [h0]; rfl
    obtain ⟨k, n, t, ks, q⟩ := x
    have d2 : isNdo (ndS (Nd.mk k n t ks q)).len (ndS (Nd.mk k n t ks q)).cells = true := isNdo_at hok.1 hok.2
    obtain ⟨x, hx2⟩ : ∃ x, x = Nd.mk k n t ks q := ⟨_, rfl⟩
    rw [← hx2] at d2 ⊢
    refine SWP.runQ (SRr [(21, [(15, false)])] []) 100 21 hnt [2, 3, 4] (e := .ret) (z := { t := [(2, PV.ptr 0 0), (3, PV.int IntKind.i64 (0 : Int)), (4, PV.int IntKind.i64 (0 : Int))], h := { bx := [{ cs := [PV.int IntKind.i64 (ndK x), PV.int IntKind.i64 (ndN x), PV.str (ndT x), PV.slice (Nds.len (ndS x)) (Dats.cells (ndD (Nds.cells (ndS x))))], ty := 25 }, { cs := [PV.int IntKind.i64 (ndK x), PV.int IntKind.i64 (ndN x), PV.str (ndT x), PV.slice (Nds.len (ndS x)) (Nds.cells (ndS x)), PV.int IntKind.i64 (ndA x)], ty := 69 }], rw := [] } }) (o := [(!e == (0 : Int), false), (false, false), (true, true), (isNdo (Nds.len (ndS x)) (Nds.cells (ndS x)), true)]) (by kernel_rfl) (by ((repeat' (first | exact okO_nil | refine okN ?_ ?_)); all_goals first | assumption | rfl | exact same_of rfl | exact sameS_self _ | (simp only [decide_eq_true_eq, decide_eq_false_iff_not, Nat.ble_eq, Nat.beq_eq, beq_eq_false_iff_ne, beq_iff_eq, ne_eq] <;> omega))) (fun st hst => hfr st [2, 3, 4] ?_)
    rw [hst, hx2, h0]
    refine ⟨0, .tup [.agg [.int .i64 k, .int .i64 n, .str t, .slice ks.len (ndD ks.cells).cells], .int .i64 0, .int .i64 0], Nat.le_refl _, Nat.zero_le _, rfl, rfl, rfl, rfl, _, rfl, ?_⟩
    rw [ndD_at]
    simp only [Nd.dat, Dat.cells, Nds.dat_len]
  · have hrd : (readD s).cells = [.int .i64 0, .int .i64 0, .str ⟨#[]⟩, .slice 0 []] := by rw [readD, if_neg h0]; rfl
    rw [hrd]
    refine Pure.weak (fun E w v => VRep.tnil0) ?_
    refine Fn.enterB Tryd.func16 Tryd.ntmps16 rfl (Nat.le_of_ble_eq_true rfl) fun C fr fp hnt hnb hp hfr hfp => ?_
    refine Q.runSeq (SRr [] []) 100 21 hnt [0, 2, 3, 4] (z := { t := [(0, PV.str s), (2, PV.ptr 0 0), (3, PV.int IntKind.i64 (0 : Int)), (4, PV.int IntKind.i64 (0 : Int))], h := { bx := [{ cs := [PV.int IntKind.i64 (0 : Int), PV.int IntKind.i64 (0 : Int), PV.str { data := #[] }, PV.nil], ty := 25 }], rw := [] } }) (o := []) (by kernel_rfl) (by ((repeat' (first | exact okO_nil | refine okN ?_ ?_)); all_goals first | assumption | rfl | exact same_of rfl | exact sameS_self _ | (simp only [decide_eq_true_eq, decide_eq_false_iff_not, Nat.ble_eq, Nat.beq_eq, beq_eq_false_iff_ne, beq_iff_eq, ne_eq] <;> omega))) ?_
    refine Q.runSeq (SRr [] []) 100 21 hnt [2, 5, 6, 7] (z := { t := [(2, PV.ptr 0 0), (5, PV.ptr 1 0), (6, PV.int IntKind.i64 (onA s)), (7, PV.int IntKind.i64 (onE s))], h := { bx := [{ cs := [PV.int IntKind.i64 (0 : Int), PV.int IntKind.i64 (0 : Int), PV.str { data := #[] }, PV.nil], ty := 25 }, { cs := [PV.int IntKind.i64 (ndK (onX s)), PV.int IntKind.i64 (ndN (onX s)), PV.str (ndT (onX s)), PV.slice (Nds.len (ndS (onX s))) (Nds.cells (ndS (onX s))), PV.int IntKind.i64 (ndA (onX s))], ty := 69 }], rw := [] } }) (o := [(true, true)]) (by kernel_rfl) (by ((repeat' (first | exact okO_nil | refine okN ?_ ?_)); all_goals first | assumption | rfl | exact same_of rfl | exact sameS_self _ | (simp only [decide_eq_true_eq, decide_eq_false_iff_not, Nat.ble_eq, Nat.beq_eq, beq_eq_false_iff_ne, beq_iff_eq, ne_eq] <;> omega))) ?_
    obtain ⟨x, hx⟩ : ∃ x, x = onX s := ⟨_, rfl⟩
    obtain ⟨a, ha⟩ : ∃ x, x = onA s := ⟨_, rfl⟩
    obtain ⟨e, he⟩ : ∃ x, x = onE s := ⟨_, rfl⟩
    rw [← ha, ← he] at hfr
    rw [← he] at h0
    rw [← hx, ← ha, ← he]
    have d1 : (!e == (0 : Int)) = true := by rw [beqF h0]; rfl
    refine SWP.runQ (SRr [(21, [(15, true)])] []) 100 21 hnt [2, 3, 4] (e := .ret) (z := { t := [(2, PV.ptr 0 0), (3, PV.int IntKind.i64 a), (4, PV.int IntKind.i64 e)], h := { bx := [{ cs := [PV.int IntKind.i64 (0 : Int), PV.int IntKind.i64 (0 : Int), PV.str { data := #[] }, PV.nil], ty := 25 }, { cs := [PV.int IntKind.i64 (ndK x), PV.int IntKind.i64 (ndN x), PV.str (ndT x), PV.slice (Nds.len (ndS x)) (Nds.cells (ndS x)), PV.int IntKind.i64 (ndA x)], ty := 69 }], rw := [] } }) (o := [(!e == (0 : Int), true), (true, true)]) (by kernel_rfl) (by ((repeat' (first | exact okO_nil | refine okN ?_ ?_)); all_goals first | assumption | rfl | exact same_of rfl | exact sameS_self _ | (simp only [decide_eq_true_eq, decide_eq_false_iff_not, Nat.ble_eq, Nat.beq_eq, beq_eq_false_iff_ne, beq_iff_eq, ne_eq] <;> omega))) (fun st hst => hfr st [2, 3, 4] ?_)
    rw [hst]
    exact ⟨0, .tup [.agg [.int .i64 0, .int .i64 0, .str ⟨#[]⟩, .nil], .int .i64 a, .int .i64 e], Nat.le_refl _, Nat.zero_le _, rfl, rfl, rfl, rfl, _, rfl, rfl⟩
end Seat
end Go.Proofs.YtenpjkcclmmlhaaDoor
/- Text: the document's numbers. -/
namespace Go.Proofs.YtenpjkcclmmlhaaDoor
open Go.AS
set_option linter.unusedVariables false
set_option maxRecDepth 100000
namespace Seat
def DecAt (N : Nat) : Prop := ∀ n : Nat, n < N → n < 18446744073709551616 → Pure G0 86 [.int .u64 n] (fun r => r = .str (mkS (Go.Lib.decDigits n)))
def decS (N : Nat) (f : Nat) (args : List PV) : Option (PV × Ob) := match f, args with
  | 86, [.int .u64 z] => some (.str (mkS (Go.Lib.decDigits z.toNat)), [(decide (0 ≤ z ∧ z < (N : Int) ∧ z < 18446744073709551616), true)])
  | _, _ => none
theorem decS_ok {N : Nat} (ih : DecAt N) (f : Nat) (args : List PV) (r : PV) (o : Ob) (h : decS N f args = some (r, o)) (ho : ∀ p ∈ o, p.1 = p.2) (_ : pureL args = true) : Pure G0 f args (fun x => x = r) := by
  unfold decS at h
  split at h
  · rename_i z _
    cases h
    have hz := of_decide_eq_true (ho _ (List.mem_singleton.2 rfl))
    have := ih z.toNat (by omega) (by omega)
    rw [Int.toNat_of_nonneg hz.1] at this
    exact this
  · cases h
noncomputable def SD {N : Nat} (ih : DecAt N) (l : List (Nat × List (Nat × Bool))) : Cfg G0 := { F := F, hF := hF, S := decS N, hS := decS_ok ih, orc := orcM l }
theorem nd_le : ∀ (k u : Nat), u < 10 ^ (k + 1) → Go.Lib.nDigits u ≤ k + 1
  | 0, u, h => by rw [Go.Lib.nDigits_small (by simpa using h)]; exact Nat.le_refl _
  | k + 1, u, h => by
    by_cases hu : u < 10
    · rw [Go.Lib.nDigits_small hu]; omega
    · rw [Go.Lib.nDigits_big hu]
      have := nd_le k (u / 10) (by rw [Nat.pow_succ] at h; omega)
      omega
theorem dec_len (n : Nat) : (Go.Lib.decDigits n).length ≤ n + 1 := by
  induction n using Nat.strongRecOn with
  | _ n ih =>
    rw [Go.Lib.decDigits]
    split
    · simp
    · have := ih (n / 10) (by omega)
      simp only [List.length_append, List.length_cons, List.length_nil]
      omega
theorem byte_mod (m : Nat) (h : m < 10) : UInt8.ofNat (Int.ofNat ((48 + m) % 18446744073709551616 % 256)).toNat = UInt8.ofNat (48 + m) := by
  have h1 : (48 + m) % 18446744073709551616 % 256 = 48 + m := by omega
  rw [h1]; rfl
theorem strOf_byte (m : Nat) (h : m < 10) : strOf [PV.int IntKind.u8 (Int.ofNat ((48 + m) % 18446744073709551616 % 256))] = mkS [UInt8.ofNat (48 + m)] := by
  show mkS [UInt8.ofNat (Int.ofNat ((48 + m) % 18446744073709551616 % 256)).toNat] = _
  rw [byte_mod m h]
theorem decAt (N : Nat) : DecAt N := by
  induction N with
  | zero => intro n h; omega
  | succ N ih =>
    intro n hN hb
    refine Fn.enterB Tryd.func86 Tryd.ntmps86 rfl (Nat.le_of_ble_eq_true rfl) fun C fr fp hnt hnb hp hfr hfp => ?_
    by_cases h10 : n < 10
    · have c : decide ((n : Int) < 10) = true := decide_eq_true (by omega)
      refine SWP.runQ (SD ih [(20, [(4, true)])]) 60 20 hnt [2] (e := .ret) (z := { t := [(2, PV.str (strOf [PV.int IntKind.u8 (Int.ofNat ((48 + n) % 18446744073709551616 % 256))]))], h := { bx := [], rw := [] } }) (o := [(decide ((↑n : Int) < 10), true), (true, true)]) (by kernel_rfl) (by ((repeat' (first | exact okO_nil | refine okN ?_ ?_)); all_goals first | assumption | rfl | exact same_of rfl | exact sameS_self _ | (simp only [decide_eq_true_eq, decide_eq_false_iff_not, Nat.ble_eq, Nat.beq_eq, beq_eq_false_iff_ne, beq_iff_eq, ne_eq] <;> omega))) (fun st hs => hfr st [2] ?_)
      rw [hs]
      refine FinR.pure (r := .str (strOf [PV.int IntKind.u8 (Int.ofNat ((48 + n) % 18446744073709551616 % 256))])) rfl rfl ?_
      rw [Go.Lib.decDigits, dif_pos h10, strOf_byte n h10]
    · have c : decide ((n : Int) < 10) = false := decide_eq_false (by omega)
      have e1 : IntKind.wrap IntKind.u64 (Int.tdiv (n : Int) 10) = ((n / 10 : Nat) : Int) := by
        rw [show Int.tdiv (n : Int) 10 = ((n / 10 : Nat) : Int) from rfl, IntKind.wrap_u64]
        omega
      have e2 : n / 10 % 18446744073709551616 = n / 10 := by omega
      have d1 : decide (0 ≤ IntKind.wrap IntKind.u64 (Int.tdiv (n : Int) 10) ∧ IntKind.wrap IntKind.u64 (Int.tdiv (n : Int) 10) < (N : Int) ∧ IntKind.wrap IntKind.u64 (Int.tdiv (n : Int) 10) < 18446744073709551616) = true := decide_eq_true (by rw [e1]; omega)
      have d2 : Nat.ble (ByteArray.size (mkS (Lib.decDigits (Int.toNat (Int.ofNat (n / 10 % 18446744073709551616))))) + 1) 9223372036854775807 = true := by
        rw [e2, Nat.ble_eq, mkS_size]
        have := dec_len (n / 10)
        rw [show (Int.ofNat (n / 10)).toNat = n / 10 from rfl]
        omega
      refine SWP.runQ (SD ih [(20, [(4, false), (19, true)])]) 60 20 hnt [2] (e := .ret) (z := { t := [(2, PV.str (mkS (Lib.decDigits (Int.toNat (Int.ofNat (n / 10 % 18446744073709551616)))) ++ strOf [PV.int IntKind.u8 (Int.ofNat ((48 + n % 10) % 18446744073709551616 % 256))]))], h := { bx := [], rw := [] } }) (o := [(decide ((↑n : Int) < 10), false), (false, false), (true, true), (decide (0 ≤ IntKind.wrap IntKind.u64 (Int.tdiv (↑n : Int) 10) ∧ IntKind.wrap IntKind.u64 (Int.tdiv (↑n : Int) 10) < (↑N : Int) ∧ IntKind.wrap IntKind.u64 (Int.tdiv (↑n : Int) 10) < 18446744073709551616), true), (Nat.ble (ByteArray.size (mkS (Lib.decDigits (Int.toNat (Int.ofNat (n / 10 % 18446744073709551616))))) + 1) 9223372036854775807, true), (true, true), (decide (0 ≤ IntKind.wrap IntKind.u64 (Int.tdiv (↑n : Int) 10) ∧ IntKind.wrap IntKind.u64 (Int.tdiv (↑n : Int) 10) < (↑N : Int) ∧ IntKind.wrap IntKind.u64 (Int.tdiv (↑n : Int) 10) < 18446744073709551616), true), (Nat.ble (ByteArray.size (mkS (Lib.decDigits (Int.toNat (Int.ofNat (n / 10 % 18446744073709551616))))) + 1) 9223372036854775807, true), (sameS { t := [(10, PV.int IntKind.u64 (Int.ofNat n)), (11, PV.int IntKind.u64 (Int.ofNat (n / 10 % 18446744073709551616))), (12, PV.str (mkS (Lib.decDigits (Int.toNat (Int.ofNat (n / 10 % 18446744073709551616)))))), (13, PV.int IntKind.u64 (Int.ofNat n)), (14, PV.int IntKind.u64 (Int.ofNat (n % 10))), (15, PV.int IntKind.u64 (Int.ofNat ((48 + n % 10) % 18446744073709551616))), (16, PV.int IntKind.u8 (Int.ofNat ((48 + n % 10) % 18446744073709551616 % 256))), (17, PV.slice 1 [PV.int IntKind.u8 (Int.ofNat ((48 + n % 10) % 18446744073709551616 % 256))]), (18, PV.str (strOf [PV.int IntKind.u8 (Int.ofNat ((48 + n % 10) % 18446744073709551616 % 256))])), (19, PV.str (mkS (Lib.decDigits (Int.toNat (Int.ofNat (n / 10 % 18446744073709551616)))) ++ strOf [PV.int IntKind.u8 (Int.ofNat ((48 + n % 10) % 18446744073709551616 % 256))])), (2, PV.str (mkS (Lib.decDigits (Int.toNat (Int.ofNat (n / 10 % 18446744073709551616)))) ++ strOf [PV.int IntKind.u8 (Int.ofNat ((48 + n % 10) % 18446744073709551616 % 256))])), (4, PV.bool false), (4, PV.bool false), (3, PV.int IntKind.u64 (Int.ofNat n)), (2, PV.str (mkS (Lib.decDigits (Int.toNat (Int.ofNat (n / 10 % 18446744073709551616)))) ++ strOf [PV.int IntKind.u8 (Int.ofNat ((48 + n % 10) % 18446744073709551616 % 256))])), (0, PV.int IntKind.u64 (Int.ofNat n))], h := { bx := [], rw := [] } } { t := [(10, PV.int IntKind.u64 (Int.ofNat n)), (11, PV.int IntKind.u64 (Int.ofNat (n / 10 % 18446744073709551616))), (12, PV.str (mkS (Lib.decDigits (Int.toNat (Int.ofNat (n / 10 % 18446744073709551616)))))), (13, PV.int IntKind.u64 (Int.ofNat n)), (14, PV.int IntKind.u64 (Int.ofNat (n % 10))), (15, PV.int IntKind.u64 (Int.ofNat ((48 + n % 10) % 18446744073709551616))), (16, PV.int IntKind.u8 (Int.ofNat ((48 + n % 10) % 18446744073709551616 % 256))), (17, PV.slice 1 [PV.int IntKind.u8 (Int.ofNat ((48 + n % 10) % 18446744073709551616 % 256))]), (18, PV.str (strOf [PV.int IntKind.u8 (Int.ofNat ((48 + n % 10) % 18446744073709551616 % 256))])), (19, PV.str (mkS (Lib.decDigits (Int.toNat (Int.ofNat (n / 10 % 18446744073709551616)))) ++ strOf [PV.int IntKind.u8 (Int.ofNat ((48 + n % 10) % 18446744073709551616 % 256))])), (2, PV.str (mkS (Lib.decDigits (Int.toNat (Int.ofNat (n / 10 % 18446744073709551616)))) ++ strOf [PV.int IntKind.u8 (Int.ofNat ((48 + n % 10) % 18446744073709551616 % 256))])), (4, PV.bool false), (4, PV.bool false), (3, PV.int IntKind.u64 (Int.ofNat n)), (2, PV.str (mkS (Lib.decDigits (Int.toNat (Int.ofNat (n / 10 % 18446744073709551616)))) ++ strOf [PV.int IntKind.u8 (Int.ofNat ((48 + n % 10) % 18446744073709551616 % 256))])), (0, PV.int IntKind.u64 (Int.ofNat n))], h := { bx := [], rw := [] } }, true)]) (by kernel_rfl) (by ((repeat' (first | exact okO_nil | refine okN ?_ ?_)); all_goals first | assumption | rfl | exact same_of rfl | exact sameS_self _ | (simp only [decide_eq_true_eq, decide_eq_false_iff_not, Nat.ble_eq, Nat.beq_eq, beq_eq_false_iff_ne, beq_iff_eq, ne_eq] <;> omega))) (fun st hs => hfr st [2] ?_)
      rw [hs]
      have key : mkS (Lib.decDigits (Int.toNat (Int.ofNat (n / 10 % 18446744073709551616)))) ++ strOf [PV.int IntKind.u8 (Int.ofNat ((48 + n % 10) % 18446744073709551616 % 256))] = mkS (Lib.decDigits n) := by
        rw [strOf_byte (n % 10) (by omega), mkS_append, e2]
        conv => rhs; rw [Go.Lib.decDigits, dif_neg h10]
        rfl
      exact FinR.pure rfl rfl (congrArg PV.str key)
theorem dec_ref (n : Int) (h0 : -9223372036854775808 ≤ n) (h1 : n ≤ 9223372036854775807) : Pure G0 66 [.int .i64 n] (fun r => r = .str (mkS (Go.Lib.itoa n))) := by
  have ih := decAt 18446744073709551616
  refine Fn.enterB Tryd.func66 Tryd.ntmps66 rfl (Nat.le_of_ble_eq_true rfl) fun C fr fp hnt hnb hp hfr hfp => ?_
  by_cases hn : n < 0
  · have c : decide (n < 0) = true := decide_eq_true hn
    have e1 : IntKind.wrap IntKind.u64 (0 - IntKind.wrap IntKind.u64 n) = -n := by
      rw [IntKind.wrap_u64, IntKind.wrap_u64]
      omega
    have d1 : decide (0 ≤ IntKind.wrap IntKind.u64 (0 - IntKind.wrap IntKind.u64 n) ∧ IntKind.wrap IntKind.u64 (0 - IntKind.wrap IntKind.u64 n) < ((18446744073709551616 : Nat) : Int) ∧ IntKind.wrap IntKind.u64 (0 - IntKind.wrap IntKind.u64 n) < 18446744073709551616) = true := decide_eq_true (by rw [e1]; omega)
    have d2 : Nat.ble (1 + ByteArray.size (mkS (Lib.decDigits (Int.toNat (IntKind.wrap IntKind.u64 ((0 : Int) - IntKind.wrap IntKind.u64 n)))))) 9223372036854775807 = true := by
      rw [e1, Nat.ble_eq, mkS_size, Go.Lib.decDigits_length]
      have := nd_le 19 (-n).toNat (by omega)
      omega
    refine SWP.runQ (SD ih [(13, [(4, true), (9, true)])]) 60 13 hnt [2] (e := .ret) (z := { t := [(2, PV.str ({ data := #[45] } ++ mkS (Lib.decDigits (Int.toNat (IntKind.wrap IntKind.u64 ((0 : Int) - IntKind.wrap IntKind.u64 n))))))], h := { bx := [], rw := [] } }) (o := [(decide (n < 0), true), (true, true), (true, true), (decide (0 ≤ IntKind.wrap IntKind.u64 (0 - IntKind.wrap IntKind.u64 n) ∧ IntKind.wrap IntKind.u64 (0 - IntKind.wrap IntKind.u64 n) < ((18446744073709551616 : Nat) : Int) ∧ IntKind.wrap IntKind.u64 (0 - IntKind.wrap IntKind.u64 n) < 18446744073709551616), true), (Nat.ble (1 + ByteArray.size (mkS (Lib.decDigits (Int.toNat (IntKind.wrap IntKind.u64 ((0 : Int) - IntKind.wrap IntKind.u64 n)))))) 9223372036854775807, true)]) (by kernel_rfl) (by ((repeat' (first | exact okO_nil | refine okN ?_ ?_)); all_goals first | assumption | rfl | exact same_of rfl | exact sameS_self _ | (simp only [decide_eq_true_eq, decide_eq_false_iff_not, Nat.ble_eq, Nat.beq_eq, beq_eq_false_iff_ne, beq_iff_eq, ne_eq] <;> omega))) (fun st hs => hfr st [2] ?_)
    rw [hs]
    refine FinR.pure rfl rfl ?_
    rw [e1, Go.Lib.itoa, if_pos hn]
    have : (-n).toNat = n.natAbs := by omega
    rw [this]
    exact congrArg PV.str (mkS_append [45] _)
  · have c : decide (n < 0) = false := decide_eq_false hn
    have e1 : IntKind.wrap IntKind.u64 n = n := by rw [IntKind.wrap_u64]; omega
    have d1 : decide (0 ≤ IntKind.wrap IntKind.u64 n ∧ IntKind.wrap IntKind.u64 n < ((18446744073709551616 : Nat) : Int) ∧ IntKind.wrap IntKind.u64 n < 18446744073709551616) = true := decide_eq_true (by rw [e1]; omega)
    refine SWP.runQ (SD ih [(13, [(4, false), (9, true)])]) 60 13 hnt [2] (e := .ret) (z := { t := [(2, PV.str (mkS (Lib.decDigits (Int.toNat (IntKind.wrap IntKind.u64 n)))))], h := { bx := [], rw := [] } }) (o := [(decide (n < 0), false), (false, false), (true, true), (decide (0 ≤ IntKind.wrap IntKind.u64 n ∧ IntKind.wrap IntKind.u64 n < ((18446744073709551616 : Nat) : Int) ∧ IntKind.wrap IntKind.u64 n < 18446744073709551616), true)]) (by kernel_rfl) (by ((repeat' (first | exact okO_nil | refine okN ?_ ?_)); all_goals first | assumption | rfl | exact same_of rfl | exact sameS_self _ | (simp only [decide_eq_true_eq, decide_eq_false_iff_not, Nat.ble_eq, Nat.beq_eq, beq_eq_false_iff_ne, beq_iff_eq, ne_eq] <;> omega))) (fun st hs => hfr st [2] ?_)
    rw [hs]
    refine FinR.pure rfl rfl ?_
    rw [e1, Go.Lib.itoa, if_neg hn]
    rfl
end Seat
end Go.Proofs.YtenpjkcclmmlhaaDoor
/- Text: the written form of a datum, as the program writes it. -/
namespace Go.Proofs.YtenpjkcclmmlhaaDoor
open Go.AS Go.RowKit
set_option linter.unusedVariables false
set_option linter.unusedSimpArgs false
set_option maxRecDepth 100000
namespace Seat
mutual
/-- The written form. -/
def textD : Dat → List UInt8
  | .mk k n s ks => if k = 1 then Go.Lib.itoa n else if k = 2 then s.data.toList else 40 :: (textL true ks ++ [41])
def textL : Bool → Dats → List UInt8
  | _, .nil => []
  | f, .cons d ds => (if f then [] else [32]) ++ (textD d ++ textL false ds)
end
theorem textL_take : ∀ (ks : Dats) (f : Bool) (j : Nat), j < ks.len → textL f (ks.take (j + 1)) = textL f (ks.take j) ++ ((if j = 0 ∧ f = true then [] else [32]) ++ textD (ks.get j))
  | .nil, f, j, h => by simp [Dats.len] at h
  | .cons d ds, f, 0, h => by cases f <;> simp [Dats.take, textL, Dats.get]
  | .cons d ds, f, j + 1, h => by
    have := textL_take ds false j (by simp only [Dats.len] at h; omega)
    simp only [Dats.take, textL, this, Dats.get]
    simp
theorem take_all : ∀ ks : Dats, ks.take ks.len = ks
  | .nil => rfl
  | .cons d ds => by simp only [Dats.len, Dats.take, take_all ds]
theorem textL_mono (ks : Dats) (f : Bool) (j : Nat) (h : j ≤ ks.len) : (textL f (ks.take j)).length ≤ (textL f ks).length := by
  have key : ∀ i, j + i ≤ ks.len → (textL f (ks.take j)).length ≤ (textL f (ks.take (j + i))).length := by
    intro i
    induction i with
    | zero => intro _; exact Nat.le_refl _
    | succ i ih =>
      intro hi
      have h1 := ih (by omega)
      have h2 := textL_take ks f (j + i) (by omega)
      rw [show j + (i + 1) = j + i + 1 from rfl, h2, List.length_append]
      omega
  have := key (ks.len - j) (by omega)
  rwa [show j + (ks.len - j) = ks.len by omega, take_all] at this
noncomputable def txC (cs : List PV) : List UInt8 := ofCells textD [] cs
theorem txC_at (d : Dat) : txC d.cells = textD d := ofCells_at _ _ d
open Classical in
noncomputable def isTx (N : Nat) (cs : List PV) : Bool := decide (∃ d : Dat, d.cells = cs ∧ d.size < N ∧ d.ok ∧ d.rng)
theorem isTx_at {N : Nat} {d : Dat} (h : d.size < N) (ho : d.ok) (hr : d.rng) : isTx N d.cells = true := by
  unfold isTx
  classical exact decide_eq_true ⟨d, rfl, h, ho, hr⟩
theorem isTx_of {N : Nat} {cs : List PV} (h : isTx N cs = true) : ∃ d : Dat, d.cells = cs ∧ d.size < N ∧ d.ok ∧ d.rng := by
  unfold isTx at h
  classical exact of_decide_eq_true h
/-- A row of bytes; a Builder that has one, a new one. -/
def bR (rc : List PV) (m : Nat) : Row := ⟨rc, m, 5, 1⟩
def bB (n : Nat) : Box := ⟨[.ptr 0 0, .own 0 n], 84⟩
def bB0 : Box := ⟨[.nilptr, .nil], 84⟩
def PutAt (N : Nat) : Prop := ∀ d : Dat, d.size < N → d.ok → d.rng → ∀ (rc : List PV) (m : Nat), m + (textD d).length ≤ 140737488355328 →
  RCalls G0 64 [.ptr 0 0, .agg d.cells] ⟨[bB m], [some (bR rc m)]⟩ (fun o H => o = .ret (.tup []) ∧ H = ⟨[bB (m + (textD d).length)], [some (bR (rc ++ bytesPL (textD d)) (m + (textD d).length))]⟩)
noncomputable def putV (N : Nat) (f : Nat) (xs : List PV) (H : Hp) : Option (PV × Hp × Ob) := match f, xs, H with
  | 64, [.ptr 0 0, .agg cs], ⟨[⟨[.ptr 0 0, .own 0 n], ty⟩], [some ⟨rc, m, e, 1⟩]⟩ => match Nat.beq ty 84 && Nat.beq e 5 with
    | true => some (.tup [], ⟨[⟨[.ptr 0 0, .own 0 (m + (txC cs).length)], ty⟩], [some ⟨rc ++ bytesPL (txC cs), m + (txC cs).length, e, 1⟩]⟩, [(isTx N cs, true), (Nat.beq n m, true), (Nat.ble (m + (txC cs).length) 140737488355328, true)])
    | false => none
  | _, _, _ => none
noncomputable def putV2 (N : Nat) (f : Nat) (xs : List PV) (H : Hp) : Option (PV × Hp × Ob) := match putV N f xs H with
  | some r => some r
  | none => ccV f xs H
theorem putV_ok {N : Nat} (ih : PutAt N) (f : Nat) (xs : List PV) (H : Hp) (r : PV) (H' : Hp) (o : Ob) (h : putV N f xs H = some (r, H', o)) (ho : ∀ p ∈ o, p.1 = p.2) : RCalls G0 f xs H (fun o' H2 => o' = .ret r ∧ H2 = H') ∧ r.scP (belowN H'.bx.length) (belowN H'.rw.length) = true ∧ H'.scB H'.bx.length H'.rw.length = true := by
  unfold putV at h
  split at h
  · rename_i cs n ty rc m e
    split at h
    · rename_i hc
      cases h
      simp only [Bool.and_eq_true, Nat.beq_eq] at hc
      obtain ⟨rfl, rfl⟩ := hc
      obtain ⟨d, rfl, h1, h2, h3⟩ := isTx_of (ho (isTx N cs, true) (by simp))
      have h4 := ho (Nat.beq n m, true) (by simp)
      have h5 := ho (Nat.ble (m + (txC d.cells).length) 140737488355328, true) (by simp)
      simp only [Nat.beq_eq, Nat.ble_eq] at h4 h5
      subst h4
      rw [txC_at] at h5 ⊢
      exact ⟨ih d h1 h2 h3 rc n h5, rfl, rfl⟩
    · cases h
  · cases h
theorem putV2_ok {N : Nat} (ih : PutAt N) (f : Nat) (xs : List PV) (H : Hp) (r : PV) (H' : Hp) (o : Ob) (h : putV2 N f xs H = some (r, H', o)) (ho : ∀ p ∈ o, p.1 = p.2) : RCalls G0 f xs H (fun o' H2 => o' = .ret r ∧ H2 = H') ∧ r.scP (belowN H'.bx.length) (belowN H'.rw.length) = true ∧ H'.scB H'.bx.length H'.rw.length = true := by
  unfold putV2 at h
  split at h
  · rename_i x hx
    cases h
    exact putV_ok ih f xs H r H' o hx ho
  · exact ccV_ok f xs H r H' o h ho
def fmtS (f : Nat) (args : List PV) : Option (PV × Ob) := match f, args with
  | 85, [.int .i64 n, .int .i64 10] => some (.str (mkS (Go.Lib.itoa n)), [(decide (-9223372036854775808 ≤ n ∧ n ≤ 9223372036854775807), true)])
  | 66, [.int .i64 n] => some (.str (mkS (Go.Lib.itoa n)), [(decide (-9223372036854775808 ≤ n ∧ n ≤ 9223372036854775807), true)])
  | _, _ => none
theorem fmtS_ok (f : Nat) (args : List PV) (r : PV) (o : Ob) (h : fmtS f args = some (r, o)) (ho : ∀ p ∈ o, p.1 = p.2) (_ : pureL args = true) : Pure G0 f args (fun x => x = r) := by
  unfold fmtS at h
  split at h
  · rename_i n _
    cases h
    have := of_decide_eq_true (ho _ (List.mem_singleton.2 rfl))
    exact formatInt n this.1 this.2
  · rename_i n _
    cases h
    have := of_decide_eq_true (ho _ (List.mem_singleton.2 rfl))
    exact dec_ref n this.1 this.2
  · cases h
noncomputable def SP {N : Nat} (ih : PutAt N) (l : List (Nat × List (Nat × Bool))) (v : List (Nat × List (Nat × PV))) : Cfg G0 := { F := F, hF := hF, S := fmtS, hS := fmtS_ok, V := putV2 N, hV := putV2_ok ih, hp := hpB, D := hpB, orc := orcM l, val := valM v }
/-- A Builder that holds these bytes; one that is new holds none. -/
def BSt (B : Box) (rws : List (Option Row)) (rc : List PV) (m : Nat) : Prop := (B = bB m ∧ rws = [some (bR rc m)]) ∨ (B = bB0 ∧ rws = [] ∧ rc = [] ∧ m = 0)
def DB (k n : Int) (s : ByteArray) (ks : Dats) : Box := ⟨[.int .i64 k, .int .i64 n, .str s, .slice ks.len ks.cells], 25⟩
theorem put_gen {N : Nat} (ih : PutAt N) (d : Dat) (hN : d.size < N + 1) (hok : d.ok) (hrng : d.rng) (B : Box) (rws : List (Option Row)) (rc : List PV) (m : Nat) (hB : BSt B rws rc m) (hm : m + (textD d).length ≤ 140737488355328) :
    RCalls G0 64 [.ptr 0 0, .agg d.cells] ⟨[B], rws⟩ (fun o H => o = .ret (.tup []) ∧ H = ⟨[bB (m + (textD d).length)], [some (bR (rc ++ bytesPL (textD d)) (m + (textD d).length))]⟩) := by
  obtain ⟨k, n, s, ks⟩ := d
  have hlen := hok.1
  refine Fn.enterH Tryd.func64 Tryd.ntmps64 rfl (Nat.le_of_ble_eq_true rfl) fun C fr fp hnt hnb hfr => ?_
  have fin : ∀ st l, l = textD (.mk k n s ks) → nrm [0] st = ⟨[(0, .ptr 0 0)], ⟨[bB (m + l.length), DB k n s ks], [some (bR (rc ++ bytesPL l) (m + l.length))]⟩⟩ → fr st := fun st l hl hs => hfr st [0] (by
    rw [hs, ← hl]
    rcases hB with ⟨rfl, rfl⟩ | ⟨rfl, rfl, _, _⟩
    · exact ⟨1, 1, .tup [], Nat.le_refl _, Nat.le_succ _, Nat.le_refl _, Nat.le_refl _, rfl, rfl, rfl, rfl, rfl⟩
    · exact ⟨1, 1, .tup [], Nat.le_refl _, Nat.le_succ _, Nat.zero_le _, Nat.le_refl _, rfl, rfl, rfl, rfl, rfl⟩)
  by_cases h1 : k = 1
  · have c1 : (k == (1 : Int)) = true := by simpa using h1
    have c2 : decide (-9223372036854775808 ≤ n ∧ n ≤ 9223372036854775807) = true := decide_eq_true hrng.1
    have ht : textD (.mk k n s ks) = Go.Lib.itoa n := by rw [textD, if_pos h1]
    rw [ht] at hm
    have c3 : Nat.ble (m + ByteArray.size (mkS (Lib.itoa n))) 140737488355328 = true := by rw [Nat.ble_eq, mkS_size]; exact hm
    rcases hB with ⟨rfl, rfl⟩ | ⟨rfl, rfl, rfl, rfl⟩
    · exact SWP.runQ (SP ih [(41, [(29, true)]), (19, [(14, true)])] []) 100 41 hnt [0] (e := .normal) (z := { t := [(0, PV.ptr 0 0)], h := { bx := [{ cs := [PV.ptr 0 0, PV.own 0 (m + ByteArray.size (mkS (Lib.itoa n)))], ty := 84 }, { cs := [PV.int IntKind.i64 k, PV.int IntKind.i64 n, PV.str s, PV.slice (Dats.len ks) (Dats.cells ks)], ty := 25 }], rw := [some { cs := rc ++ bytesPV (mkS (Lib.itoa n)), n := m + ByteArray.size (mkS (Lib.itoa n)), ty := 5, sz := 1 }] } }) (o := [(k == (1 : Int), true), (true, true), (decide (-9223372036854775808 ≤ n ∧ n ≤ 9223372036854775807), true), (Nat.ble (m + ByteArray.size (mkS (Lib.itoa n))) 140737488355328, true)]) (by kernel_rfl) (by ((repeat' (first | exact okO_nil | refine okN ?_ ?_)); all_goals first | assumption | rfl | exact same_of rfl | exact sameS_self _ | (simp only [decide_eq_true_eq, decide_eq_false_iff_not, Nat.ble_eq, Nat.beq_eq, beq_eq_false_iff_ne, beq_iff_eq, ne_eq] <;> omega))) (fun st hs => fin st _ ht.symm hs)
    · exact SWP.runQ (SP ih [(41, [(29, true)]), (19, [(14, true)])] []) 100 41 hnt [0] (e := .normal) (z := { t := [(0, PV.ptr 0 0)], h := { bx := [{ cs := [PV.ptr 0 0, PV.own 0 (0 + ByteArray.size (mkS (Lib.itoa n)))], ty := 84 }, { cs := [PV.int IntKind.i64 k, PV.int IntKind.i64 n, PV.str s, PV.slice (Dats.len ks) (Dats.cells ks)], ty := 25 }], rw := [some { cs := [] ++ bytesPV (mkS (Lib.itoa n)), n := 0 + ByteArray.size (mkS (Lib.itoa n)), ty := 5, sz := 1 }] } }) (o := [(k == (1 : Int), true), (true, true), (decide (-9223372036854775808 ≤ n ∧ n ≤ 9223372036854775807), true), (Nat.ble (0 + ByteArray.size (mkS (Lib.itoa n))) 140737488355328, true)]) (by kernel_rfl) (by ((repeat' (first | exact okO_nil | refine okN ?_ ?_)); all_goals first | assumption | rfl | exact same_of rfl | exact sameS_self _ | (simp only [decide_eq_true_eq, decide_eq_false_iff_not, Nat.ble_eq, Nat.beq_eq, beq_eq_false_iff_ne, beq_iff_eq, ne_eq] <;> omega))) (fun st hs => fin st _ ht.symm hs)
  by_cases h2 : k = 2
  · have c1 : (k == (1 : Int)) = false := by simpa using h1
    have c2 : (k == (2 : Int)) = true := by simpa using h2
    have ht : textD (.mk k n s ks) = s.data.toList := by rw [textD, if_neg h1, if_pos h2]
    rw [ht] at hm
    have c3 : Nat.ble (m + ByteArray.size s) 140737488355328 = true := by rw [Nat.ble_eq]; exact hm
    rcases hB with ⟨rfl, rfl⟩ | ⟨rfl, rfl, rfl, rfl⟩
    · exact SWP.runQ (SP ih [(41, [(29, false), (36, true)]), (19, [(14, true)])] []) 100 41 hnt [0] (e := .normal) (z := { t := [(0, PV.ptr 0 0)], h := { bx := [{ cs := [PV.ptr 0 0, PV.own 0 (m + ByteArray.size s)], ty := 84 }, { cs := [PV.int IntKind.i64 k, PV.int IntKind.i64 n, PV.str s, PV.slice (Dats.len ks) (Dats.cells ks)], ty := 25 }], rw := [some { cs := rc ++ bytesPV s, n := m + ByteArray.size s, ty := 5, sz := 1 }] } }) (o := [(k == (1 : Int), false), (k == (2 : Int), true), (Nat.ble (m + ByteArray.size s) 140737488355328, true)]) (by kernel_rfl) (by ((repeat' (first | exact okO_nil | refine okN ?_ ?_)); all_goals first | assumption | rfl | exact same_of rfl | exact sameS_self _ | (simp only [decide_eq_true_eq, decide_eq_false_iff_not, Nat.ble_eq, Nat.beq_eq, beq_eq_false_iff_ne, beq_iff_eq, ne_eq] <;> omega))) (fun st hs => fin st _ ht.symm hs)
    · exact SWP.runQ (SP ih [(41, [(29, false), (36, true)]), (19, [(14, true)])] []) 100 41 hnt [0] (e := .normal) (z := { t := [(0, PV.ptr 0 0)], h := { bx := [{ cs := [PV.ptr 0 0, PV.own 0 (0 + ByteArray.size s)], ty := 84 }, { cs := [PV.int IntKind.i64 k, PV.int IntKind.i64 n, PV.str s, PV.slice (Dats.len ks) (Dats.cells ks)], ty := 25 }], rw := [some { cs := [] ++ bytesPV s, n := 0 + ByteArray.size s, ty := 5, sz := 1 }] } }) (o := [(k == (1 : Int), false), (k == (2 : Int), true), (Nat.ble (0 + ByteArray.size s) 140737488355328, true)]) (by kernel_rfl) (by ((repeat' (first | exact okO_nil | refine okN ?_ ?_)); all_goals first | assumption | rfl | exact same_of rfl | exact sameS_self _ | (simp only [decide_eq_true_eq, decide_eq_false_iff_not, Nat.ble_eq, Nat.beq_eq, beq_eq_false_iff_ne, beq_iff_eq, ne_eq] <;> omega))) (fun st hs => fin st _ ht.symm hs)
  have ht : textD (.mk k n s ks) = 40 :: (textL true ks ++ [41]) := by rw [textD, if_neg h1, if_neg h2]
  have htl : (textD (.mk k n s ks)).length = (textL true ks).length + 2 := by rw [ht]; simp
  rw [htl] at hm
  have c1 : (k == (1 : Int)) = false := by simpa using h1
  have c2 : (k == (2 : Int)) = false := by simpa using h2
  have hks : ks.size < N + 1 := by simp only [Dat.size] at hN; omega
  refine Q.runSeq S0 50 41 hnt [0, 3] (z := ⟨[(0, .ptr 0 0), (3, .ptr 1 0)], ⟨[B, DB k n s ks], rws⟩⟩) (o := []) (by kernel_rfl) okO_nil ?_
  refine Q.runSeq S0 50 41 hnt [0, 3, 7] (z := ⟨[(0, .ptr 0 0), (3, .ptr 1 0), (7, .int .i64 k)], ⟨[B, DB k n s ks], rws⟩⟩) (o := []) (by kernel_rfl) okO_nil ?_
  refine Q.block ?_
  refine Q.runSeq (SP ih [(41, [(29, false)])] []) 50 41 hnt [0, 3, 7, 28] (z := ⟨[(0, .ptr 0 0), (3, .ptr 1 0), (7, .int .i64 k), (28, .bool false)], ⟨[B, DB k n s ks], rws⟩⟩) (o := [(k == (1 : Int), false)]) (by kernel_rfl) (by ((repeat' (first | exact okO_nil | refine okN ?_ ?_)); all_goals first | assumption | rfl | exact same_of rfl | exact sameS_self _ | (simp only [decide_eq_true_eq, decide_eq_false_iff_not, Nat.ble_eq, Nat.beq_eq, beq_eq_false_iff_ne, beq_iff_eq, ne_eq] <;> omega))) ?_
  refine Q.cond (b := false) rfl (fun h => by cases h) (fun _ => ?_)
  refine Q.runSeq (SP ih [(41, [(36, false)])] []) 50 41 hnt [0, 3, 35] (z := ⟨[(0, .ptr 0 0), (3, .ptr 1 0), (35, .bool false)], ⟨[B, DB k n s ks], rws⟩⟩) (o := [(k == (2 : Int), false)]) (by kernel_rfl) (by ((repeat' (first | exact okO_nil | refine okN ?_ ?_)); all_goals first | assumption | rfl | exact same_of rfl | exact sameS_self _ | (simp only [decide_eq_true_eq, decide_eq_false_iff_not, Nat.ble_eq, Nat.beq_eq, beq_eq_false_iff_ne, beq_iff_eq, ne_eq] <;> omega))) ?_
  refine Q.cond (b := false) rfl (fun h => by cases h) (fun _ => ?_)
  refine Q.seq fun K hK => ?_
  have rest : ∀ st, nrm [0, 3] st = ⟨[(0, .ptr 0 0), (3, .ptr 1 0)], ⟨[bB (m + 1), DB k n s ks], [some (bR (rc ++ [.int .u8 40]) (m + 1))]⟩⟩ → K st := fun st hs => hK st (.norm [0, 3] (by
    rw [hs]
    clear hs hK
    let P (j : Nat) : List UInt8 := 40 :: textL true (ks.take j)
    have hP : ∀ j, j ≤ ks.len → (P j).length ≤ (textL true ks).length + 1 := fun j hj => by
      have := textL_mono ks true j hj
      simp only [P, List.length_cons]
      omega
    let T (j : Nat) : AS := ⟨[(0, .ptr 0 0), (3, .ptr 1 0), (11, .slice ks.len ks.cells), (12, .int .i64 ks.len), (13, .int .i64 j)], ⟨[bB (m + (P j).length), DB k n s ks], [some (bR (rc ++ bytesPL (P j)) (m + (P j).length))]⟩⟩
    refine Q.seq fun K2 hK2 => ?_
    have h0 : bytesPL (P 0) = [.int .u8 40] := by
      have : P 0 = [40] := by simp only [P]; cases ks <;> rfl
      rw [this]; rfl
    have hP0 : (P 0).length = 1 := by
      have : P 0 = [40] := by simp only [P]; cases ks <;> rfl
      rw [this]; rfl
    refine Q.runSeq S0 50 41 hnt [0, 3, 11, 12, 13] (z := T 0) (o := []) (by simp only [T, hP0, h0]; kernel_rfl) okO_nil ?_
    refine Q.block ?_
    refine Q.loopH (σ := { j : Nat // j ≤ ks.len }) [0, 3, 11, 12, 13] 2 (by rw [hnb]; exact (by decide : 1 ≤ 2)) (fun j => T j.1) (fun j => ks.len - j.1) ⟨0, Nat.zero_le _⟩ (fun j => ⟨rfl, rfl, rfl⟩) ⟨[], by simp only [List.append_nil]; rfl⟩ fun ⟨j, hj⟩ => ?_
    rcases Nat.lt_or_ge j ks.len with hlt | hge
    · obtain ⟨k', n', s', ks', hget⟩ := Dats.get_mk ks j
      have hsz := Dats.get_size ks j hlt
      have hoj := Dats.get_ok ks j hlt hok.2
      have hrj := Dats.get_rng ks j hlt hrng.2
      have htk := textL_take ks true j hlt
      have hPj := hP (j + 1) hlt
      rw [hget] at hsz hoj hrj htk
      have tx : txC [PV.int IntKind.i64 k', PV.int IntKind.i64 n', PV.str s', PV.slice (Dats.len ks') (Dats.cells ks')] = textD (.mk k' n' s' ks') := txC_at (.mk k' n' s' ks')
      have d1 : isTx N [PV.int IntKind.i64 k', PV.int IntKind.i64 n', PV.str s', PV.slice (Dats.len ks') (Dats.cells ks')] = true := isTx_at (d := .mk k' n' s' ks') (by omega) hoj hrj
      have d2 := lt_at hlt
      have d3 := in_at hlt
      have d4 : decide (TD.size d25 ≤ List.length (List.drop (Int.toNat (j : Int) * TD.size d25) (Dats.cells ks))) = true := kid_len hlt
      have d5 := kid_same' hlt hget
      have wj := wrap1 j (by omega)
      obtain ⟨rcj, hrc⟩ : ∃ x, x = rc ++ bytesPL (P j) := ⟨_, rfl⟩
      obtain ⟨mj, hmj⟩ : ∃ x, x = m + (P j).length := ⟨_, rfl⟩
      show SWP G0 C _ _ ⟨[(0, .ptr 0 0), (3, .ptr 1 0), (11, .slice ks.len ks.cells), (12, .int .i64 ks.len), (13, .int .i64 j)], ⟨[bB (m + (P j).length), DB k n s ks], [some (bR (rc ++ bytesPL (P j)) (m + (P j).length))]⟩⟩
      rw [← hrc, ← hmj]
      by_cases hj0 : j = 0
      · have hPs : P (j + 1) = P j ++ textD (.mk k' n' s' ks') := by
          simp only [P, htk]
          rw [if_pos ⟨hj0, trivial⟩]; rfl
        have d6 : decide (0 < (j : Int)) = false := by simp [hj0]
        rw [hPs, List.length_append] at hPj
        have d7 : Nat.ble (mj + List.length (txC [PV.int IntKind.i64 k', PV.int IntKind.i64 n', PV.str s', PV.slice (Dats.len ks') (Dats.cells ks')])) 140737488355328 = true := by rw [tx, Nat.ble_eq]; omega
        refine SWP.runQ (SP ih [(41, [(14, true), (16, true), (17, true), (19, false)]), (17, [(14, true)])] [(41, [(17, .agg [.int .i64 k', .int .i64 n', .str s', .slice ks'.len ks'.cells])])]) 100 41 hnt [0, 3, 11, 12, 13] (e := .normal) (z := { t := [(0, PV.ptr 0 0), (3, PV.ptr 1 0), (11, PV.slice (Dats.len ks) (Dats.cells ks)), (12, PV.int IntKind.i64 (Int.ofNat (Dats.len ks))), (13, PV.int IntKind.i64 (IntKind.wrap IntKind.i64 (Int.ofNat (j + 1))))], h := { bx := [{ cs := [PV.ptr 0 0, PV.own 0 (mj + List.length (txC [PV.int IntKind.i64 k', PV.int IntKind.i64 n', PV.str s', PV.slice (Dats.len ks') (Dats.cells ks')]))], ty := 84 }, { cs := [PV.int IntKind.i64 k, PV.int IntKind.i64 n, PV.str s, PV.slice (Dats.len ks) (Dats.cells ks)], ty := 25 }, { cs := [PV.int IntKind.i64 k', PV.int IntKind.i64 n', PV.str s', PV.slice (Dats.len ks') (Dats.cells ks')], ty := 25 }], rw := [some { cs := rcj ++ bytesPL (txC [PV.int IntKind.i64 k', PV.int IntKind.i64 n', PV.str s', PV.slice (Dats.len ks') (Dats.cells ks')]), n := mj + List.length (txC [PV.int IntKind.i64 k', PV.int IntKind.i64 n', PV.str s', PV.slice (Dats.len ks') (Dats.cells ks')]), ty := 5, sz := 1 }] } }) (o := [(decide ((↑j : Int) < (↑(Dats.len ks) : Int)), true), (true, true), (decide (0 ≤ (↑j : Int) ∧ (↑j : Int) < (↑(Dats.len ks) : Int)), true), (decide (TD.size d24 ≤ List.length (List.drop (Int.toNat (↑j : Int) * TD.size d24) (Dats.cells ks))), true), (same (PV.agg (List.take 4 (List.drop (Int.toNat (Int.ofNat j) * 4) (Dats.cells ks)))) (PV.agg [PV.int IntKind.i64 k', PV.int IntKind.i64 n', PV.str s', PV.slice (Dats.len ks') (Dats.cells ks')]), true), (decide (0 < (↑j : Int)), false), (false, false), (isTx N [PV.int IntKind.i64 k', PV.int IntKind.i64 n', PV.str s', PV.slice (Dats.len ks') (Dats.cells ks')], true), (Nat.beq mj mj, true), (Nat.ble (mj + List.length (txC [PV.int IntKind.i64 k', PV.int IntKind.i64 n', PV.str s', PV.slice (Dats.len ks') (Dats.cells ks')])) 140737488355328, true)]) (by kernel_rfl) (by ((repeat' (first | exact okO_nil | refine okN ?_ ?_)); all_goals first | assumption | rfl | exact same_of rfl | exact sameS_self _ | (simp only [decide_eq_true_eq, decide_eq_false_iff_not, Nat.ble_eq, Nat.beq_eq, beq_eq_false_iff_ne, beq_iff_eq, ne_eq] <;> omega))) (fun st hs => ⟨⟨j + 1, hlt⟩, Nat.sub_lt_sub_left hlt (Nat.lt_succ_self j), [DB k' n' s' ks'], ?_⟩)
        rw [hs, tx, hrc, hmj]
        simp only [T, hPs, bytesPL_append, List.length_append]
        rw [show IntKind.wrap IntKind.i64 (Int.ofNat (j + 1)) = ((j + 1 : Nat) : Int) from wj, List.append_assoc, Nat.add_assoc]
        rfl
      · have hPs : P (j + 1) = P j ++ [32] ++ textD (.mk k' n' s' ks') := by
          simp only [P, htk]
          rw [if_neg (fun h => hj0 h.1)]
          simp
        have d6 : decide (0 < (j : Int)) = true := by simp; omega
        rw [hPs, List.length_append, List.length_append] at hPj
        simp only [List.length_cons, List.length_nil] at hPj
        have d7 : Nat.ble (mj + 1 + List.length (txC [PV.int IntKind.i64 k', PV.int IntKind.i64 n', PV.str s', PV.slice (Dats.len ks') (Dats.cells ks')])) 140737488355328 = true := by rw [tx, Nat.ble_eq]; omega
        have d8 : Nat.ble ((mj + 1) * 1) 140737488355328 = true := by rw [Nat.ble_eq]; omega
        have d9 : Nat.ble (mj + 1) 9223372036854775807 = true := by rw [Nat.ble_eq]; omega
        refine SWP.runQ (SP ih [(41, [(14, true), (16, true), (17, true), (19, true)]), (17, [(14, true)])] [(41, [(17, .agg [.int .i64 k', .int .i64 n', .str s', .slice ks'.len ks'.cells])])]) 100 41 hnt [0, 3, 11, 12, 13] (e := .normal) (z := { t := [(0, PV.ptr 0 0), (3, PV.ptr 1 0), (11, PV.slice (Dats.len ks) (Dats.cells ks)), (12, PV.int IntKind.i64 (Int.ofNat (Dats.len ks))), (13, PV.int IntKind.i64 (IntKind.wrap IntKind.i64 (Int.ofNat (j + 1))))], h := { bx := [{ cs := [PV.ptr 0 0, PV.own 0 (mj + 1 + List.length (txC [PV.int IntKind.i64 k', PV.int IntKind.i64 n', PV.str s', PV.slice (Dats.len ks') (Dats.cells ks')]))], ty := 84 }, { cs := [PV.int IntKind.i64 k, PV.int IntKind.i64 n, PV.str s, PV.slice (Dats.len ks) (Dats.cells ks)], ty := 25 }, { cs := [PV.int IntKind.i64 k', PV.int IntKind.i64 n', PV.str s', PV.slice (Dats.len ks') (Dats.cells ks')], ty := 25 }], rw := [some { cs := rcj ++ [PV.int IntKind.u8 (32 : Int)] ++ bytesPL (txC [PV.int IntKind.i64 k', PV.int IntKind.i64 n', PV.str s', PV.slice (Dats.len ks') (Dats.cells ks')]), n := mj + 1 + List.length (txC [PV.int IntKind.i64 k', PV.int IntKind.i64 n', PV.str s', PV.slice (Dats.len ks') (Dats.cells ks')]), ty := 5, sz := 1 }] } }) (o := [(decide ((↑j : Int) < (↑(Dats.len ks) : Int)), true), (true, true), (decide (0 ≤ (↑j : Int) ∧ (↑j : Int) < (↑(Dats.len ks) : Int)), true), (decide (TD.size d24 ≤ List.length (List.drop (Int.toNat (↑j : Int) * TD.size d24) (Dats.cells ks))), true), (same (PV.agg (List.take 4 (List.drop (Int.toNat (Int.ofNat j) * 4) (Dats.cells ks)))) (PV.agg [PV.int IntKind.i64 k', PV.int IntKind.i64 n', PV.str s', PV.slice (Dats.len ks') (Dats.cells ks')]), true), (decide (0 < (↑j : Int)), true), (true, true), (true, true), (Nat.ble ((mj + 1) * 1) 140737488355328, true), (Nat.ble (mj + 1) 9223372036854775807, true), (isTx N [PV.int IntKind.i64 k', PV.int IntKind.i64 n', PV.str s', PV.slice (Dats.len ks') (Dats.cells ks')], true), (Nat.beq (mj + 1) (mj + 1), true), (Nat.ble (mj + 1 + List.length (txC [PV.int IntKind.i64 k', PV.int IntKind.i64 n', PV.str s', PV.slice (Dats.len ks') (Dats.cells ks')])) 140737488355328, true)]) (by kernel_rfl) (by ((repeat' (first | exact okO_nil | refine okN ?_ ?_)); all_goals first | assumption | rfl | exact same_of rfl | exact sameS_self _ | (simp only [decide_eq_true_eq, decide_eq_false_iff_not, Nat.ble_eq, Nat.beq_eq, beq_eq_false_iff_ne, beq_iff_eq, ne_eq] <;> omega))) (fun st hs => ⟨⟨j + 1, hlt⟩, Nat.sub_lt_sub_left hlt (Nat.lt_succ_self j), [DB k' n' s' ks'], ?_⟩)
        rw [hs, tx, hrc, hmj]
        simp only [T, hPs, bytesPL_append, List.length_append]
        rw [show IntKind.wrap IntKind.i64 (Int.ofNat (j + 1)) = ((j + 1 : Nat) : Int) from wj]
        simp only [List.append_assoc, Nat.add_assoc]
        rfl
    · obtain rfl : j = ks.len := by omega
      have d2 := ge_at hge
      have hPl : P ks.len = 40 :: textL true ks := by simp only [P, take_all]
      refine SWP.runQ (SP ih [(41, [(14, false)])] []) 100 41 hnt [0, 3] (e := .exit 1) (z := ⟨[(0, .ptr 0 0), (3, .ptr 1 0)], ⟨[bB (m + (P ks.len).length), DB k n s ks], [some (bR (rc ++ bytesPL (P ks.len)) (m + (P ks.len).length))]⟩⟩) (o := [(decide ((ks.len : Int) < (ks.len : Int)), false), (false, false)]) (by kernel_rfl) (by ((repeat' (first | exact okO_nil | refine okN ?_ ?_)); all_goals first | assumption | rfl | exact same_of rfl | exact sameS_self _ | (simp only [decide_eq_true_eq, decide_eq_false_iff_not, Nat.ble_eq, Nat.beq_eq, beq_eq_false_iff_ne, beq_iff_eq, ne_eq] <;> omega))) (fun st hs => hK2 st (.norm [0, 3] ?_))
      rw [hs]
      have hl2 : (P ks.len).length = (textL true ks).length + 1 := by rw [hPl]; rfl
      have d8 : Nat.ble ((m + (P ks.len).length + 1) * 1) 140737488355328 = true := by rw [Nat.ble_eq]; omega
      have d9 : Nat.ble (m + (P ks.len).length + 1) 9223372036854775807 = true := by rw [Nat.ble_eq]; omega
      refine SWP.runQ (SP ih [(17, [(14, true)])] []) 100 41 hnt [0] (e := .normal) (z := ⟨[(0, .ptr 0 0)], ⟨[bB (m + (P ks.len).length + 1), DB k n s ks], [some (bR (rc ++ bytesPL (P ks.len) ++ [.int .u8 41]) (m + (P ks.len).length + 1))]⟩⟩) (o := [(true, true), (Nat.ble ((m + (P ks.len).length + 1) * 1) 140737488355328, true), (Nat.ble (m + (P ks.len).length + 1) 9223372036854775807, true)]) (by kernel_rfl) (by ((repeat' (first | exact okO_nil | refine okN ?_ ?_)); all_goals first | assumption | rfl | exact same_of rfl | exact sameS_self _ | (simp only [decide_eq_true_eq, decide_eq_false_iff_not, Nat.ble_eq, Nat.beq_eq, beq_eq_false_iff_ne, beq_iff_eq, ne_eq] <;> omega))) (fun st hs => fin st (P ks.len ++ [41]) ?_ ?_)
      · rw [ht, hPl]; rfl
      · rw [hs]
        simp only [bytesPL_append, List.length_append, List.append_assoc, Nat.add_assoc]
        rfl))
  rcases hB with ⟨rfl, rfl⟩ | ⟨rfl, rfl, rfl, rfl⟩
  · have d8 : Nat.ble ((m + 1) * 1) 140737488355328 = true := by rw [Nat.ble_eq]; omega
    have d9 : Nat.ble (m + 1) 9223372036854775807 = true := by rw [Nat.ble_eq]; omega
    exact SWP.runQ (SP ih [(17, [(14, true)])] []) 100 41 hnt [0, 3] (e := .normal) (z := { t := [(0, PV.ptr 0 0), (3, PV.ptr 1 0)], h := { bx := [{ cs := [PV.ptr 0 0, PV.own 0 (m + 1)], ty := 84 }, { cs := [PV.int IntKind.i64 k, PV.int IntKind.i64 n, PV.str s, PV.slice (Dats.len ks) (Dats.cells ks)], ty := 25 }], rw := [some { cs := rc ++ [PV.int IntKind.u8 (40 : Int)], n := m + 1, ty := 5, sz := 1 }] } }) (o := [(true, true), (Nat.ble ((m + 1) * 1) 140737488355328, true), (Nat.ble (m + 1) 9223372036854775807, true)]) (by kernel_rfl) (by ((repeat' (first | exact okO_nil | refine okN ?_ ?_)); all_goals first | assumption | rfl | exact same_of rfl | exact sameS_self _ | (simp only [decide_eq_true_eq, decide_eq_false_iff_not, Nat.ble_eq, Nat.beq_eq, beq_eq_false_iff_ne, beq_iff_eq, ne_eq] <;> omega))) (fun st hs => rest st hs)
  · exact SWP.runQ (SP ih [(17, [(14, true)])] []) 100 41 hnt [0, 3] (e := .normal) (z := { t := [(0, PV.ptr 0 0), (3, PV.ptr 1 0)], h := { bx := [{ cs := [PV.ptr 0 0, PV.own 0 1], ty := 84 }, { cs := [PV.int IntKind.i64 k, PV.int IntKind.i64 n, PV.str s, PV.slice (Dats.len ks) (Dats.cells ks)], ty := 25 }], rw := [some { cs := [PV.int IntKind.u8 (40 : Int)], n := 1, ty := 5, sz := 1 }] } }) (o := [(true, true), (true, true), (true, true)]) (by kernel_rfl) (by ((repeat' (first | exact okO_nil | refine okN ?_ ?_)); all_goals first | assumption | rfl | exact same_of rfl | exact sameS_self _ | (simp only [decide_eq_true_eq, decide_eq_false_iff_not, Nat.ble_eq, Nat.beq_eq, beq_eq_false_iff_ne, beq_iff_eq, ne_eq] <;> omega))) (fun st hs => rest st hs)
theorem putAt (N : Nat) : PutAt N := by
  induction N with
  | zero => intro d h; omega
  | succ N ih => exact fun d hN hok hrng rc m hm => put_gen ih d hN hok hrng _ _ rc m (.inl ⟨rfl, rfl⟩) hm
/-- A new Builder. -/
theorem put_new (d : Dat) (hok : d.ok) (hrng : d.rng) (hm : (textD d).length ≤ 140737488355328) :
    RCalls G0 64 [.ptr 0 0, .agg d.cells] ⟨[bB0], []⟩ (fun o H => o = .ret (.tup []) ∧ H = ⟨[bB ((textD d).length)], [some (bR (bytesPL (textD d)) ((textD d).length))]⟩) := by
  have := put_gen (putAt (d.size + 1)) d (by omega) hok hrng bB0 [] [] 0 (.inr ⟨rfl, rfl, rfl, rfl⟩) (by omega)
  simpa using this
end Seat
end Go.Proofs.YtenpjkcclmmlhaaDoor
/- Text: the written form of a datum, as the document writes it; both texts. -/
namespace Go.Proofs.YtenpjkcclmmlhaaDoor
open Go.AS Go.RowKit
set_option linter.unusedVariables false
set_option linter.unusedSimpArgs false
set_option maxRecDepth 100000
namespace Seat
def RPutAt (N : Nat) : Prop := ∀ d : Dat, d.size < N → d.ok → d.rng → ∀ (rc : List PV) (m : Nat), m + (textD d).length ≤ 140737488355328 →
  RCalls G0 46 [.own 0 m, .agg d.cells] ⟨[], [some (bR rc m)]⟩ (fun o H => o = .ret (.own 0 (m + (textD d).length)) ∧ H = ⟨[], [some (bR (rc ++ bytesPL (textD d)) (m + (textD d).length))]⟩)
noncomputable def rputV (N : Nat) (f : Nat) (xs : List PV) (H : Hp) : Option (PV × Hp × Ob) := match f, xs, H with
  | 46, [.own 0 n, .agg cs], ⟨[], [some ⟨rc, m, e, 1⟩]⟩ => match Nat.beq e 5 with
    | true => some (.own 0 (m + (txC cs).length), ⟨[], [some ⟨rc ++ bytesPL (txC cs), m + (txC cs).length, e, 1⟩]⟩, [(isTx N cs, true), (Nat.beq n m, true), (Nat.ble (m + (txC cs).length) 140737488355328, true)])
    | false => none
  | _, _, _ => none
theorem rputV_ok {N : Nat} (ih : RPutAt N) (f : Nat) (xs : List PV) (H : Hp) (r : PV) (H' : Hp) (o : Ob) (h : rputV N f xs H = some (r, H', o)) (ho : ∀ p ∈ o, p.1 = p.2) : RCalls G0 f xs H (fun o' H2 => o' = .ret r ∧ H2 = H') ∧ r.scP (belowN H'.bx.length) (belowN H'.rw.length) = true ∧ H'.scB H'.bx.length H'.rw.length = true := by
  unfold rputV at h
  split at h
  · rename_i n cs rc m e
    split at h
    · rename_i hc
      cases h
      simp only [Nat.beq_eq] at hc
      subst hc
      obtain ⟨d, rfl, h1, h2, h3⟩ := isTx_of (ho (isTx N cs, true) (by simp))
      have h4 := ho (Nat.beq n m, true) (by simp)
      have h5 := ho (Nat.ble (m + (txC d.cells).length) 140737488355328, true) (by simp)
      simp only [Nat.beq_eq, Nat.ble_eq] at h4 h5
      subst h4
      rw [txC_at] at h5 ⊢
      exact ⟨ih d h1 h2 h3 rc n h5, rfl, rfl⟩
    · cases h
  · cases h
noncomputable def SR {N : Nat} (ih : RPutAt N) (l : List (Nat × List (Nat × Bool))) (v : List (Nat × List (Nat × PV))) : Cfg G0 := { F := F, hF := hF, S := fmtS, hS := fmtS_ok, V := rputV N, hV := rputV_ok ih, hp := hpB, D := hpB, orc := orcM l, val := valM v }
def RSt (x : PV) (rws : List (Option Row)) (rc : List PV) (m : Nat) : Prop := (x = .own 0 m ∧ rws = [some (bR rc m)]) ∨ (x = .nil ∧ rws = [] ∧ rc = [] ∧ m = 0)
theorem rput_gen {N : Nat} (ih : RPutAt N) (d : Dat) (hN : d.size < N + 1) (hok : d.ok) (hrng : d.rng) (x : PV) (rws : List (Option Row)) (rc : List PV) (m : Nat) (hB : RSt x rws rc m) (hm : m + (textD d).length ≤ 140737488355328) :
    RCalls G0 46 [x, .agg d.cells] ⟨[], rws⟩ (fun o H => o = .ret (.own 0 (m + (textD d).length)) ∧ H = ⟨[], [some (bR (rc ++ bytesPL (textD d)) (m + (textD d).length))]⟩) := by
  obtain ⟨k, n, s, ks⟩ := d
  have hlen := hok.1
  refine Fn.enterH Tryd.func46 Tryd.ntmps46 rfl (Nat.le_of_ble_eq_true rfl) fun C fr fp hnt hnb hfr => ?_
  have fin : ∀ st l, l = textD (.mk k n s ks) → nrm [4] st = ⟨[(4, .own 0 (m + l.length))], ⟨[DB k n s ks], [some (bR (rc ++ bytesPL l) (m + l.length))]⟩⟩ → fr st := fun st l hl hs => hfr st [4] (by
    rw [hs, ← hl]
    rcases hB with ⟨rfl, rfl⟩ | ⟨rfl, rfl, _, _⟩
    · exact ⟨0, 1, .own 0 (m + l.length), Nat.le_refl _, Nat.zero_le _, Nat.le_refl _, Nat.le_refl _, rfl, rfl, rfl, rfl, rfl⟩
    · exact ⟨0, 1, .own 0 (m + l.length), Nat.le_refl _, Nat.zero_le _, Nat.zero_le _, Nat.le_refl _, rfl, rfl, rfl, rfl, rfl⟩)
  by_cases h1 : k = 1
  · have c1 : (k == (1 : Int)) = true := by simpa using h1
    have c2 : decide (-9223372036854775808 ≤ n ∧ n ≤ 9223372036854775807) = true := decide_eq_true hrng.1
    have ht : textD (.mk k n s ks) = Go.Lib.itoa n := by rw [textD, if_pos h1]
    rw [ht] at hm
    have c3 : Nat.ble (m + ByteArray.size (mkS (Lib.itoa n))) 140737488355328 = true := by rw [Nat.ble_eq, mkS_size]; exact hm
    rcases hB with ⟨rfl, rfl⟩ | ⟨rfl, rfl, rfl, rfl⟩
    · exact SWP.runQ (SR ih [(46, [(9, true), (14, true)])] []) 100 46 hnt [4] (e := .ret) (z := { t := [(4, PV.own 0 (m + ByteArray.size (mkS (Lib.itoa n))))], h := { bx := [{ cs := [PV.int IntKind.i64 k, PV.int IntKind.i64 n, PV.str s, PV.slice (Dats.len ks) (Dats.cells ks)], ty := 25 }], rw := [some { cs := rc ++ bytesPV (mkS (Lib.itoa n)), n := m + ByteArray.size (mkS (Lib.itoa n)), ty := 5, sz := 1 }] } }) (o := [(k == (1 : Int), true), (true, true), (decide (-9223372036854775808 ≤ n ∧ n ≤ 9223372036854775807), true), (Nat.ble (m + ByteArray.size (mkS (Lib.itoa n))) 140737488355328, true)]) (by kernel_rfl) (by ((repeat' (first | exact okO_nil | refine okN ?_ ?_)); all_goals first | assumption | rfl | exact same_of rfl | exact sameS_self _ | (simp only [decide_eq_true_eq, decide_eq_false_iff_not, Nat.ble_eq, Nat.beq_eq, beq_eq_false_iff_ne, beq_iff_eq, ne_eq] <;> omega))) (fun st hs => fin st _ ht.symm hs)
    · exact SWP.runQ (SR ih [(46, [(9, true), (14, true)])] []) 100 46 hnt [4] (e := .ret) (z := { t := [(4, PV.own 0 (0 + ByteArray.size (mkS (Lib.itoa n))))], h := { bx := [{ cs := [PV.int IntKind.i64 k, PV.int IntKind.i64 n, PV.str s, PV.slice (Dats.len ks) (Dats.cells ks)], ty := 25 }], rw := [some { cs := [] ++ bytesPV (mkS (Lib.itoa n)), n := 0 + ByteArray.size (mkS (Lib.itoa n)), ty := 5, sz := 1 }] } }) (o := [(k == (1 : Int), true), (true, true), (decide (-9223372036854775808 ≤ n ∧ n ≤ 9223372036854775807), true), (Nat.ble (0 + ByteArray.size (mkS (Lib.itoa n))) 140737488355328, true)]) (by kernel_rfl) (by ((repeat' (first | exact okO_nil | refine okN ?_ ?_)); all_goals first | assumption | rfl | exact same_of rfl | exact sameS_self _ | (simp only [decide_eq_true_eq, decide_eq_false_iff_not, Nat.ble_eq, Nat.beq_eq, beq_eq_false_iff_ne, beq_iff_eq, ne_eq] <;> omega))) (fun st hs => fin st _ ht.symm hs)
  by_cases h2 : k = 2
  · have c1 : (k == (1 : Int)) = false := by simpa using h1
    have c2 : (k == (2 : Int)) = true := by simpa using h2
    have ht : textD (.mk k n s ks) = s.data.toList := by rw [textD, if_neg h1, if_pos h2]
    rw [ht] at hm
    have c3 : Nat.ble (m + ByteArray.size s) 140737488355328 = true := by rw [Nat.ble_eq]; exact hm
    rcases hB with ⟨rfl, rfl⟩ | ⟨rfl, rfl, rfl, rfl⟩
    · exact SWP.runQ (SR ih [(46, [(9, false), (16, true), (20, true)])] []) 100 46 hnt [4] (e := .ret) (z := { t := [(4, PV.own 0 (m + ByteArray.size s))], h := { bx := [{ cs := [PV.int IntKind.i64 k, PV.int IntKind.i64 n, PV.str s, PV.slice (Dats.len ks) (Dats.cells ks)], ty := 25 }], rw := [some { cs := rc ++ bytesPV s, n := m + ByteArray.size s, ty := 5, sz := 1 }] } }) (o := [(k == (1 : Int), false), (k == (2 : Int), true), (Nat.ble (m + ByteArray.size s) 140737488355328, true)]) (by kernel_rfl) (by ((repeat' (first | exact okO_nil | refine okN ?_ ?_)); all_goals first | assumption | rfl | exact same_of rfl | exact sameS_self _ | (simp only [decide_eq_true_eq, decide_eq_false_iff_not, Nat.ble_eq, Nat.beq_eq, beq_eq_false_iff_ne, beq_iff_eq, ne_eq] <;> omega))) (fun st hs => fin st _ ht.symm hs)
    · exact SWP.runQ (SR ih [(46, [(9, false), (16, true), (20, true)])] []) 100 46 hnt [4] (e := .ret) (z := { t := [(4, PV.own 0 (0 + ByteArray.size s))], h := { bx := [{ cs := [PV.int IntKind.i64 k, PV.int IntKind.i64 n, PV.str s, PV.slice (Dats.len ks) (Dats.cells ks)], ty := 25 }], rw := [some { cs := [] ++ bytesPV s, n := 0 + ByteArray.size s, ty := 5, sz := 1 }] } }) (o := [(k == (1 : Int), false), (k == (2 : Int), true), (Nat.ble (0 + ByteArray.size s) 140737488355328, true)]) (by kernel_rfl) (by ((repeat' (first | exact okO_nil | refine okN ?_ ?_)); all_goals first | assumption | rfl | exact same_of rfl | exact sameS_self _ | (simp only [decide_eq_true_eq, decide_eq_false_iff_not, Nat.ble_eq, Nat.beq_eq, beq_eq_false_iff_ne, beq_iff_eq, ne_eq] <;> omega))) (fun st hs => fin st _ ht.symm hs)
  have ht : textD (.mk k n s ks) = 40 :: (textL true ks ++ [41]) := by rw [textD, if_neg h1, if_neg h2]
  have htl : (textD (.mk k n s ks)).length = (textL true ks).length + 2 := by rw [ht]; simp
  rw [htl] at hm
  have c1 : (k == (1 : Int)) = false := by simpa using h1
  have c2 : (k == (2 : Int)) = false := by simpa using h2
  have hks : ks.size < N + 1 := by simp only [Dat.size] at hN; omega
  refine Q.runSeq S0 50 46 hnt [0, 3] (z := ⟨[(0, x), (3, .ptr 0 0)], ⟨[DB k n s ks], rws⟩⟩) (o := []) (by kernel_rfl) okO_nil ?_
  refine Q.runSeq (SR ih [(46, [(9, false), (16, false)])] []) 50 46 hnt [0, 3] (z := ⟨[(0, x), (3, .ptr 0 0)], ⟨[DB k n s ks], rws⟩⟩) (o := [(k == (1 : Int), false), (k == (2 : Int), false)]) (by kernel_rfl) (by ((repeat' (first | exact okO_nil | refine okN ?_ ?_)); all_goals first | assumption | rfl | exact same_of rfl | exact sameS_self _ | (simp only [decide_eq_true_eq, decide_eq_false_iff_not, Nat.ble_eq, Nat.beq_eq, beq_eq_false_iff_ne, beq_iff_eq, ne_eq] <;> omega))) ?_
  refine Q.seq fun K hK => ?_
  have rest : ∀ st, nrm [0, 3] st = ⟨[(0, .own 0 (m + 1)), (3, .ptr 0 0)], ⟨[DB k n s ks], [some (bR (rc ++ [.int .u8 40]) (m + 1))]⟩⟩ → K st := fun st hs => hK st (.norm [0, 3] (by
    rw [hs]
    clear hs hK
    let P (j : Nat) : List UInt8 := 40 :: textL true (ks.take j)
    have hP : ∀ j, j ≤ ks.len → (P j).length ≤ (textL true ks).length + 1 := fun j hj => by
      have := textL_mono ks true j hj
      simp only [P, List.length_cons]
      omega
    let T (j : Nat) : AS := ⟨[(0, .own 0 (m + (P j).length)), (3, .ptr 0 0), (5, .int .i64 j)], ⟨[DB k n s ks], [some (bR (rc ++ bytesPL (P j)) (m + (P j).length))]⟩⟩
    refine Q.seq fun K2 hK2 => ?_
    have h0 : bytesPL (P 0) = [.int .u8 40] := by
      have : P 0 = [40] := by simp only [P]; cases ks <;> rfl
      rw [this]; rfl
    have hP0 : (P 0).length = 1 := by
      have : P 0 = [40] := by simp only [P]; cases ks <;> rfl
      rw [this]; rfl
    refine Q.runSeq S0 50 46 hnt [0, 3, 5] (z := T 0) (o := []) (by simp only [T, hP0, h0]; kernel_rfl) okO_nil ?_
    refine Q.block ?_
    refine Q.loopI (σ := { j : Nat // j ≤ ks.len }) [0, 3, 5] (fun j => T j.1) (fun j => ks.len - j.1) ⟨0, Nat.zero_le _⟩ rfl fun ⟨j, hj⟩ => ?_
    rcases Nat.lt_or_ge j ks.len with hlt | hge
    · obtain ⟨k', n', s', ks', hget⟩ := Dats.get_mk ks j
      have hsz := Dats.get_size ks j hlt
      have hoj := Dats.get_ok ks j hlt hok.2
      have hrj := Dats.get_rng ks j hlt hrng.2
      have htk := textL_take ks true j hlt
      have hPj := hP (j + 1) hlt
      rw [hget] at hsz hoj hrj htk
      have tx : txC [PV.int IntKind.i64 k', PV.int IntKind.i64 n', PV.str s', PV.slice (Dats.len ks') (Dats.cells ks')] = textD (.mk k' n' s' ks') := txC_at (.mk k' n' s' ks')
      have d1 : isTx N [PV.int IntKind.i64 k', PV.int IntKind.i64 n', PV.str s', PV.slice (Dats.len ks') (Dats.cells ks')] = true := isTx_at (d := .mk k' n' s' ks') (by omega) hoj hrj
      have d2 := lt_at hlt
      have d3 := in_at hlt
      have d4 : decide (TD.size d25 ≤ List.length (List.drop (Int.toNat (j : Int) * TD.size d25) (Dats.cells ks))) = true := kid_len hlt
      have d5 := kid_same' hlt hget
      have wj := wrap1 j (by omega)
      obtain ⟨rcj, hrc⟩ : ∃ x, x = rc ++ bytesPL (P j) := ⟨_, rfl⟩
      obtain ⟨mj, hmj⟩ : ∃ x, x = m + (P j).length := ⟨_, rfl⟩
      show SWP G0 C _ _ ⟨[(0, .own 0 (m + (P j).length)), (3, .ptr 0 0), (5, .int .i64 j)], ⟨[DB k n s ks], [some (bR (rc ++ bytesPL (P j)) (m + (P j).length))]⟩⟩
      rw [← hrc, ← hmj]
      by_cases hj0 : j = 0
      · have hPs : P (j + 1) = P j ++ textD (.mk k' n' s' ks') := by
          simp only [P, htk]
          rw [if_pos ⟨hj0, trivial⟩]; rfl
        have d6 : decide (0 < (j : Int)) = false := by simp [hj0]
        rw [hPs, List.length_append] at hPj
        have d7 : Nat.ble (mj + List.length (txC [PV.int IntKind.i64 k', PV.int IntKind.i64 n', PV.str s', PV.slice (Dats.len ks') (Dats.cells ks')])) 140737488355328 = true := by rw [tx, Nat.ble_eq]; omega
        refine SWP.runQ (SR ih [(46, [(28, true), (32, false), (35, true), (40, true), (41, true)])] [(46, [(41, .agg [.int .i64 k', .int .i64 n', .str s', .slice ks'.len ks'.cells])])]) 100 46 hnt [0, 3, 5] (e := .normal) (z := { t := [(0, PV.own 0 (mj + List.length (txC [PV.int IntKind.i64 k', PV.int IntKind.i64 n', PV.str s', PV.slice (Dats.len ks') (Dats.cells ks')]))), (3, PV.ptr 0 0), (5, PV.int IntKind.i64 (IntKind.wrap IntKind.i64 (Int.ofNat (j + 1))))], h := { bx := [{ cs := [PV.int IntKind.i64 k, PV.int IntKind.i64 n, PV.str s, PV.slice (Dats.len ks) (Dats.cells ks)], ty := 25 }], rw := [some { cs := rcj ++ bytesPL (txC [PV.int IntKind.i64 k', PV.int IntKind.i64 n', PV.str s', PV.slice (Dats.len ks') (Dats.cells ks')]), n := mj + List.length (txC [PV.int IntKind.i64 k', PV.int IntKind.i64 n', PV.str s', PV.slice (Dats.len ks') (Dats.cells ks')]), ty := 5, sz := 1 }] } }) (o := [(decide ((↑j : Int) < (↑(Dats.len ks) : Int)), true), (true, true), (decide (0 < (↑j : Int)), false), (false, false), (decide (0 ≤ (↑j : Int) ∧ (↑j : Int) < (↑(Dats.len ks) : Int)), true), (decide (TD.size d24 ≤ List.length (List.drop (Int.toNat (↑j : Int) * TD.size d24) (Dats.cells ks))), true), (same (PV.agg (List.take 4 (List.drop (Int.toNat (Int.ofNat j) * 4) (Dats.cells ks)))) (PV.agg [PV.int IntKind.i64 k', PV.int IntKind.i64 n', PV.str s', PV.slice (Dats.len ks') (Dats.cells ks')]), true), (isTx N [PV.int IntKind.i64 k', PV.int IntKind.i64 n', PV.str s', PV.slice (Dats.len ks') (Dats.cells ks')], true), (Nat.beq mj mj, true), (Nat.ble (mj + List.length (txC [PV.int IntKind.i64 k', PV.int IntKind.i64 n', PV.str s', PV.slice (Dats.len ks') (Dats.cells ks')])) 140737488355328, true)]) (by kernel_rfl) (by ((repeat' (first | exact okO_nil | refine okN ?_ ?_)); all_goals first | assumption | rfl | exact same_of rfl | exact sameS_self _ | (simp only [decide_eq_true_eq, decide_eq_false_iff_not, Nat.ble_eq, Nat.beq_eq, beq_eq_false_iff_ne, beq_iff_eq, ne_eq] <;> omega))) (fun st hs => ⟨⟨j + 1, hlt⟩, Nat.sub_lt_sub_left hlt (Nat.lt_succ_self j), ?_⟩)
        rw [hs, tx, hrc, hmj]
        simp only [T, hPs, bytesPL_append, List.length_append]
        rw [show IntKind.wrap IntKind.i64 (Int.ofNat (j + 1)) = ((j + 1 : Nat) : Int) from wj, List.append_assoc, Nat.add_assoc]
        rfl
      · have hPs : P (j + 1) = P j ++ [32] ++ textD (.mk k' n' s' ks') := by
          simp only [P, htk]
          rw [if_neg (fun h => hj0 h.1)]
          simp
        have d6 : decide (0 < (j : Int)) = true := by simp; omega
        rw [hPs, List.length_append, List.length_append] at hPj
        simp only [List.length_cons, List.length_nil] at hPj
        have d7 : Nat.ble (mj + 1 + List.length (txC [PV.int IntKind.i64 k', PV.int IntKind.i64 n', PV.str s', PV.slice (Dats.len ks') (Dats.cells ks')])) 140737488355328 = true := by rw [tx, Nat.ble_eq]; omega
        have d8 : Nat.ble ((mj + 1) * 1) 140737488355328 = true := by rw [Nat.ble_eq]; omega
        have d9 : Nat.ble (mj + 1) 9223372036854775807 = true := by rw [Nat.ble_eq]; omega
        refine SWP.runQ (SR ih [(46, [(28, true), (32, true), (35, true), (40, true), (41, true)])] [(46, [(41, .agg [.int .i64 k', .int .i64 n', .str s', .slice ks'.len ks'.cells])])]) 100 46 hnt [0, 3, 5] (e := .normal) (z := { t := [(0, PV.own 0 (mj + 1 + List.length (txC [PV.int IntKind.i64 k', PV.int IntKind.i64 n', PV.str s', PV.slice (Dats.len ks') (Dats.cells ks')]))), (3, PV.ptr 0 0), (5, PV.int IntKind.i64 (IntKind.wrap IntKind.i64 (Int.ofNat (j + 1))))], h := { bx := [{ cs := [PV.int IntKind.i64 k, PV.int IntKind.i64 n, PV.str s, PV.slice (Dats.len ks) (Dats.cells ks)], ty := 25 }], rw := [some { cs := rcj ++ [PV.int IntKind.u8 (32 : Int)] ++ bytesPL (txC [PV.int IntKind.i64 k', PV.int IntKind.i64 n', PV.str s', PV.slice (Dats.len ks') (Dats.cells ks')]), n := mj + 1 + List.length (txC [PV.int IntKind.i64 k', PV.int IntKind.i64 n', PV.str s', PV.slice (Dats.len ks') (Dats.cells ks')]), ty := 5, sz := 1 }] } }) (o := [(decide ((↑j : Int) < (↑(Dats.len ks) : Int)), true), (true, true), (decide (0 < (↑j : Int)), true), (true, true), (true, true), (Nat.ble ((mj + 1) * 1) 140737488355328, true), (Nat.ble (mj + 1) 9223372036854775807, true), (decide (0 ≤ (↑j : Int) ∧ (↑j : Int) < (↑(Dats.len ks) : Int)), true), (decide (TD.size d24 ≤ List.length (List.drop (Int.toNat (↑j : Int) * TD.size d24) (Dats.cells ks))), true), (same (PV.agg (List.take 4 (List.drop (Int.toNat (Int.ofNat j) * 4) (Dats.cells ks)))) (PV.agg [PV.int IntKind.i64 k', PV.int IntKind.i64 n', PV.str s', PV.slice (Dats.len ks') (Dats.cells ks')]), true), (isTx N [PV.int IntKind.i64 k', PV.int IntKind.i64 n', PV.str s', PV.slice (Dats.len ks') (Dats.cells ks')], true), (Nat.beq (mj + 1) (mj + 1), true), (Nat.ble (mj + 1 + List.length (txC [PV.int IntKind.i64 k', PV.int IntKind.i64 n', PV.str s', PV.slice (Dats.len ks') (Dats.cells ks')])) 140737488355328, true)]) (by kernel_rfl) (by ((repeat' (first | exact okO_nil | refine okN ?_ ?_)); all_goals first | assumption | rfl | exact same_of rfl | exact sameS_self _ | (simp only [decide_eq_true_eq, decide_eq_false_iff_not, Nat.ble_eq, Nat.beq_eq, beq_eq_false_iff_ne, beq_iff_eq, ne_eq] <;> omega))) (fun st hs => ⟨⟨j + 1, hlt⟩, Nat.sub_lt_sub_left hlt (Nat.lt_succ_self j), ?_⟩)
        rw [hs, tx, hrc, hmj]
        simp only [T, hPs, bytesPL_append, List.length_append]
        rw [show IntKind.wrap IntKind.i64 (Int.ofNat (j + 1)) = ((j + 1 : Nat) : Int) from wj]
        simp only [List.append_assoc, Nat.add_assoc]
        rfl
    · obtain rfl : j = ks.len := by omega
      have d2 := ge_at hge
      have hPl : P ks.len = 40 :: textL true ks := by simp only [P, take_all]
      refine SWP.runQ (SR ih [(46, [(28, false)])] []) 100 46 hnt [0] (e := .exit 1) (z := ⟨[(0, .own 0 (m + (P ks.len).length))], ⟨[DB k n s ks], [some (bR (rc ++ bytesPL (P ks.len)) (m + (P ks.len).length))]⟩⟩) (o := [(decide ((ks.len : Int) < (ks.len : Int)), false), (false, false)]) (by kernel_rfl) (by ((repeat' (first | exact okO_nil | refine okN ?_ ?_)); all_goals first | assumption | rfl | exact same_of rfl | exact sameS_self _ | (simp only [decide_eq_true_eq, decide_eq_false_iff_not, Nat.ble_eq, Nat.beq_eq, beq_eq_false_iff_ne, beq_iff_eq, ne_eq] <;> omega))) (fun st hs => hK2 st (.norm [0] ?_))
      rw [hs]
      have hl2 : (P ks.len).length = (textL true ks).length + 1 := by rw [hPl]; rfl
      have d8 : Nat.ble ((m + (P ks.len).length + 1) * 1) 140737488355328 = true := by rw [Nat.ble_eq]; omega
      have d9 : Nat.ble (m + (P ks.len).length + 1) 9223372036854775807 = true := by rw [Nat.ble_eq]; omega
      refine SWP.runQ (SR ih [(46, [(45, true)])] []) 100 46 hnt [4] (e := .ret) (z := ⟨[(4, .own 0 (m + (P ks.len).length + 1))], ⟨[DB k n s ks], [some (bR (rc ++ bytesPL (P ks.len) ++ [.int .u8 41]) (m + (P ks.len).length + 1))]⟩⟩) (o := [(true, true), (Nat.ble ((m + (P ks.len).length + 1) * 1) 140737488355328, true), (Nat.ble (m + (P ks.len).length + 1) 9223372036854775807, true)]) (by kernel_rfl) (by ((repeat' (first | exact okO_nil | refine okN ?_ ?_)); all_goals first | assumption | rfl | exact same_of rfl | exact sameS_self _ | (simp only [decide_eq_true_eq, decide_eq_false_iff_not, Nat.ble_eq, Nat.beq_eq, beq_eq_false_iff_ne, beq_iff_eq, ne_eq] <;> omega))) (fun st hs => fin st (P ks.len ++ [41]) ?_ ?_)
      · rw [ht, hPl]; rfl
      · rw [hs]
        simp only [bytesPL_append, List.length_append, List.append_assoc, Nat.add_assoc]
        rfl))
  rcases hB with ⟨rfl, rfl⟩ | ⟨rfl, rfl, rfl, rfl⟩
  · have d8 : Nat.ble ((m + 1) * 1) 140737488355328 = true := by rw [Nat.ble_eq]; omega
    have d9 : Nat.ble (m + 1) 9223372036854775807 = true := by rw [Nat.ble_eq]; omega
    exact SWP.runQ (SR ih [(46, [(23, true)])] []) 100 46 hnt [0, 3] (e := .normal) (z := { t := [(0, PV.own 0 (m + 1)), (3, PV.ptr 0 0)], h := { bx := [{ cs := [PV.int IntKind.i64 k, PV.int IntKind.i64 n, PV.str s, PV.slice (Dats.len ks) (Dats.cells ks)], ty := 25 }], rw := [some { cs := rc ++ [PV.int IntKind.u8 (40 : Int)], n := m + 1, ty := 5, sz := 1 }] } }) (o := [(true, true), (Nat.ble ((m + 1) * 1) 140737488355328, true), (Nat.ble (m + 1) 9223372036854775807, true)]) (by kernel_rfl) (by ((repeat' (first | exact okO_nil | refine okN ?_ ?_)); all_goals first | assumption | rfl | exact same_of rfl | exact sameS_self _ | (simp only [decide_eq_true_eq, decide_eq_false_iff_not, Nat.ble_eq, Nat.beq_eq, beq_eq_false_iff_ne, beq_iff_eq, ne_eq] <;> omega))) (fun st hs => rest st hs)
  · exact SWP.runQ (SR ih [(46, [(23, true)])] []) 100 46 hnt [0, 3] (e := .normal) (z := { t := [(0, PV.own 0 1), (3, PV.ptr 0 0)], h := { bx := [{ cs := [PV.int IntKind.i64 k, PV.int IntKind.i64 n, PV.str s, PV.slice (Dats.len ks) (Dats.cells ks)], ty := 25 }], rw := [some { cs := [PV.int IntKind.u8 (40 : Int)], n := 1, ty := 5, sz := 1 }] } }) (o := [(true, true), (true, true), (true, true)]) (by kernel_rfl) (by ((repeat' (first | exact okO_nil | refine okN ?_ ?_)); all_goals first | assumption | rfl | exact same_of rfl | exact sameS_self _ | (simp only [decide_eq_true_eq, decide_eq_false_iff_not, Nat.ble_eq, Nat.beq_eq, beq_eq_false_iff_ne, beq_iff_eq, ne_eq] <;> omega))) (fun st hs => rest st hs)
theorem rputAt (N : Nat) : RPutAt N := by
  induction N with
  | zero => intro d h; omega
  | succ N ih => exact fun d hN hok hrng rc m hm => rput_gen ih d hN hok hrng _ _ rc m (.inl ⟨rfl, rfl⟩) hm
theorem rput_new (d : Dat) (hok : d.ok) (hrng : d.rng) (hm : (textD d).length ≤ 140737488355328) :
    RCalls G0 46 [.nil, .agg d.cells] ⟨[], []⟩ (fun o H => o = .ret (.own 0 (textD d).length) ∧ H = ⟨[], [some (bR (bytesPL (textD d)) ((textD d).length))]⟩) := by
  have := rput_gen (rputAt (d.size + 1)) d (by omega) hok hrng .nil [] [] 0 (.inr ⟨rfl, rfl, rfl, rfl⟩) (by omega)
  simpa using this
end Seat
end Go.Proofs.YtenpjkcclmmlhaaDoor
/- Text: Text of both. -/
namespace Go.Proofs.YtenpjkcclmmlhaaDoor
open Go.AS Go.RowKit
set_option linter.unusedVariables false
set_option linter.unusedSimpArgs false
set_option maxRecDepth 100000
namespace Seat
open Classical in
noncomputable def isTxt (cs : List PV) : Bool := decide (∃ d : Dat, d.cells = cs ∧ d.ok ∧ d.rng ∧ (textD d).length ≤ 140737488355328)
theorem isTxt_at {d : Dat} (ho : d.ok) (hr : d.rng) (hl : (textD d).length ≤ 140737488355328) : isTxt d.cells = true := by
  unfold isTxt
  classical exact decide_eq_true ⟨d, rfl, ho, hr, hl⟩
theorem isTxt_of {cs : List PV} (h : isTxt cs = true) : ∃ d : Dat, d.cells = cs ∧ d.ok ∧ d.rng ∧ (textD d).length ≤ 140737488355328 := by
  unfold isTxt at h
  classical exact of_decide_eq_true h
noncomputable def newV (f : Nat) (xs : List PV) (H : Hp) : Option (PV × Hp × Ob) := match f, xs, H with
  | 64, [.ptr 0 0, .agg cs], ⟨[⟨[.nilptr, .nil], ty⟩], []⟩ => match Nat.beq ty 84 with
    | true => some (.tup [], ⟨[⟨[.ptr 0 0, .own 0 (txC cs).length], ty⟩], [some ⟨bytesPL (txC cs), (txC cs).length, 5, 1⟩]⟩, [(isTxt cs, true)])
    | false => none
  | 46, [.nil, .agg cs], ⟨[], []⟩ => some (.own 0 (txC cs).length, ⟨[], [some ⟨bytesPL (txC cs), (txC cs).length, 5, 1⟩]⟩, [(isTxt cs, true)])
  | _, _, _ => none
theorem newV_ok (f : Nat) (xs : List PV) (H : Hp) (r : PV) (H' : Hp) (o : Ob) (h : newV f xs H = some (r, H', o)) (ho : ∀ p ∈ o, p.1 = p.2) : RCalls G0 f xs H (fun o' H2 => o' = .ret r ∧ H2 = H') ∧ r.scP (belowN H'.bx.length) (belowN H'.rw.length) = true ∧ H'.scB H'.bx.length H'.rw.length = true := by
  unfold newV at h
  split at h
  · rename_i cs ty
    split at h
    · rename_i hc
      cases h
      simp only [Nat.beq_eq] at hc
      subst hc
      obtain ⟨d, rfl, h1, h2, h3⟩ := isTxt_of (ho (isTxt cs, true) (by simp))
      rw [txC_at]
      exact ⟨put_new d h1 h2 h3, rfl, rfl⟩
    · cases h
  · rename_i cs
    cases h
    obtain ⟨d, rfl, h1, h2, h3⟩ := isTxt_of (ho (isTxt cs, true) (by simp))
    rw [txC_at]
    exact ⟨rput_new d h1 h2 h3, rfl, rfl⟩
  · cases h
noncomputable def ST (l : List (Nat × List (Nat × Bool))) : Cfg G0 := { F := F, hF := hF, S := fmtS, hS := fmtS_ok, V := newV, hV := newV_ok, hp := hpB, D := hpB, orc := orcM l }
theorem text_prog (d : Dat) (hok : d.ok) (hrng : d.rng) (h0 : 0 < (textD d).length) (hm : (textD d).length ≤ 140737488355328) : Pure G0 42 [.agg d.cells] (fun r => r = .str (mkS (textD d))) := by
  obtain ⟨k, n, s, ks⟩ := d
  have tx : txC [PV.int IntKind.i64 k, PV.int IntKind.i64 n, PV.str s, PV.slice (Dats.len ks) (Dats.cells ks)] = textD (.mk k n s ks) := txC_at (.mk k n s ks)
  have d1 : isTxt [PV.int IntKind.i64 k, PV.int IntKind.i64 n, PV.str s, PV.slice (Dats.len ks) (Dats.cells ks)] = true := isTxt_at (d := .mk k n s ks) hok hrng hm
  obtain ⟨x, hx⟩ : ∃ x, x = txC [PV.int IntKind.i64 k, PV.int IntKind.i64 n, PV.str s, PV.slice (Dats.len ks) (Dats.cells ks)] := ⟨_, rfl⟩
  have d2 : Nat.ble 1 (List.length x) = true := by rw [hx, tx, Nat.ble_eq]; exact h0
  have d3 : Nat.beq (List.length (bytesPL x)) (List.length x) = true := by rw [Nat.beq_eq, bytesPL_length]
  have d4 : Nat.ble (List.length x) 9223372036854775807 = true := by rw [hx, tx, Nat.ble_eq]; omega
  have d5 : isBytes8 (bytesPL x) = true := isBytes8_PL _
  rw [hx] at d2 d3 d4 d5
  refine Fn.enterB Tryd.func42 Tryd.ntmps42 rfl (Nat.le_of_ble_eq_true rfl) fun C fr fp hnt hnb hp hfr hfp => ?_
  refine SWP.runQ (ST [(14, [(7, true), (13, true)])]) 100 7 hnt [2] (e := .ret) (z := { t := [(2, PV.str (strOf (bytesPL (txC [PV.int IntKind.i64 k, PV.int IntKind.i64 n, PV.str s, PV.slice (Dats.len ks) (Dats.cells ks)]))))], h := { bx := [{ cs := [PV.int IntKind.i64 k, PV.int IntKind.i64 n, PV.str s, PV.slice (Dats.len ks) (Dats.cells ks)], ty := 25 }, { cs := [PV.ptr 1 0, PV.own 0 (List.length (txC [PV.int IntKind.i64 k, PV.int IntKind.i64 n, PV.str s, PV.slice (Dats.len ks) (Dats.cells ks)]))], ty := 84 }], rw := [none] } }) (o := [(isTxt [PV.int IntKind.i64 k, PV.int IntKind.i64 n, PV.str s, PV.slice (Dats.len ks) (Dats.cells ks)], true), (Nat.ble 1 (List.length (txC [PV.int IntKind.i64 k, PV.int IntKind.i64 n, PV.str s, PV.slice (Dats.len ks) (Dats.cells ks)])), true), (Nat.beq (List.length (txC [PV.int IntKind.i64 k, PV.int IntKind.i64 n, PV.str s, PV.slice (Dats.len ks) (Dats.cells ks)])) (List.length (txC [PV.int IntKind.i64 k, PV.int IntKind.i64 n, PV.str s, PV.slice (Dats.len ks) (Dats.cells ks)])), true), (Nat.beq (List.length (bytesPL (txC [PV.int IntKind.i64 k, PV.int IntKind.i64 n, PV.str s, PV.slice (Dats.len ks) (Dats.cells ks)]))) (List.length (txC [PV.int IntKind.i64 k, PV.int IntKind.i64 n, PV.str s, PV.slice (Dats.len ks) (Dats.cells ks)])), true), (Nat.ble 1 (List.length (txC [PV.int IntKind.i64 k, PV.int IntKind.i64 n, PV.str s, PV.slice (Dats.len ks) (Dats.cells ks)])), true), (Nat.ble (List.length (txC [PV.int IntKind.i64 k, PV.int IntKind.i64 n, PV.str s, PV.slice (Dats.len ks) (Dats.cells ks)])) 9223372036854775807, true), (isBytes8 (bytesPL (txC [PV.int IntKind.i64 k, PV.int IntKind.i64 n, PV.str s, PV.slice (Dats.len ks) (Dats.cells ks)])), true)]) (by kernel_rfl) (by ((repeat' (first | exact okO_nil | refine okN ?_ ?_)); all_goals first | assumption | rfl | exact same_of rfl | exact sameS_self _ | (simp only [decide_eq_true_eq, decide_eq_false_iff_not, Nat.ble_eq, Nat.beq_eq, beq_eq_false_iff_ne, beq_iff_eq, ne_eq] <;> omega))) (fun st hs => hfr st [2] ?_)
  rw [hs, tx]
  exact ⟨0, .str (strOf (bytesPL (textD (.mk k n s ks)))), Nat.le_refl _, Nat.zero_le _, rfl, rfl, rfl, rfl, _, rfl, congrArg PV.str (strOf_PV (mkS (textD (.mk k n s ks))))⟩
theorem text_ref (d : Dat) (hok : d.ok) (hrng : d.rng) (hm : (textD d).length ≤ 140737488355328) : Pure G0 22 [.agg d.cells] (fun r => r = .str (mkS (textD d))) := by
  obtain ⟨k, n, s, ks⟩ := d
  have tx : txC [PV.int IntKind.i64 k, PV.int IntKind.i64 n, PV.str s, PV.slice (Dats.len ks) (Dats.cells ks)] = textD (.mk k n s ks) := txC_at (.mk k n s ks)
  have d1 : isTxt [PV.int IntKind.i64 k, PV.int IntKind.i64 n, PV.str s, PV.slice (Dats.len ks) (Dats.cells ks)] = true := isTxt_at (d := .mk k n s ks) hok hrng hm
  obtain ⟨x, hx⟩ : ∃ x, x = txC [PV.int IntKind.i64 k, PV.int IntKind.i64 n, PV.str s, PV.slice (Dats.len ks) (Dats.cells ks)] := ⟨_, rfl⟩
  have d3 : Nat.beq (List.length (bytesPL x)) (List.length x) = true := by rw [Nat.beq_eq, bytesPL_length]
  have d5 : isBytes (bytesPL x) = true := isBytes_PL _
  rw [hx] at d3 d5
  refine Fn.enterB Tryd.func22 Tryd.ntmps22 rfl (Nat.le_of_ble_eq_true rfl) fun C fr fp hnt hnb hp hfr hfp => ?_
  refine SWP.runQ (ST [(6, [(5, true)])]) 100 6 hnt [2] (e := .ret) (z := { t := [(2, PV.str (strOf (bytesPL (txC [PV.int IntKind.i64 k, PV.int IntKind.i64 n, PV.str s, PV.slice (Dats.len ks) (Dats.cells ks)]))))], h := { bx := [{ cs := [PV.int IntKind.i64 k, PV.int IntKind.i64 n, PV.str s, PV.slice (Dats.len ks) (Dats.cells ks)], ty := 25 }], rw := [some { cs := bytesPL (txC [PV.int IntKind.i64 k, PV.int IntKind.i64 n, PV.str s, PV.slice (Dats.len ks) (Dats.cells ks)]), n := List.length (txC [PV.int IntKind.i64 k, PV.int IntKind.i64 n, PV.str s, PV.slice (Dats.len ks) (Dats.cells ks)]), ty := 5, sz := 1 }] } }) (o := [(isTxt [PV.int IntKind.i64 k, PV.int IntKind.i64 n, PV.str s, PV.slice (Dats.len ks) (Dats.cells ks)], true), (Nat.beq (List.length (bytesPL (txC [PV.int IntKind.i64 k, PV.int IntKind.i64 n, PV.str s, PV.slice (Dats.len ks) (Dats.cells ks)]))) (List.length (txC [PV.int IntKind.i64 k, PV.int IntKind.i64 n, PV.str s, PV.slice (Dats.len ks) (Dats.cells ks)])), true), (isBytes (bytesPL (txC [PV.int IntKind.i64 k, PV.int IntKind.i64 n, PV.str s, PV.slice (Dats.len ks) (Dats.cells ks)])), true)]) (by kernel_rfl) (by ((repeat' (first | exact okO_nil | refine okN ?_ ?_)); all_goals first | assumption | rfl | exact same_of rfl | exact sameS_self _ | (simp only [decide_eq_true_eq, decide_eq_false_iff_not, Nat.ble_eq, Nat.beq_eq, beq_eq_false_iff_ne, beq_iff_eq, ne_eq] <;> omega))) (fun st hs => hfr st [2] ?_)
  rw [hs, tx]
  exact ⟨0, .str (strOf (bytesPL (textD (.mk k n s ks)))), Nat.le_refl _, Nat.zero_le _, rfl, rfl, rfl, rfl, _, rfl, congrArg PV.str (strOf_PV (mkS (textD (.mk k n s ks))))⟩
end Seat
end Go.Proofs.YtenpjkcclmmlhaaDoor
/- Checked data: how long their texts are; the document's Check (from the layout's texts). -/
namespace Go.Proofs.YtenpjkcclmmlhaaDoor
open Go.AS Go.RowKit
set_option linter.unusedVariables false
set_option linter.unusedSimpArgs false
set_option maxRecDepth 100000
namespace Seat
theorem text_pos (d : Dat) (h : formedD d = true) : 0 < (textD d).length := by
  obtain ⟨k, n, s, ks⟩ := d
  rw [textD]
  split
  · rw [Go.Lib.itoa]
    split
    · simp
    · rw [Go.Lib.decDigits_length]; exact Go.Lib.nDigits_pos _
  · split
    · rename_i h1 h2
      subst h2
      simp only [formedD] at h
      have hs : symOk s = true := by
        have h' : (n = 0 ∧ symOk s = true) ∧ ks.len = 0 := by simpa using h
        exact h'.1.2
      rcases Nat.eq_zero_or_pos s.size with h0 | h0
      · simp [symOk, symBad, h0] at hs
      · exact h0
    · simp
mutual
theorem size_parts : ∀ d : Dat, d.size + 1 = 2 * parts d
  | .mk k n s ks => by simp only [Dat.size, parts]; have := size_partsL ks; omega
theorem size_partsL : ∀ ks : Dats, ks.size = 2 * partsL ks
  | .nil => rfl
  | .cons d ds => by simp only [Dats.size, partsL]; have := size_parts d; have := size_partsL ds; omega
end
theorem itoa_len (n : Int) (h0 : -9223372036854775808 ≤ n) (h1 : n ≤ 9223372036854775807) : (Go.Lib.itoa n).length ≤ 21 := by
  have h10 : ∀ u : Nat, u ≤ 9223372036854775808 → Go.Lib.nDigits u ≤ 20 := fun u hu => nd_le 19 u (by rw [show (10 : Nat) ^ (19 + 1) = 100000000000000000000 from rfl]; omega)
  rw [Go.Lib.itoa]
  split
  · simp only [List.length_cons, Go.Lib.decDigits_length]
    have := h10 n.natAbs (by omega)
    omega
  · rw [Go.Lib.decDigits_length]
    have := h10 n.toNat (by omega)
    omega
mutual
theorem text_len : ∀ d : Dat, d.rng → formedD d = true → (textD d).length ≤ 42 * d.size
  | .mk k n s ks, hr, hf => by
    simp only [formedD, Bool.or_eq_true, Bool.and_eq_true, decide_eq_true_eq] at hf
    simp only [Dat.size]
    rw [textD]
    split
    · have := itoa_len n hr.1.1 hr.1.2
      omega
    · split
      · rename_i h1 h2
        have hs : s.size ≤ 40 := by
          rcases hf with (h | h) | h
          · omega
          · have := h.1.2
            simp only [symOk, symBad, Bool.and_eq_true, Bool.not_eq_true', Bool.or_eq_false_iff, decide_eq_false_iff_not] at this
            omega
          · omega
        show s.size ≤ _
        omega
      · have hk : formedL ks = true := by
          rcases hf with (h | h) | h
          · omega
          · omega
          · exact h.2
        have := text_lenL ks true hr.2 hk
        simp only [List.length_cons, List.length_append, List.length_nil]
        omega
theorem text_lenL : ∀ (ks : Dats) (f : Bool), ks.rng → formedL ks = true → (textL f ks).length ≤ 42 * ks.size
  | .nil, f, hr, hf => by simp [textL]
  | .cons d ds, f, hr, hf => by
    simp only [formedL, Bool.and_eq_true] at hf
    have h1 := text_len d hr.1 hf.1
    have h2 := text_lenL ds false hr.2 hf.2
    simp only [textL, List.length_append, Dats.size]
    cases f <;> simp <;> omega
end
def Small (d : Dat) : Prop := d.ok ∧ d.rng ∧ parts d ≤ 400000
theorem Small.text {d : Dat} (h : Small d) (hf : formedD d = true) : (textD d).length ≤ 4398046511104 := by
  have := text_len d h.2.1 hf
  have := size_parts d
  have := h.2.2
  omega
theorem deepN_parts : ∀ d : Dat, deepN d ≤ parts d := by
  have key : (∀ N, (∀ d : Dat, d.size < N → deepN d ≤ parts d) ∧ (∀ ks : Dats, ks.size < N → deepNL ks ≤ partsL ks)) := by
    intro N
    induction N with
    | zero => exact ⟨fun d h => by omega, fun d h => by omega⟩
    | succ N ih =>
      refine ⟨fun d hd => ?_, fun ks hk => ?_⟩
      · obtain ⟨k, n, s, ks⟩ := d
        simp only [Dat.size] at hd
        have := ih.2 ks (by omega)
        simp only [deepN, parts]
        omega
      · cases ks with
        | nil => exact Nat.le_refl _
        | cons d ds =>
          simp only [Dats.size] at hk
          have h1 := ih.1 d (by omega)
          have h2 := ih.2 ds (by omega)
          simp only [deepNL, partsL]
          omega
  exact fun d => (key (d.size + 1)).1 d (by omega)
mutual
theorem cutD_rng : ∀ (d : Dat) (dp p : Int), d.rng → (cutD d dp p).1.rng
  | .mk k n s ks, dp, p, h => ⟨h.1, cutL_rng ks dp (p - 1) h.2⟩
theorem cutL_rng : ∀ (ks : Dats) (dp p : Int), ks.rng → (cutL ks dp p).1.rng
  | .nil, dp, p, h => by simp only [cutL, Dats.rng]
  | .cons d ds, dp, p, h => by
    simp only [cutL]
    split
    · exact ⟨cutD_rng d (dp - 1) p h.1, cutL_rng ds dp _ h.2⟩
    · trivial
end
theorem cut_small (d : Dat) (ho : d.ok) (hr : d.rng) (p dp : Int) (h1 : 1 ≤ p) (h2 : p ≤ 400000) : Small (cutD d dp p).1 := ⟨cutD_ok d dp p ho, cutD_rng d dp p hr, by have := cutD_parts d dp p h1; omega⟩
theorem Small.good {d : Dat} (h : Small d) : Good d := ⟨h.1, by have := deepN_parts d; have := h.2.2; omega⟩
theorem wrapC (a : Nat) (h : a ≤ 9223372036854775807) : IntKind.wrap IntKind.i64 ((a : Nat) : Int) = (a : Int) := by rw [IntKind.wrap_i64]; omega
end Seat
end Go.Proofs.YtenpjkcclmmlhaaDoor
/- The program's reader: read, Read, Write. Printed by dev/rp7.py and dev/nfsub.py (this session's). -/
namespace Go.Proofs.YtenpjkcclmmlhaaDoor
open Go.AS Go.RowKit
set_option linter.unusedVariables false
set_option linter.unusedSimpArgs false
set_option maxRecDepth 100000
set_option maxHeartbeats 4000000
namespace Seat
theorem zero_J : ndJ .zero = [.int .i64 0, .int .i64 0, .str ⟨#[]⟩, .slice 0 []] := rfl
theorem one_long {s : ByteArray} (h : s.size ≤ 20000) : oneR s = lnR s := by
  unfold oneR
  rw [if_neg (by omega)]; rfl
theorem one_big {s : ByteArray} (h : 20000 < s.size) : oneR s = (.zero, 0, 3) := by
  unfold oneR
  rw [if_pos h]
noncomputable def reS (f : Nat) (args : List PV) : Option (PV × Ob) := match f, args with
  | 58, [.str s] => some (.tup [.agg (ndJ (lnX s)), .agg (ndP (lnX s)), .int .i64 (lnA s), .int .i64 (lnE s)], [(Nat.ble s.size 1099511627776, true)])
  | 41, [.agg cs] => some (.int .i64 (ofCells chkD 0 cs), [(isGood cs, true)])
  | 42, [.agg cs] => some (.str (mkS (txC cs)), [(isTxt cs, true), (Nat.ble 1 (txC cs).length, true)])
  | _, _ => none
theorem reS_ok (f : Nat) (args : List PV) (r : PV) (o : Ob) (h : reS f args = some (r, o)) (ho : ∀ p ∈ o, p.1 = p.2) (_ : pureL args = true) : Pure G0 f args (fun x => x = r) := by
  unfold reS at h
  split at h
  · rename_i s _
    cases h
    exact long_ok s (Nat.le_of_ble_eq_true (ho _ (List.mem_singleton.2 rfl)))
  · cases h
    obtain ⟨d, rfl, h1⟩ := isGood_of (ho _ (List.mem_singleton.2 rfl))
    rw [ofCells_at]; exact dcheck_ok d h1
  · rename_i cs _
    cases h
    have h1 := ho (isTxt cs, true) (by simp)
    have h2 := ho (Nat.ble 1 (txC cs).length, true) (by simp)
    obtain ⟨d, rfl, g1, g2, g3⟩ := isTxt_of h1
    rw [txC_at] at h2 ⊢
    exact text_prog d g1 g2 (Nat.le_of_ble_eq_true h2) g3
  · cases h
noncomputable def SRe (l : List (Nat × List (Nat × Bool))) (v : List (Nat × List (Nat × PV))) : Cfg G0 := { F := F, hF := hF, S := reS, hS := reS_ok, orc := orcM l, val := valM v }
theorem readP (s : ByteArray) : Pure G0 37 [.str s] (fun r => r = .tup [.agg (ndJ (onX s)), .agg (ndP (onX s)), .int .i64 (onA s), .int .i64 (onE s)]) := by
  refine Pure.nz ?_
  refine Fn.enterB Tryd.func37 Tryd.ntmps37 rfl (Nat.le_of_ble_eq_true rfl) fun C fr fp hnt hnb hp hfr hfp => ?_
  by_cases hb : 20000 < s.size
  · have d1 : decide (20000 < (s.size : Int)) = true := by rw [decide_eq_true_eq]; omega
    exact SWP.runQ (SRe [(17, [(8, true)])] []) 100 17 hnt [2, 3, 4, 5] (e := .ret) (z := { t := [(2, PV.ptr 0 0), (3, PV.ptr 1 0), (4, PV.int IntKind.i64 (0 : Int)), (5, PV.int IntKind.i64 (3 : Int))], h := { bx := [{ cs := [PV.int IntKind.i64 (0 : Int), PV.int IntKind.i64 (0 : Int), PV.str { data := #[] }, PV.nil], ty := 25 }, { cs := [PV.int IntKind.i64 (0 : Int), PV.nil], ty := 64 }], rw := [] } }) (o := [(decide (20000 < (↑(ByteArray.size s) : Int)), true), (true, true)]) (by kernel_rfl) (by ((repeat' (first | exact okO_nil | refine okN ?_ ?_)); all_goals first | assumption | rfl | exact same_of rfl | exact sameS_self _ | (simp only [decide_eq_true_eq, decide_eq_false_iff_not, Nat.ble_eq, Nat.beq_eq, beq_eq_false_iff_ne, beq_iff_eq, ne_eq] <;> omega))) (fun st hst => hfr st [2, 3, 4, 5] (by
      rw [hst]
      refine ⟨0, .tup [.agg [.int .i64 0, .int .i64 0, .str ⟨#[]⟩, .nil], .agg [.int .i64 0, .nil], .int .i64 0, .int .i64 3], Nat.le_refl _, Nat.zero_le _, rfl, rfl, rfl, rfl, _, rfl, ?_⟩
      unfold onX onA onE
      rw [one_big hb]; rfl))
  · have d1 : decide (20000 < (s.size : Int)) = false := by rw [decide_eq_false_iff_not]; omega
    have d2 : Nat.ble s.size 1099511627776 = true := by rw [Nat.ble_eq]; omega
    exact SWP.runQ (SRe [(17, [(8, false)])] []) 100 17 hnt [2, 3, 4, 5] (e := .ret) (z := { t := [(2, PV.ptr 0 0), (3, PV.ptr 1 0), (4, PV.int IntKind.i64 (lnA s)), (5, PV.int IntKind.i64 (lnE s))], h := { bx := [{ cs := [PV.int IntKind.i64 (ndK (lnX s)), PV.int IntKind.i64 (ndN (lnX s)), PV.str (ndT (lnX s)), PV.slice (Dats.len (Nds.dat (ndS (lnX s)))) (Dats.cells (Nds.dat (ndS (lnX s))))], ty := 25 }, { cs := [PV.int IntKind.i64 (ndA (lnX s)), PV.slice (Nds.len (ndS (lnX s))) (Nds.pl (ndS (lnX s)))], ty := 64 }], rw := [] } }) (o := [(decide (20000 < (↑(ByteArray.size s) : Int)), false), (false, false), (true, true), (Nat.ble (ByteArray.size s) 1099511627776, true)]) (by kernel_rfl) (by ((repeat' (first | exact okO_nil | refine okN ?_ ?_)); all_goals first | assumption | rfl | exact same_of rfl | exact sameS_self _ | (simp only [decide_eq_true_eq, decide_eq_false_iff_not, Nat.ble_eq, Nat.beq_eq, beq_eq_false_iff_ne, beq_iff_eq, ne_eq] <;> omega))) (fun st hst => hfr st [2, 3, 4, 5] (by
      rw [hst]
      refine ⟨0, .tup [.agg (ndJ (lnX s)), .agg (ndP (lnX s)), .int .i64 (lnA s), .int .i64 (lnE s)], Nat.le_refl _, Nat.zero_le _, rfl, rfl, rfl, rfl, _, rfl, ?_⟩
      show PV.tup [.agg (nzL (ndJ (lnX s))), .agg (nzL (ndP (lnX s))), .int .i64 (lnA s), .int .i64 (lnE s)] = _
      unfold onX onA onE
      rw [one_long (by omega), ndJ_eq, ndP_eq, Dat.nz, Nd.pl_nz, ← ndJ_eq, ← ndP_eq]; rfl))
theorem readD_on (s : ByteArray) : (readD s).cells = ndJ (onX s) := by
  unfold readD
  split
  · rw [ndJ_eq]
  · rename_i h
    have : onX s = .zero := by
      unfold onE at h
      unfold onX
      unfold oneR at h ⊢
      split at h
      · rename_i h1; rw [if_pos h1]
      · rename_i h1
        rw [if_neg h1]
        split at h
        · rename_i h2
          rw [if_pos h2]
          split at h
          · rename_i h3; rw [if_pos h3]
          · exact absurd rfl h
        · rename_i h2
          rw [if_neg h2]
    rw [this]; rfl
/-- What Write gives. -/
def wrB (d : Dat) : ByteArray := if chkD d = 0 then (if (textD d).length ≤ 2000000 then mkS (textD d) else ⟨#[]⟩) else ⟨#[]⟩
def wrE (d : Dat) : Int := if chkD d = 0 then (if (textD d).length ≤ 2000000 then 0 else 3) else chkD d
theorem chk_formed {d : Dat} (h : chkD d = 0) : formedD d = true ∧ w64 (parts d) ≤ 100000 ∧ deepN d ≤ 1000 := by
  unfold chkD at h
  split at h
  · exact absurd h (by decide)
  · rename_i h1
    split at h
    · exact absurd h (by decide)
    · split at h
      · exact absurd h (by decide)
      · refine ⟨by simpa using h1, by omega, by omega⟩
theorem writeP (d : Dat) (hg : Good d) (hr : d.rng) (hp : parts d ≤ 1000000000) : Pure G0 20 [.agg d.cells] (fun r => r = .tup [.str (wrB d), .int .i64 (wrE d)]) := by
  obtain ⟨k, n, s, ks⟩ := d
  have eW : wrB (.mk k n s ks) = _ := rfl
  have eE : wrE (.mk k n s ks) = _ := rfl
  unfold wrB at eW
  unfold wrE at eE
  have ec : ofCells chkD 0 [PV.int IntKind.i64 k, PV.int IntKind.i64 n, PV.str s, PV.slice (Dats.len ks) (Dats.cells ks)] = chkD (.mk k n s ks) := ofCells_at chkD 0 (.mk k n s ks)
  have tx : txC [PV.int IntKind.i64 k, PV.int IntKind.i64 n, PV.str s, PV.slice (Dats.len ks) (Dats.cells ks)] = textD (.mk k n s ks) := txC_at (.mk k n s ks)
  have d0 : isGood [PV.int IntKind.i64 k, PV.int IntKind.i64 n, PV.str s, PV.slice (Dats.len ks) (Dats.cells ks)] = true := isGood_at (d := .mk k n s ks) hg
  refine Fn.enterB Tryd.func20 Tryd.ntmps20 rfl (Nat.le_of_ble_eq_true rfl) fun C fr fp hnt hnb hp' hfr hfp => ?_
  have fin : ∀ st b e, nrm [2, 3] st = ⟨[(2, .str b), (3, .int .i64 e)], ⟨[⟨[PV.int IntKind.i64 k, PV.int IntKind.i64 n, PV.str s, PV.slice (Dats.len ks) (Dats.cells ks)], 25⟩], []⟩⟩ → wrB (.mk k n s ks) = b → wrE (.mk k n s ks) = e → fr st := fun st b e hst h1 h2 => hfr st [2, 3] (by
    rw [hst, h1, h2]
    exact ⟨0, .tup [.str b, .int .i64 e], Nat.le_refl _, Nat.zero_le _, rfl, rfl, rfl, rfl, _, rfl, rfl⟩)
  by_cases h0 : chkD (.mk k n s ks) = 0
  · obtain ⟨hf, _, _⟩ := chk_formed h0
    have hpos := text_pos _ hf
    have hlen := text_len _ hr hf
    have hsz := size_parts (.mk k n s ks)
    have d1 : (!ofCells chkD 0 [PV.int IntKind.i64 k, PV.int IntKind.i64 n, PV.str s, PV.slice (Dats.len ks) (Dats.cells ks)] == (0 : Int)) = false := by rw [ec, h0]; rfl
    have d2 : isTxt [PV.int IntKind.i64 k, PV.int IntKind.i64 n, PV.str s, PV.slice (Dats.len ks) (Dats.cells ks)] = true := isTxt_at (d := .mk k n s ks) hg.1 hr (by omega)
    have d3 : Nat.ble 1 (txC [PV.int IntKind.i64 k, PV.int IntKind.i64 n, PV.str s, PV.slice (Dats.len ks) (Dats.cells ks)]).length = true := by rw [tx, Nat.ble_eq]; exact hpos
    have hsize : (ByteArray.size (mkS (txC [PV.int IntKind.i64 k, PV.int IntKind.i64 n, PV.str s, PV.slice (Dats.len ks) (Dats.cells ks)]))) = (textD (.mk k n s ks)).length := by rw [tx, mkS_size]
    by_cases hl : (textD (.mk k n s ks)).length ≤ 2000000
    · have d4 : decide ((2000000 : Int) < Int.ofNat (ByteArray.size (mkS (txC [PV.int IntKind.i64 k, PV.int IntKind.i64 n, PV.str s, PV.slice (Dats.len ks) (Dats.cells ks)])))) = false := by rw [hsize, decide_eq_false_iff_not, Int.ofNat_eq_natCast]; omega
      exact SWP.runQ (SRe [(17, [(9, false), (15, false)])] []) 100 17 hnt [2, 3] (e := .ret) (z := { t := [(2, PV.str (mkS (txC [PV.int IntKind.i64 k, PV.int IntKind.i64 n, PV.str s, PV.slice (Dats.len ks) (Dats.cells ks)]))), (3, PV.int IntKind.i64 (0 : Int))], h := { bx := [{ cs := [PV.int IntKind.i64 k, PV.int IntKind.i64 n, PV.str s, PV.slice (Dats.len ks) (Dats.cells ks)], ty := 25 }], rw := [] } }) (o := [(true, true), (isGood [PV.int IntKind.i64 k, PV.int IntKind.i64 n, PV.str s, PV.slice (Dats.len ks) (Dats.cells ks)], true), (!ofCells chkD (0 : Int) [PV.int IntKind.i64 k, PV.int IntKind.i64 n, PV.str s, PV.slice (Dats.len ks) (Dats.cells ks)] == (0 : Int), false), (false, false), (true, true), (isTxt [PV.int IntKind.i64 k, PV.int IntKind.i64 n, PV.str s, PV.slice (Dats.len ks) (Dats.cells ks)], true), (Nat.ble 1 (List.length (txC [PV.int IntKind.i64 k, PV.int IntKind.i64 n, PV.str s, PV.slice (Dats.len ks) (Dats.cells ks)])), true), (decide ((2000000 : Int) < Int.ofNat (ByteArray.size (mkS (txC [PV.int IntKind.i64 k, PV.int IntKind.i64 n, PV.str s, PV.slice (Dats.len ks) (Dats.cells ks)])))), false), (false, false)]) (by kernel_rfl) (by ((repeat' (first | exact okO_nil | refine okN ?_ ?_)); all_goals first | assumption | rfl | exact same_of rfl | exact sameS_self _ | (simp only [decide_eq_true_eq, decide_eq_false_iff_not, Nat.ble_eq, Nat.beq_eq, beq_eq_false_iff_ne, beq_iff_eq, ne_eq] <;> omega))) (fun st hst => fin st _ _ hst (by rw [tx]; unfold wrB; rw [if_pos h0, if_pos hl]) (by unfold wrE; rw [if_pos h0, if_pos hl]))
    · have d4 : decide ((2000000 : Int) < Int.ofNat (ByteArray.size (mkS (txC [PV.int IntKind.i64 k, PV.int IntKind.i64 n, PV.str s, PV.slice (Dats.len ks) (Dats.cells ks)])))) = true := by rw [hsize, decide_eq_true_eq, Int.ofNat_eq_natCast]; omega
      exact SWP.runQ (SRe [(17, [(9, false), (15, true)])] []) 100 17 hnt [2, 3] (e := .ret) (z := { t := [(2, PV.str { data := #[] }), (3, PV.int IntKind.i64 (3 : Int))], h := { bx := [{ cs := [PV.int IntKind.i64 k, PV.int IntKind.i64 n, PV.str s, PV.slice (Dats.len ks) (Dats.cells ks)], ty := 25 }], rw := [] } }) (o := [(true, true), (isGood [PV.int IntKind.i64 k, PV.int IntKind.i64 n, PV.str s, PV.slice (Dats.len ks) (Dats.cells ks)], true), (!ofCells chkD (0 : Int) [PV.int IntKind.i64 k, PV.int IntKind.i64 n, PV.str s, PV.slice (Dats.len ks) (Dats.cells ks)] == (0 : Int), false), (false, false), (true, true), (isTxt [PV.int IntKind.i64 k, PV.int IntKind.i64 n, PV.str s, PV.slice (Dats.len ks) (Dats.cells ks)], true), (Nat.ble 1 (List.length (txC [PV.int IntKind.i64 k, PV.int IntKind.i64 n, PV.str s, PV.slice (Dats.len ks) (Dats.cells ks)])), true), (decide ((2000000 : Int) < Int.ofNat (ByteArray.size (mkS (txC [PV.int IntKind.i64 k, PV.int IntKind.i64 n, PV.str s, PV.slice (Dats.len ks) (Dats.cells ks)])))), true), (true, true)]) (by kernel_rfl) (by ((repeat' (first | exact okO_nil | refine okN ?_ ?_)); all_goals first | assumption | rfl | exact same_of rfl | exact sameS_self _ | (simp only [decide_eq_true_eq, decide_eq_false_iff_not, Nat.ble_eq, Nat.beq_eq, beq_eq_false_iff_ne, beq_iff_eq, ne_eq] <;> omega))) (fun st hst => fin st _ _ hst (by unfold wrB; rw [if_pos h0, if_neg hl]) (by unfold wrE; rw [if_pos h0, if_neg hl]))
  · have d1 : (!ofCells chkD 0 [PV.int IntKind.i64 k, PV.int IntKind.i64 n, PV.str s, PV.slice (Dats.len ks) (Dats.cells ks)] == (0 : Int)) = true := by rw [ec, beqF h0]; rfl
    exact SWP.runQ (SRe [(17, [(9, true)])] []) 100 17 hnt [2, 3] (e := .ret) (z := { t := [(2, PV.str { data := #[] }), (3, PV.int IntKind.i64 (ofCells chkD (0 : Int) [PV.int IntKind.i64 k, PV.int IntKind.i64 n, PV.str s, PV.slice (Dats.len ks) (Dats.cells ks)]))], h := { bx := [{ cs := [PV.int IntKind.i64 k, PV.int IntKind.i64 n, PV.str s, PV.slice (Dats.len ks) (Dats.cells ks)], ty := 25 }], rw := [] } }) (o := [(true, true), (isGood [PV.int IntKind.i64 k, PV.int IntKind.i64 n, PV.str s, PV.slice (Dats.len ks) (Dats.cells ks)], true), (!ofCells chkD (0 : Int) [PV.int IntKind.i64 k, PV.int IntKind.i64 n, PV.str s, PV.slice (Dats.len ks) (Dats.cells ks)] == (0 : Int), true), (true, true)]) (by kernel_rfl) (by ((repeat' (first | exact okO_nil | refine okN ?_ ?_)); all_goals first | assumption | rfl | exact same_of rfl | exact sameS_self _ | (simp only [decide_eq_true_eq, decide_eq_false_iff_not, Nat.ble_eq, Nat.beq_eq, beq_eq_false_iff_ne, beq_iff_eq, ne_eq] <;> omega))) (fun st hst => fin st _ _ hst (by unfold wrB; rw [if_neg h0]) (by rw [ec]; unfold wrE; rw [if_neg h0]))
end Seat
end Go.Proofs.YtenpjkcclmmlhaaDoor
/- The program's reader: Read, Offset. Printed by dev/rp8.py and dev/nfsub.py (this session's). -/
namespace Go.Proofs.YtenpjkcclmmlhaaDoor
open Go.AS Go.RowKit
set_option linter.unusedVariables false
set_option linter.unusedSimpArgs false
set_option maxRecDepth 100000
set_option maxHeartbeats 4000000
namespace Seat
noncomputable def rfyS (f : Nat) (args : List PV) : Option (PV × Ob) := match f, args with
  | 37, [.str s] => some (.tup [.agg (ndJ (onX s)), .agg (ndP (onX s)), .int .i64 (onA s), .int .i64 (onE s)], [])
  | _, _ => none
theorem rfyS_ok (f : Nat) (args : List PV) (r : PV) (o : Ob) (h : rfyS f args = some (r, o)) (ho : ∀ p ∈ o, p.1 = p.2) (_ : pureL args = true) : Pure G0 f args (fun x => x = r) := by
  unfold rfyS at h
  split at h
  · cases h
    exact readP _
  · cases h
noncomputable def SRf (l : List (Nat × List (Nat × Bool))) (v : List (Nat × List (Nat × PV))) : Cfg G0 := { F := F, hF := hF, S := rfyS, hS := rfyS_ok, orc := orcM l, val := valM v }
def intL (l : List Int) : List PV := l.map (.int .i64)
theorem ReadP (s : ByteArray) : Pure G0 15 [.str s] (fun r => r = .tup [.agg (ndJ (onX s)), .int .i64 (onA s), .int .i64 (onE s)]) := by
  refine Fn.enterB Tryd.func15 Tryd.ntmps15 rfl (Nat.le_of_ble_eq_true rfl) fun C fr fp hnt hnb hp hfr hfp => ?_
  exact SWP.runQ (SRf [] []) 100 19 hnt [2, 3, 4] (e := .ret) (z := { t := [(2, PV.ptr 0 0), (3, PV.int IntKind.i64 (onA s)), (4, PV.int IntKind.i64 (onE s))], h := { bx := [{ cs := [PV.int IntKind.i64 (ndK (onX s)), PV.int IntKind.i64 (ndN (onX s)), PV.str (ndT (onX s)), PV.slice (Dats.len (Nds.dat (ndS (onX s)))) (Dats.cells (Nds.dat (ndS (onX s))))], ty := 25 }, { cs := [PV.int IntKind.i64 (ndK (onX s)), PV.int IntKind.i64 (ndN (onX s)), PV.str (ndT (onX s)), PV.slice (Dats.len (Nds.dat (ndS (onX s)))) (Dats.cells (Nds.dat (ndS (onX s))))], ty := 25 }, { cs := [PV.int IntKind.i64 (ndA (onX s)), PV.slice (Nds.len (ndS (onX s))) (Nds.pl (ndS (onX s)))], ty := 64 }], rw := [] } }) (o := [(true, true)]) (by kernel_rfl) (by ((repeat' (first | exact okO_nil | refine okN ?_ ?_)); all_goals first | assumption | rfl | exact same_of rfl | exact sameS_self _ | (simp only [decide_eq_true_eq, decide_eq_false_iff_not, Nat.ble_eq, Nat.beq_eq, beq_eq_false_iff_ne, beq_iff_eq, ne_eq] <;> omega))) (fun st hst => hfr st [2, 3, 4] (by
    rw [hst]
    exact ⟨0, .tup [.agg (ndJ (onX s)), .int .i64 (onA s), .int .i64 (onE s)], Nat.le_refl _, Nat.zero_le _, rfl, rfl, rfl, rfl, _, rfl, rfl⟩))
theorem pl_len : ∀ ks : Nds, ks.pl.length = ks.len * 2
  | .nil => rfl
  | .cons (.mk k n t xs a) ds => by simp only [Nds.pl, Nd.pl, Nds.len, List.length_append, pl_len ds, List.length_cons, List.length_nil]; omega
theorem pl_get : ∀ (ds : Nds) (i : Nat), i < ds.len → (ds.pl.drop (i * 2)).take 2 = ndP (ds.get i)
  | .nil, i, h => by simp [Nds.len] at h
  | .cons (.mk k n t xs a) ds, 0, h => rfl
  | .cons (.mk k n t xs a) ds, i + 1, h => by
    have e : (i + 1) * 2 = i * 2 + 1 + 1 := by omega
    rw [e]
    exact pl_get ds i (by simp only [Nds.len] at h; omega)
/-- Where the datum at a path begins, or that there is none. -/
def ofR : Nd → List Int → Int × Int
  | X, [] => (ndA X, 0)
  | X, i :: r => if i < 0 ∨ (Nds.len (ndS X) : Int) ≤ i then (0, 5) else ofR (Nds.get (ndS X) i.toNat) r
def offR (s : ByteArray) (l : List Int) : Int × Int := if onE s = 0 then ofR (onX s) l else (0, onE s)
theorem int_same {l : List Int} {j : Nat} {i : Int} (h : l[j]? = some i) : same (.int .i64 i) (.int .i64 i) = true := same_of rfl
theorem offsetP (s : ByteArray) (l : List Int) (hl : l.length ≤ 1099511627776) : Pure G0 24 [.str s, .slice l.length (intL l)] (fun r => r = .tup [.int .i64 (offR s l).1, .int .i64 (offR s l).2]) := by
  refine Fn.enterB Tryd.func24 Tryd.ntmps24 rfl (Nat.le_of_ble_eq_true rfl) fun C fr fp hnt hnb hp hfr hfp => ?_
  have fin : ∀ st a e bx, nrm [4, 5] st = ⟨[(4, .int .i64 a), (5, .int .i64 e)], ⟨bx, []⟩⟩ → offR s l = (a, e) → fr st := fun st a e bx hst h => hfr st [4, 5] (by
    rw [hst, h]
    exact ⟨0, .tup [.int .i64 a, .int .i64 e], Nat.le_refl _, Nat.zero_le _, rfl, rfl, rfl, rfl, _, rfl, rfl⟩)
  have hil : (intL l).length = l.length := by simp [intL]
  obtain ⟨cs, hcs⟩ : ∃ cs, cs = intL l := ⟨_, rfl⟩
  obtain ⟨m, hm⟩ : ∃ m, m = l.length := ⟨_, rfl⟩
  rw [← hcs, ← hm]
  refine Q.runSeq (SRf [] []) 100 45 hnt [0, 1, 4, 5] (z := { t := [(0, PV.str s), (1, PV.slice m cs), (4, PV.int IntKind.i64 (0 : Int)), (5, PV.int IntKind.i64 (0 : Int))], h := { bx := [], rw := [] } }) (o := []) (by kernel_rfl) (by ((repeat' (first | exact okO_nil | refine okN ?_ ?_)); all_goals first | assumption | rfl | exact same_of rfl | exact sameS_self _ | (simp only [decide_eq_true_eq, decide_eq_false_iff_not, Nat.ble_eq, Nat.beq_eq, beq_eq_false_iff_ne, beq_iff_eq, ne_eq] <;> omega))) ?_
  refine Q.runSeq (SRf [] []) 100 45 hnt [1, 7, 9] (z := ⟨[(1, .slice m cs), (7, .ptr 1 0), (9, .int .i64 (onE s))], ⟨[⟨ndJ (onX s), 25⟩, ⟨ndP (onX s), 64⟩], []⟩⟩) (o := [(true, true)]) (by kernel_rfl) (by ((repeat' (first | exact okO_nil | refine okN ?_ ?_)); all_goals first | assumption | rfl | exact same_of rfl | exact sameS_self _ | (simp only [decide_eq_true_eq, decide_eq_false_iff_not, Nat.ble_eq, Nat.beq_eq, beq_eq_false_iff_ne, beq_iff_eq, ne_eq] <;> omega))) ?_
  have eq : offR s l = (if onE s = 0 then ofR (onX s) l else (0, onE s) : Int × Int) := rfl
  obtain ⟨e, he⟩ : ∃ e, e = onE s := ⟨_, rfl⟩
  obtain ⟨X, hX⟩ : ∃ e, e = onX s := ⟨_, rfl⟩
  rw [← he, ← hX] at eq ⊢
  by_cases h0 : e = 0
  · have d1 : (!e == (0 : Int)) = false := by rw [h0]; rfl
    rw [if_pos h0] at eq
    refine Q.runSeq (SRf [(45, [(20, false)])] []) 100 45 hnt [1, 7] (z := { t := [(1, PV.slice m cs), (7, PV.ptr 1 0)], h := { bx := [{ cs := [PV.int IntKind.i64 (ndK X), PV.int IntKind.i64 (ndN X), PV.str (ndT X), PV.slice (Dats.len (Nds.dat (ndS X))) (Dats.cells (Nds.dat (ndS X)))], ty := 25 }, { cs := [PV.int IntKind.i64 (ndA X), PV.slice (Nds.len (ndS X)) (Nds.pl (ndS X))], ty := 64 }], rw := [] } }) (o := [(!e == (0 : Int), false), (false, false)]) (by kernel_rfl) (by ((repeat' (first | exact okO_nil | refine okN ?_ ?_)); all_goals first | assumption | rfl | exact same_of rfl | exact sameS_self _ | (simp only [decide_eq_true_eq, decide_eq_false_iff_not, Nat.ble_eq, Nat.beq_eq, beq_eq_false_iff_ne, beq_iff_eq, ne_eq] <;> omega))) ?_
    refine Q.seq fun K hK => ?_
    refine Q.runSeq (SRf [] []) 100 45 hnt [7, 22, 23, 24] (z := { t := [(7, PV.ptr 1 0), (22, PV.slice m cs), (23, PV.int IntKind.i64 (Int.ofNat m)), (24, PV.int IntKind.i64 (0 : Int))], h := { bx := [{ cs := [PV.int IntKind.i64 (ndK X), PV.int IntKind.i64 (ndN X), PV.str (ndT X), PV.slice (Dats.len (Nds.dat (ndS X))) (Dats.cells (Nds.dat (ndS X)))], ty := 25 }, { cs := [PV.int IntKind.i64 (ndA X), PV.slice (Nds.len (ndS X)) (Nds.pl (ndS X))], ty := 64 }], rw := [] } }) (o := []) (by kernel_rfl) (by ((repeat' (first | exact okO_nil | refine okN ?_ ?_)); all_goals first | assumption | rfl | exact same_of rfl | exact sameS_self _ | (simp only [decide_eq_true_eq, decide_eq_false_iff_not, Nat.ble_eq, Nat.beq_eq, beq_eq_false_iff_ne, beq_iff_eq, ne_eq] <;> omega))) ?_
    obtain ⟨d, hd⟩ : ∃ d : Box, d = ⟨[.int .i64 (ndK X), .int .i64 (ndN X), .str (ndT X), .slice (Dats.len (Nds.dat (ndS X))) (Dats.cells (Nds.dat (ndS X)))], 25⟩ := ⟨_, rfl⟩
    refine Q.block ?_
    let T (j : Nat) (Y : Nd) : AS := ⟨[(7, .ptr 1 0), (22, .slice m cs), (23, .int .i64 m), (24, .int .i64 j)], ⟨[d, ⟨ndP Y, 64⟩], []⟩⟩
    refine Q.loopI (σ := { x : Nat × Nd // x.1 ≤ m ∧ ofR x.2 (l.drop x.1) = ofR X l }) [7, 22, 23, 24] (fun x => T x.1.1 x.1.2) (fun x => m - x.1.1) ⟨(0, X), Nat.zero_le _, rfl⟩ (by show _ = (⟨[(7, .ptr 1 0), (22, .slice m cs), (23, .int .i64 m), (24, .int .i64 (0 : Nat))], ⟨[d, ⟨ndP X, 64⟩], []⟩⟩ : AS); rw [hd]; rfl) fun ⟨(j, Y), hj, hk⟩ => ?_
    have hj : j ≤ m := hj
    have hk : ofR Y (l.drop j) = ofR X l := hk
    rw [← hk] at eq
    obtain ⟨k, n, t, xs, xa⟩ := Y
    show SWP G0 C _ _ ⟨[(7, .ptr 1 0), (22, .slice m cs), (23, .int .i64 m), (24, .int .i64 j)], ⟨[d, ⟨[.int .i64 xa, .slice xs.len xs.pl], 64⟩], []⟩⟩
    rcases Nat.lt_or_ge j m with hlt | hge
    · have b1 := lt_at hlt
      have b2 := in_at hlt
      obtain ⟨i, hi⟩ : ∃ i, l[j]? = some i := ⟨_, List.getElem?_eq_getElem (by omega)⟩
      have hdr : l.drop j = i :: l.drop (j + 1) := by
        have := (List.getElem?_eq_some_iff.1 hi)
        obtain ⟨h1, h2⟩ := this
        rw [List.drop_eq_getElem_cons h1, h2]
      have hcj : cs.drop j = .int .i64 i :: cs.drop (j + 1) := by rw [hcs, intL, ← List.map_drop, hdr]; simp [List.map_drop]
      have b3 : decide (1 ≤ List.length (List.drop (Int.toNat (j : Int) * 1) cs)) = true := by rw [Int.toNat_natCast, Nat.mul_one, hcj]; simp
      have b4 : same (List.headD (List.drop (Int.toNat (j : Int) * 1) cs) .junk) (.int .i64 i) = true := same_of (by rw [Int.toNat_natCast, Nat.mul_one, hcj]; rfl)
      rw [hdr, ofR] at eq
      have wj : IntKind.wrap IntKind.i64 (Int.ofNat (j + 1)) = ((j + 1 : Nat) : Int) := wrapI (j + 1) (by omega)
      by_cases hneg : i < 0
      · have b6 := decide_eq_true hneg
        rw [if_pos (.inl hneg)] at eq
        exact SWP.runQ (SRf [(45, [(25, true), (26, true), (27, true), (29, true)])] [(45, [(27, .int .i64 i)])]) 100 45 hnt [4, 5] (e := .ret) (z := { t := [(4, PV.int IntKind.i64 (0 : Int)), (5, PV.int IntKind.i64 (5 : Int))], h := { bx := [d, { cs := [PV.int IntKind.i64 xa, PV.slice (Nds.len xs) (Nds.pl xs)], ty := 64 }], rw := [] } }) (o := [(decide ((j : Int) < (m : Int)), true), (true, true), (decide (0 ≤ (j : Int) ∧ (j : Int) < (m : Int)), true), (decide (1 ≤ List.length (List.drop (Int.toNat (j : Int) * 1) cs)), true), (same (List.headD (List.drop (Int.toNat (j : Int) * 1) cs) .junk) (.int .i64 i), true), (decide (i < 0), true)]) (by kernel_rfl) (by ((repeat' (first | exact okO_nil | refine okN ?_ ?_)); all_goals first | assumption | rfl | exact same_of rfl | exact sameS_self _ | (simp only [decide_eq_true_eq, decide_eq_false_iff_not, Nat.ble_eq, Nat.beq_eq, beq_eq_false_iff_ne, beq_iff_eq, ne_eq] <;> omega))) (fun st hst => fin st 0 5 _ hst eq)
      · have b6 := decide_eq_false hneg
        by_cases hbig : (xs.len : Int) ≤ i
        · have b7 := decide_eq_true hbig
          rw [if_pos (.inr hbig)] at eq
          exact SWP.runQ (SRf [(45, [(25, true), (26, true), (27, true), (29, false), (35, true)])] [(45, [(27, .int .i64 i)])]) 100 45 hnt [4, 5] (e := .ret) (z := { t := [(4, PV.int IntKind.i64 (0 : Int)), (5, PV.int IntKind.i64 (5 : Int))], h := { bx := [d, { cs := [PV.int IntKind.i64 xa, PV.slice (Nds.len xs) (Nds.pl xs)], ty := 64 }], rw := [] } }) (o := [(decide ((j : Int) < (m : Int)), true), (true, true), (decide (0 ≤ (j : Int) ∧ (j : Int) < (m : Int)), true), (decide (1 ≤ List.length (List.drop (Int.toNat (j : Int) * 1) cs)), true), (same (List.headD (List.drop (Int.toNat (j : Int) * 1) cs) .junk) (.int .i64 i), true), (decide (i < 0), false), (decide ((Nds.len xs : Int) ≤ i), true)]) (by kernel_rfl) (by ((repeat' (first | exact okO_nil | refine okN ?_ ?_)); all_goals first | assumption | rfl | exact same_of rfl | exact sameS_self _ | (simp only [decide_eq_true_eq, decide_eq_false_iff_not, Nat.ble_eq, Nat.beq_eq, beq_eq_false_iff_ne, beq_iff_eq, ne_eq] <;> omega))) (fun st hst => fin st 0 5 _ hst eq)
        · have b7 := decide_eq_false hbig
          rw [if_neg (by intro g; rcases g with g | g; exact hneg g; exact hbig g)] at eq
          have hit : i.toNat < xs.len := by omega
          have b8 : decide (0 ≤ i ∧ i < (xs.len : Int)) = true := by rw [decide_eq_true_eq]; omega
          have hpg := pl_get xs i.toNat hit
          rcases hY : xs.get i.toNat with ⟨k', n', t', ys, ya⟩
          rw [hY] at hpg
          have b9 : decide (2 ≤ (xs.pl.drop (i.toNat * 2)).length) = true := by simp only [List.length_drop, pl_len, decide_eq_true_eq]; omega
          have b10 : same (.agg ((xs.pl.drop (i.toNat * 2)).take 2)) (.agg [.int .i64 ya, .slice ys.len ys.pl]) = true := same_of (by rw [hpg]; rfl)
          exact SWP.runQ (SRf [(45, [(25, true), (26, true), (27, true), (29, false), (35, false), (40, true), (41, true)])] [(45, [(27, .int .i64 i), (41, .agg [.int .i64 ya, .slice ys.len ys.pl])])]) 100 45 hnt [7, 22, 23, 24] (e := .normal) (z := { t := [(7, PV.ptr 1 0), (22, PV.slice m cs), (23, PV.int IntKind.i64 (Int.ofNat m)), (24, PV.int IntKind.i64 (IntKind.wrap IntKind.i64 (Int.ofNat (j + 1))))], h := { bx := [d, { cs := [PV.int IntKind.i64 ya, PV.slice (Nds.len ys) (Nds.pl ys)], ty := 64 }], rw := [] } }) (o := [(decide ((j : Int) < (m : Int)), true), (true, true), (decide (0 ≤ (j : Int) ∧ (j : Int) < (m : Int)), true), (decide (1 ≤ List.length (List.drop (Int.toNat (j : Int) * 1) cs)), true), (same (List.headD (List.drop (Int.toNat (j : Int) * 1) cs) .junk) (.int .i64 i), true), (decide (i < 0), false), (decide ((Nds.len xs : Int) ≤ i), false), (decide (0 ≤ i ∧ i < (Nds.len xs : Int)), true), (decide (2 ≤ List.length (List.drop (Int.toNat i * 2) (Nds.pl xs))), true), (same (.agg (List.take 2 (List.drop (Int.toNat i * 2) (Nds.pl xs)))) (.agg [.int .i64 ya, .slice (Nds.len ys) (Nds.pl ys)]), true)]) (by kernel_rfl) (by ((repeat' (first | exact okO_nil | refine okN ?_ ?_)); all_goals first | assumption | rfl | exact same_of rfl | exact sameS_self _ | (simp only [decide_eq_true_eq, decide_eq_false_iff_not, Nat.ble_eq, Nat.beq_eq, beq_eq_false_iff_ne, beq_iff_eq, ne_eq] <;> omega))) (fun st hst => ⟨⟨(j + 1, xs.get i.toNat), hlt, by rw [← hk, hdr, ofR, if_neg (by intro g; rcases g with g | g; exact hneg g; exact hbig g)]; rfl⟩, Nat.sub_lt_sub_left hlt (Nat.lt_succ_self j), by rw [hst, wj]; show _ = (⟨[(7, .ptr 1 0), (22, .slice m cs), (23, .int .i64 m), (24, .int .i64 (j + 1 : Nat))], ⟨[d, ⟨ndP (xs.get i.toNat), 64⟩], []⟩⟩ : AS); rw [hY]; rfl⟩)
    · have hjm : j = m := by omega
      have b1 := ge_at hge
      rw [List.drop_of_length_le (by omega)] at eq
      refine SWP.runQ (SRf [(45, [(25, false)])] []) 100 45 hnt [7] (e := .exit 0) (z := { t := [(7, PV.ptr 1 0)], h := { bx := [d, { cs := [PV.int IntKind.i64 xa, PV.slice (Nds.len xs) (Nds.pl xs)], ty := 64 }], rw := [] } }) (o := [(decide ((↑j : Int) < (↑m : Int)), false), (false, false)]) (by kernel_rfl) (by ((repeat' (first | exact okO_nil | refine okN ?_ ?_)); all_goals first | assumption | rfl | exact same_of rfl | exact sameS_self _ | (simp only [decide_eq_true_eq, decide_eq_false_iff_not, Nat.ble_eq, Nat.beq_eq, beq_eq_false_iff_ne, beq_iff_eq, ne_eq] <;> omega))) (fun st hst => hK st (.norm [7] ?_))
      rw [hst]
      exact SWP.runQ (SRf [] []) 100 45 hnt [4, 5] (e := .ret) (z := { t := [(4, PV.int IntKind.i64 xa), (5, PV.int IntKind.i64 (0 : Int))], h := { bx := [d, { cs := [PV.int IntKind.i64 xa, PV.slice (Nds.len xs) (Nds.pl xs)], ty := 64 }], rw := [] } }) (o := []) (by kernel_rfl) (by ((repeat' (first | exact okO_nil | refine okN ?_ ?_)); all_goals first | assumption | rfl | exact same_of rfl | exact sameS_self _ | (simp only [decide_eq_true_eq, decide_eq_false_iff_not, Nat.ble_eq, Nat.beq_eq, beq_eq_false_iff_ne, beq_iff_eq, ne_eq] <;> omega))) (fun st hst => fin st xa 0 _ hst eq)
  · have d1 : (!e == (0 : Int)) = true := by rw [beqF h0]; rfl
    rw [if_neg h0] at eq
    refine Q.seq fun K hK => ?_
    exact SWP.runQ (SRf [(45, [(20, true)])] []) 100 45 hnt [4, 5] (e := .ret) (z := { t := [(4, PV.int IntKind.i64 (0 : Int)), (5, PV.int IntKind.i64 e)], h := { bx := [{ cs := [PV.int IntKind.i64 (ndK X), PV.int IntKind.i64 (ndN X), PV.str (ndT X), PV.slice (Dats.len (Nds.dat (ndS X))) (Dats.cells (Nds.dat (ndS X)))], ty := 25 }, { cs := [PV.int IntKind.i64 (ndA X), PV.slice (Nds.len (ndS X)) (Nds.pl (ndS X))], ty := 64 }], rw := [] } }) (o := [(!e == (0 : Int), true), (true, true)]) (by kernel_rfl) (by ((repeat' (first | exact okO_nil | refine okN ?_ ?_)); all_goals first | assumption | rfl | exact same_of rfl | exact sameS_self _ | (simp only [decide_eq_true_eq, decide_eq_false_iff_not, Nat.ble_eq, Nat.beq_eq, beq_eq_false_iff_ne, beq_iff_eq, ne_eq] <;> omega))) (fun st hst => fin st 0 e _ hst eq)
end Seat
end Go.Proofs.YtenpjkcclmmlhaaDoor
/- The document's formed and Check. Printed by dev/lay7.py and dev/nfsub.py (this session's). -/
namespace Go.Proofs.YtenpjkcclmmlhaaDoor
open Go.AS Go.RowKit
set_option linter.unusedVariables false
set_option linter.unusedSimpArgs false
set_option maxRecDepth 100000
set_option maxHeartbeats 4000000
namespace Seat
def RFormAt (N : Nat) : Prop := ∀ d : Dat, d.size < N → d.ok → Pure G0 43 [.agg d.cells] (fun r => r = .bool (formedD d))
noncomputable def rfS (N : Nat) (f : Nat) (args : List PV) : Option (PV × Ob) := match f, args with
  | 43, [.agg cs] => some (.bool (ofCells formedD false cs), [(isDat N cs, true)])
  | 65, [.str s] => some (.bool (symOk s), [])
  | _, _ => none
theorem rfS_ok {N : Nat} (ih : RFormAt N) (f : Nat) (args : List PV) (r : PV) (o : Ob) (h : rfS N f args = some (r, o)) (ho : ∀ p ∈ o, p.1 = p.2) (_ : pureL args = true) : Pure G0 f args (fun x => x = r) := by
  unfold rfS at h
  split at h
  · cases h
    obtain ⟨d, rfl, h1, h2⟩ := isDat_of (ho _ (List.mem_singleton.2 rfl))
    rw [ofCells_at]
    exact ih d h1 h2
  · cases h
    exact symbol_ok _
  · cases h
noncomputable def SRF {N : Nat} (ih : RFormAt N) (l : List (Nat × List (Nat × Bool))) (v : List (Nat × List (Nat × PV))) : Cfg G0 := { F := F, hF := hF, S := rfS N, hS := rfS_ok ih, orc := orcM l, val := valM v }
theorem rformAt (N : Nat) : RFormAt N := by
  induction N with
  | zero => intro d h; omega
  | succ N ih =>
    intro d hN hok
    obtain ⟨k, n, s, ks⟩ := d
    have hlen := hok.1
    have hks : ks.size < N + 1 := by simp only [Dat.size] at hN; omega
    refine Fn.enterB Tryd.func43 Tryd.ntmps43 rfl (Nat.le_of_ble_eq_true rfl) fun C fr fp hnt hnb hp hfr hfp => ?_
    have fin : ∀ st b H, b = formedD (.mk k n s ks) → nrm [2] st = ⟨[(2, .bool b)], H⟩ → fr st := fun st b H hr hst => hfr st [2] (by
      rw [hst]
      exact ⟨0, .bool b, Nat.le_refl _, Nat.zero_le _, rfl, rfl, rfl, rfl, _, rfl, congrArg PV.bool hr⟩)
    have hl0 : ∀ b, (decide (ks.len = 0)) = b → (Int.ofNat (Dats.len ks) == (0 : Int)) = b := fun b h => by
      rw [← h]
      rcases Nat.eq_zero_or_pos ks.len with h | h
      · rw [h]; rfl
      · rw [decide_eq_false (by omega), beq_eq_false_iff_ne]; show (ks.len : Int) ≠ 0; omega
    have hs0 : ∀ b, (decide (s.size = 0)) = b → (ByteArray.toList s == []) = b := fun b h => by
      rw [← h]
      by_cases h : s.size = 0 <;> simp [str_nil, h]
    by_cases h1 : k = 1
    · have c1 : (k == (1 : Int)) = true := by simpa using h1
      by_cases h2 : s.size = 0
      · have c2 := hs0 true (by simpa using h2)
        by_cases h3 : ks.len = 0
        · have c3 := hl0 true (by simpa using h3)
          exact SWP.runQ (SRF ih [(57, [(7, true), (10, true), (15, true)])] []) 100 57 hnt [2] (e := .ret) (z := { t := [(2, PV.bool true)], h := { bx := [{ cs := [PV.int IntKind.i64 k, PV.int IntKind.i64 n, PV.str s, PV.slice (Dats.len ks) (Dats.cells ks)], ty := 25 }], rw := [] } }) (o := [(k == (1 : Int), true), (ByteArray.toList s == [], true), (Int.ofNat (Dats.len ks) == (0 : Int), true)]) (by kernel_rfl) (by ((repeat' (first | exact okO_nil | refine okN ?_ ?_)); all_goals first | assumption | rfl | exact same_of rfl | exact sameS_self _ | (simp only [decide_eq_true_eq, decide_eq_false_iff_not, Nat.ble_eq, Nat.beq_eq, beq_eq_false_iff_ne, beq_iff_eq, ne_eq] <;> omega))) (fun st hs => fin st _ _ (by simp [formedD, h1, h2, h3]) hs)
        · have c3 := hl0 false (by simpa using h3)
          exact SWP.runQ (SRF ih [(57, [(7, true), (10, true), (15, false)])] []) 100 57 hnt [2] (e := .ret) (z := { t := [(2, PV.bool false)], h := { bx := [{ cs := [PV.int IntKind.i64 k, PV.int IntKind.i64 n, PV.str s, PV.slice (Dats.len ks) (Dats.cells ks)], ty := 25 }], rw := [] } }) (o := [(k == (1 : Int), true), (ByteArray.toList s == [], true), (Int.ofNat (Dats.len ks) == (0 : Int), false)]) (by kernel_rfl) (by ((repeat' (first | exact okO_nil | refine okN ?_ ?_)); all_goals first | assumption | rfl | exact same_of rfl | exact sameS_self _ | (simp only [decide_eq_true_eq, decide_eq_false_iff_not, Nat.ble_eq, Nat.beq_eq, beq_eq_false_iff_ne, beq_iff_eq, ne_eq] <;> omega))) (fun st hs => fin st _ _ (by simp [formedD, h1, h2, h3]) hs)
      · have c2 := hs0 false (by simpa using h2)
        exact SWP.runQ (SRF ih [(57, [(7, true), (10, false)])] []) 100 57 hnt [2] (e := .ret) (z := { t := [(2, PV.bool false)], h := { bx := [{ cs := [PV.int IntKind.i64 k, PV.int IntKind.i64 n, PV.str s, PV.slice (Dats.len ks) (Dats.cells ks)], ty := 25 }], rw := [] } }) (o := [(k == (1 : Int), true), (ByteArray.toList s == [], false)]) (by kernel_rfl) (by ((repeat' (first | exact okO_nil | refine okN ?_ ?_)); all_goals first | assumption | rfl | exact same_of rfl | exact sameS_self _ | (simp only [decide_eq_true_eq, decide_eq_false_iff_not, Nat.ble_eq, Nat.beq_eq, beq_eq_false_iff_ne, beq_iff_eq, ne_eq] <;> omega))) (fun st hs => fin st _ _ (by simp [formedD, h1, h2]) hs)
    have c1 : (k == (1 : Int)) = false := by simpa using h1
    by_cases h2 : k = 2
    · have c2 : (k == (2 : Int)) = true := by simpa using h2
      by_cases h3 : n = 0
      · have c3 : (n == (0 : Int)) = true := by simpa using h3
        cases h4 : symOk s with
        | false => exact SWP.runQ (SRF ih [(57, [(7, false), (18, true), (21, true), (25, false)])] []) 100 57 hnt [2] (e := .ret) (z := { t := [(2, PV.bool false)], h := { bx := [{ cs := [PV.int IntKind.i64 k, PV.int IntKind.i64 n, PV.str s, PV.slice (Dats.len ks) (Dats.cells ks)], ty := 25 }], rw := [] } }) (o := [(k == (1 : Int), false), (k == (2 : Int), true), (n == (0 : Int), true), (true, true), (symOk s, false)]) (by kernel_rfl) (by ((repeat' (first | exact okO_nil | refine okN ?_ ?_)); all_goals first | assumption | rfl | exact same_of rfl | exact sameS_self _ | (simp only [decide_eq_true_eq, decide_eq_false_iff_not, Nat.ble_eq, Nat.beq_eq, beq_eq_false_iff_ne, beq_iff_eq, ne_eq] <;> omega))) (fun st hs => fin st _ _ (by simp [formedD, h2, h3, h4]) hs)
        | true =>
          by_cases h5 : ks.len = 0
          · have c5 := hl0 true (by simpa using h5)
            exact SWP.runQ (SRF ih [(57, [(7, false), (18, true), (21, true), (25, true), (31, true)])] []) 100 57 hnt [2] (e := .ret) (z := { t := [(2, PV.bool true)], h := { bx := [{ cs := [PV.int IntKind.i64 k, PV.int IntKind.i64 n, PV.str s, PV.slice (Dats.len ks) (Dats.cells ks)], ty := 25 }], rw := [] } }) (o := [(k == (1 : Int), false), (k == (2 : Int), true), (n == (0 : Int), true), (true, true), (symOk s, true), (Int.ofNat (Dats.len ks) == (0 : Int), true)]) (by kernel_rfl) (by ((repeat' (first | exact okO_nil | refine okN ?_ ?_)); all_goals first | assumption | rfl | exact same_of rfl | exact sameS_self _ | (simp only [decide_eq_true_eq, decide_eq_false_iff_not, Nat.ble_eq, Nat.beq_eq, beq_eq_false_iff_ne, beq_iff_eq, ne_eq] <;> omega))) (fun st hs => fin st _ _ (by simp [formedD, h2, h3, h4, h5]) hs)
          · have c5 := hl0 false (by simpa using h5)
            exact SWP.runQ (SRF ih [(57, [(7, false), (18, true), (21, true), (25, true), (31, false)])] []) 100 57 hnt [2] (e := .ret) (z := { t := [(2, PV.bool false)], h := { bx := [{ cs := [PV.int IntKind.i64 k, PV.int IntKind.i64 n, PV.str s, PV.slice (Dats.len ks) (Dats.cells ks)], ty := 25 }], rw := [] } }) (o := [(k == (1 : Int), false), (k == (2 : Int), true), (n == (0 : Int), true), (true, true), (symOk s, true), (Int.ofNat (Dats.len ks) == (0 : Int), false)]) (by kernel_rfl) (by ((repeat' (first | exact okO_nil | refine okN ?_ ?_)); all_goals first | assumption | rfl | exact same_of rfl | exact sameS_self _ | (simp only [decide_eq_true_eq, decide_eq_false_iff_not, Nat.ble_eq, Nat.beq_eq, beq_eq_false_iff_ne, beq_iff_eq, ne_eq] <;> omega))) (fun st hs => fin st _ _ (by simp [formedD, h2, h3, h4, h5]) hs)
      · have c3 : (n == (0 : Int)) = false := by simpa using h3
        exact SWP.runQ (SRF ih [(57, [(7, false), (18, true), (21, false)])] []) 100 57 hnt [2] (e := .ret) (z := { t := [(2, PV.bool false)], h := { bx := [{ cs := [PV.int IntKind.i64 k, PV.int IntKind.i64 n, PV.str s, PV.slice (Dats.len ks) (Dats.cells ks)], ty := 25 }], rw := [] } }) (o := [(k == (1 : Int), false), (k == (2 : Int), true), (n == (0 : Int), false)]) (by kernel_rfl) (by ((repeat' (first | exact okO_nil | refine okN ?_ ?_)); all_goals first | assumption | rfl | exact same_of rfl | exact sameS_self _ | (simp only [decide_eq_true_eq, decide_eq_false_iff_not, Nat.ble_eq, Nat.beq_eq, beq_eq_false_iff_ne, beq_iff_eq, ne_eq] <;> omega))) (fun st hs => fin st _ _ (by simp [formedD, h2, h3]) hs)
    have c2 : (k == (2 : Int)) = false := by simpa using h2
    by_cases h3 : k = 3
    case neg =>
      have c3 : (k == (3 : Int)) = false := by simpa using h3
      exact SWP.runQ (SRF ih [(57, [(7, false), (18, false), (34, false)])] []) 100 57 hnt [2] (e := .ret) (z := { t := [(2, PV.bool false)], h := { bx := [{ cs := [PV.int IntKind.i64 k, PV.int IntKind.i64 n, PV.str s, PV.slice (Dats.len ks) (Dats.cells ks)], ty := 25 }], rw := [] } }) (o := [(k == (1 : Int), false), (k == (2 : Int), false), (k == (3 : Int), false)]) (by kernel_rfl) (by ((repeat' (first | exact okO_nil | refine okN ?_ ?_)); all_goals first | assumption | rfl | exact same_of rfl | exact sameS_self _ | (simp only [decide_eq_true_eq, decide_eq_false_iff_not, Nat.ble_eq, Nat.beq_eq, beq_eq_false_iff_ne, beq_iff_eq, ne_eq] <;> omega))) (fun st hs => fin st _ _ (by simp [formedD, h1, h2, h3]) hs)
    have c3 : (k == (3 : Int)) = true := by simpa using h3
    refine Q.runSeq (SRF ih [(57, [])] []) 100 57 hnt [1] (z := { t := [(1, PV.ptr 0 0)], h := { bx := [{ cs := [PV.int IntKind.i64 k, PV.int IntKind.i64 n, PV.str s, PV.slice (Dats.len ks) (Dats.cells ks)], ty := 25 }], rw := [] } }) (o := []) (by kernel_rfl) (by ((repeat' (first | exact okO_nil | refine okN ?_ ?_)); all_goals first | assumption | rfl | exact same_of rfl | exact sameS_self _ | (simp only [decide_eq_true_eq, decide_eq_false_iff_not, Nat.ble_eq, Nat.beq_eq, beq_eq_false_iff_ne, beq_iff_eq, ne_eq] <;> omega))) ?_
    refine Q.seq fun K hK => ?_
    refine Q.runSeq (SRF ih [(57, [])] []) 100 57 hnt [1, 5] (z := { t := [(1, PV.ptr 0 0), (5, PV.int IntKind.i64 k)], h := { bx := [{ cs := [PV.int IntKind.i64 k, PV.int IntKind.i64 n, PV.str s, PV.slice (Dats.len ks) (Dats.cells ks)], ty := 25 }], rw := [] } }) (o := []) (by kernel_rfl) (by ((repeat' (first | exact okO_nil | refine okN ?_ ?_)); all_goals first | assumption | rfl | exact same_of rfl | exact sameS_self _ | (simp only [decide_eq_true_eq, decide_eq_false_iff_not, Nat.ble_eq, Nat.beq_eq, beq_eq_false_iff_ne, beq_iff_eq, ne_eq] <;> omega))) ?_
    refine Q.block ?_
    refine Q.runSeq (SRF ih [(57, [(7, false)])] []) 100 57 hnt [1, 5, 6] (z := { t := [(1, PV.ptr 0 0), (5, PV.int IntKind.i64 k), (6, PV.bool false)], h := { bx := [{ cs := [PV.int IntKind.i64 k, PV.int IntKind.i64 n, PV.str s, PV.slice (Dats.len ks) (Dats.cells ks)], ty := 25 }], rw := [] } }) (o := [(k == (1 : Int), false)]) (by kernel_rfl) (by ((repeat' (first | exact okO_nil | refine okN ?_ ?_)); all_goals first | assumption | rfl | exact same_of rfl | exact sameS_self _ | (simp only [decide_eq_true_eq, decide_eq_false_iff_not, Nat.ble_eq, Nat.beq_eq, beq_eq_false_iff_ne, beq_iff_eq, ne_eq] <;> omega))) ?_
    refine Q.cond (b := false) rfl (fun h => by cases h) (fun _ => ?_)
    refine Q.runSeq (SRF ih [(57, [(18, false)])] []) 100 57 hnt [1, 5, 17] (z := { t := [(1, PV.ptr 0 0), (5, PV.int IntKind.i64 k), (17, PV.bool false)], h := { bx := [{ cs := [PV.int IntKind.i64 k, PV.int IntKind.i64 n, PV.str s, PV.slice (Dats.len ks) (Dats.cells ks)], ty := 25 }], rw := [] } }) (o := [(k == (2 : Int), false)]) (by kernel_rfl) (by ((repeat' (first | exact okO_nil | refine okN ?_ ?_)); all_goals first | assumption | rfl | exact same_of rfl | exact sameS_self _ | (simp only [decide_eq_true_eq, decide_eq_false_iff_not, Nat.ble_eq, Nat.beq_eq, beq_eq_false_iff_ne, beq_iff_eq, ne_eq] <;> omega))) ?_
    refine Q.cond (b := false) rfl (fun h => by cases h) (fun _ => ?_)
    refine Q.runSeq (SRF ih [(57, [(34, true)])] []) 100 57 hnt [1, 33] (z := { t := [(1, PV.ptr 0 0), (33, PV.bool true)], h := { bx := [{ cs := [PV.int IntKind.i64 k, PV.int IntKind.i64 n, PV.str s, PV.slice (Dats.len ks) (Dats.cells ks)], ty := 25 }], rw := [] } }) (o := [(k == (3 : Int), true)]) (by kernel_rfl) (by ((repeat' (first | exact okO_nil | refine okN ?_ ?_)); all_goals first | assumption | rfl | exact same_of rfl | exact sameS_self _ | (simp only [decide_eq_true_eq, decide_eq_false_iff_not, Nat.ble_eq, Nat.beq_eq, beq_eq_false_iff_ne, beq_iff_eq, ne_eq] <;> omega))) ?_
    refine Q.cond (b := true) rfl (fun _ => ?_) (fun h => by cases h)
    refine Q.seq fun K2 hK2 => ?_
    refine Q.runSeq (SRF ih [(57, [])] []) 100 57 hnt [1, 3] (z := { t := [(1, PV.ptr 0 0), (3, PV.int IntKind.i64 (0 : Int))], h := { bx := [{ cs := [PV.int IntKind.i64 k, PV.int IntKind.i64 n, PV.str s, PV.slice (Dats.len ks) (Dats.cells ks)], ty := 25 }], rw := [] } }) (o := []) (by kernel_rfl) (by ((repeat' (first | exact okO_nil | refine okN ?_ ?_)); all_goals first | assumption | rfl | exact same_of rfl | exact sameS_self _ | (simp only [decide_eq_true_eq, decide_eq_false_iff_not, Nat.ble_eq, Nat.beq_eq, beq_eq_false_iff_ne, beq_iff_eq, ne_eq] <;> omega))) ?_
    refine Q.block ?_
    refine Q.loopI (σ := { j : Nat // j ≤ ks.len ∧ ∀ i, i < j → formedD (ks.get i) = true }) [1, 3] (fun j => ⟨[(1, .ptr 0 0), (3, .int .i64 j.1)], ⟨[DB k n s ks], []⟩⟩) (fun j => ks.len - j.1) ⟨0, Nat.zero_le _, fun i h => absurd h (Nat.not_lt_zero _)⟩ rfl fun ⟨j, hj, hl⟩ => ?_
    rcases Nat.lt_or_ge j ks.len with hlt | hge
    · obtain ⟨k', n', s', ks', hget⟩ := Dats.get_mk ks j
      have hsz := Dats.get_size ks j hlt
      have hokj := Dats.get_ok ks j hlt hok.2
      have hck : ofCells formedD false [PV.int IntKind.i64 k', PV.int IntKind.i64 n', PV.str s', PV.slice (Dats.len ks') (Dats.cells ks')] = formedD (ks.get j) := by rw [hget]; exact ofCells_at _ _ (.mk k' n' s' ks')
      rw [hget] at hsz hokj
      have d1 : isDat N [PV.int IntKind.i64 k', PV.int IntKind.i64 n', PV.str s', PV.slice (Dats.len ks') (Dats.cells ks')] = true := isDat_at (d := .mk k' n' s' ks') (by omega) hokj
      have d2 := lt_at hlt
      have d3 := in_at hlt
      have d4 : decide (TD.size d25 ≤ List.length (List.drop (Int.toNat (j : Int) * TD.size d25) (Dats.cells ks))) = true := kid_len hlt
      have d5 := kid_same' hlt hget
      have wj' : IntKind.wrap IntKind.i64 (Int.ofNat (j + 1)) = ((j + 1 : Nat) : Int) := wrapC (j + 1) (by omega)
      cases hf : formedD (ks.get j) with
      | true =>
        rw [hf] at hck
        refine SWP.runQ (SRF ih [(57, [(39, true), (45, true), (46, true), (47, true)])] [(57, [(46, .agg [.int .i64 k', .int .i64 n', .str s', .slice ks'.len ks'.cells])])]) 100 57 hnt [1, 3] (e := .normal) (z := { t := [(1, PV.ptr 0 0), (3, PV.int IntKind.i64 (IntKind.wrap IntKind.i64 (Int.ofNat (j + 1))))], h := { bx := [{ cs := [PV.int IntKind.i64 k, PV.int IntKind.i64 n, PV.str s, PV.slice (Dats.len ks) (Dats.cells ks)], ty := 25 }], rw := [] } }) (o := [(decide ((↑j : Int) < (↑(Dats.len ks) : Int)), true), (true, true), (decide (0 ≤ (↑j : Int) ∧ (↑j : Int) < (↑(Dats.len ks) : Int)), true), (decide (TD.size d25 ≤ List.length (List.drop (Int.toNat (↑j : Int) * TD.size d25) (Dats.cells ks))), true), (same (PV.agg (List.take 4 (List.drop (Int.toNat (Int.ofNat j) * 4) (Dats.cells ks)))) (PV.agg [PV.int IntKind.i64 k', PV.int IntKind.i64 n', PV.str s', PV.slice (Dats.len ks') (Dats.cells ks')]), true), (true, true), (isDat N [PV.int IntKind.i64 k', PV.int IntKind.i64 n', PV.str s', PV.slice (Dats.len ks') (Dats.cells ks')], true), (ofCells formedD false [PV.int IntKind.i64 k', PV.int IntKind.i64 n', PV.str s', PV.slice (Dats.len ks') (Dats.cells ks')], true)]) (by kernel_rfl) (by ((repeat' (first | exact okO_nil | refine okN ?_ ?_)); all_goals first | assumption | rfl | exact same_of rfl | exact sameS_self _ | (simp only [decide_eq_true_eq, decide_eq_false_iff_not, Nat.ble_eq, Nat.beq_eq, beq_eq_false_iff_ne, beq_iff_eq, ne_eq] <;> omega))) (fun st hs => ⟨⟨j + 1, hlt, fun i hi => by rcases Nat.lt_or_ge i j with h | h; exact hl i h; rw [show i = j by omega]; exact hf⟩, Nat.sub_lt_sub_left hlt (Nat.lt_succ_self j), ?_⟩)
        rw [hs, wj']
        rfl
      | false =>
        rw [hf] at hck
        have hnf := formedL_not hlt hf
        exact SWP.runQ (SRF ih [(57, [(39, true), (45, true), (46, true), (47, false)])] [(57, [(46, .agg [.int .i64 k', .int .i64 n', .str s', .slice ks'.len ks'.cells])])]) 100 57 hnt [2] (e := .ret) (z := { t := [(2, PV.bool false)], h := { bx := [{ cs := [PV.int IntKind.i64 k, PV.int IntKind.i64 n, PV.str s, PV.slice (Dats.len ks) (Dats.cells ks)], ty := 25 }], rw := [] } }) (o := [(decide ((↑j : Int) < (↑(Dats.len ks) : Int)), true), (true, true), (decide (0 ≤ (↑j : Int) ∧ (↑j : Int) < (↑(Dats.len ks) : Int)), true), (decide (TD.size d25 ≤ List.length (List.drop (Int.toNat (↑j : Int) * TD.size d25) (Dats.cells ks))), true), (same (PV.agg (List.take 4 (List.drop (Int.toNat (Int.ofNat j) * 4) (Dats.cells ks)))) (PV.agg [PV.int IntKind.i64 k', PV.int IntKind.i64 n', PV.str s', PV.slice (Dats.len ks') (Dats.cells ks')]), true), (true, true), (isDat N [PV.int IntKind.i64 k', PV.int IntKind.i64 n', PV.str s', PV.slice (Dats.len ks') (Dats.cells ks')], true), (ofCells formedD false [PV.int IntKind.i64 k', PV.int IntKind.i64 n', PV.str s', PV.slice (Dats.len ks') (Dats.cells ks')], false)]) (by kernel_rfl) (by ((repeat' (first | exact okO_nil | refine okN ?_ ?_)); all_goals first | assumption | rfl | exact same_of rfl | exact sameS_self _ | (simp only [decide_eq_true_eq, decide_eq_false_iff_not, Nat.ble_eq, Nat.beq_eq, beq_eq_false_iff_ne, beq_iff_eq, ne_eq] <;> omega))) (fun st hs => fin st _ _ (by simp [formedD, h1, h2, hnf]) hs)
    · obtain rfl : j = ks.len := by omega
      have d2 := ge_at hge
      have hfl := (formedL_iff ks).2 hl
      refine SWP.runQ (SRF ih [(57, [(39, false)])] []) 100 57 hnt [1] (e := .exit 1) (z := { t := [(1, PV.ptr 0 0)], h := { bx := [{ cs := [PV.int IntKind.i64 k, PV.int IntKind.i64 n, PV.str s, PV.slice (Dats.len ks) (Dats.cells ks)], ty := 25 }], rw := [] } }) (o := [(decide ((ks.len : Int) < (ks.len : Int)), false), (false, false)]) (by kernel_rfl) (by ((repeat' (first | exact okO_nil | refine okN ?_ ?_)); all_goals first | assumption | rfl | exact same_of rfl | exact sameS_self _ | (simp only [decide_eq_true_eq, decide_eq_false_iff_not, Nat.ble_eq, Nat.beq_eq, beq_eq_false_iff_ne, beq_iff_eq, ne_eq] <;> omega))) (fun st hs => hK2 st (.norm [1] ?_))
      rw [hs]
      by_cases h4 : n = 0
      · have c4 : (n == (0 : Int)) = true := by simpa using h4
        by_cases h5 : s.size = 0
        · have c5 := hs0 true (by simpa using h5)
          exact SWP.runQ (SRF ih [(57, [(51, true), (55, true)])] []) 100 57 hnt [2] (e := .ret) (z := { t := [(2, PV.bool true)], h := { bx := [{ cs := [PV.int IntKind.i64 k, PV.int IntKind.i64 n, PV.str s, PV.slice (Dats.len ks) (Dats.cells ks)], ty := 25 }], rw := [] } }) (o := [(n == (0 : Int), true), (ByteArray.toList s == [], true)]) (by kernel_rfl) (by ((repeat' (first | exact okO_nil | refine okN ?_ ?_)); all_goals first | assumption | rfl | exact same_of rfl | exact sameS_self _ | (simp only [decide_eq_true_eq, decide_eq_false_iff_not, Nat.ble_eq, Nat.beq_eq, beq_eq_false_iff_ne, beq_iff_eq, ne_eq] <;> omega))) (fun st hs => fin st _ _ (by simp [formedD, h3, h4, h5, hfl]) hs)
        · have c5 := hs0 false (by simpa using h5)
          exact SWP.runQ (SRF ih [(57, [(51, true), (55, false)])] []) 100 57 hnt [2] (e := .ret) (z := { t := [(2, PV.bool false)], h := { bx := [{ cs := [PV.int IntKind.i64 k, PV.int IntKind.i64 n, PV.str s, PV.slice (Dats.len ks) (Dats.cells ks)], ty := 25 }], rw := [] } }) (o := [(n == (0 : Int), true), (ByteArray.toList s == [], false)]) (by kernel_rfl) (by ((repeat' (first | exact okO_nil | refine okN ?_ ?_)); all_goals first | assumption | rfl | exact same_of rfl | exact sameS_self _ | (simp only [decide_eq_true_eq, decide_eq_false_iff_not, Nat.ble_eq, Nat.beq_eq, beq_eq_false_iff_ne, beq_iff_eq, ne_eq] <;> omega))) (fun st hs => fin st _ _ (by simp [formedD, h3, h4, h5, hfl]) hs)
      · have c4 : (n == (0 : Int)) = false := by simpa using h4
        exact SWP.runQ (SRF ih [(57, [(51, false)])] []) 100 57 hnt [2] (e := .ret) (z := { t := [(2, PV.bool false)], h := { bx := [{ cs := [PV.int IntKind.i64 k, PV.int IntKind.i64 n, PV.str s, PV.slice (Dats.len ks) (Dats.cells ks)], ty := 25 }], rw := [] } }) (o := [(n == (0 : Int), false)]) (by kernel_rfl) (by ((repeat' (first | exact okO_nil | refine okN ?_ ?_)); all_goals first | assumption | rfl | exact same_of rfl | exact sameS_self _ | (simp only [decide_eq_true_eq, decide_eq_false_iff_not, Nat.ble_eq, Nat.beq_eq, beq_eq_false_iff_ne, beq_iff_eq, ne_eq] <;> omega))) (fun st hs => fin st _ _ (by simp [formedD, h3, h4, hfl]) hs)
end Seat
end Go.Proofs.YtenpjkcclmmlhaaDoor
