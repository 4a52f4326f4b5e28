/- Texts of this session, packed: Rp5, GuardA, Guard1, Rp6, Read6, Read7, AllK, Text1, Text2, Text3, Text4, Chk0, Rp7, Rp8, Sta0, Eng4, PthR, AtR, Alv, LawA. -/
import Derived.Test.YtenpjkcclmmlhaaDoorRs3
namespace Go.Proofs.YtenpjkcclmmlhaaDoor
open Go.AS Go.RowKit
set_option linter.unusedVariables false
set_option linter.unusedSimpArgs false
set_option maxRecDepth 100000
set_option maxHeartbeats 4000000
namespace Seat
mutual
def Nd.pl : Nd → List PV
  | .mk _ _ _ ks a => [.int .i64 a, .slice ks.len ks.pl]
def Nds.pl : Nds → List PV
  | .nil => []
  | .cons d ds => d.pl ++ ds.pl
end
def pZ : Box := ⟨[.int .i64 0, .nil], 64⟩
def pB (y : Nat) (x : PV) : Box := ⟨[.int .i64 y, x], 64⟩
def jR (rc : List PV) (m : Nat) : Row := ⟨rc, m, 25, 4⟩
def pR (rc : List PV) (m : Nat) : Row := ⟨rc, m, 64, 2⟩
def ndJ (x : Nd) : List PV := [.int .i64 (ndK x), .int .i64 (ndN x), .str (ndT x), .slice (Dats.len (Nds.dat (ndS x))) (Dats.cells (Nds.dat (ndS x)))]
def ndP (x : Nd) : List PV := [.int .i64 (ndA x), .slice (Nds.len (ndS x)) (Nds.pl (ndS x))]
def qX (s : ByteArray) (n a : Nat) : Nd := rdX s n (skp s a)
def qA (s : ByteArray) (n a : Nat) : Nat := rdA s n (skp s a)
def qE (s : ByteArray) (n a : Nat) : Int := rdE s n (skp s a)
def qF (s : ByteArray) (n a : Nat) : Int := rdF s n (skp s a)
def rF (s : ByteArray) (b : Int) : Box := ⟨[.str s, .int .i64 b], 87⟩
def RpR (s : ByteArray) (n a : Nat) (o : Out) (b : List Box) : Prop := (qE s n a = 0 ∧ o = .ret (.tup [.agg (ndJ (qX s n a)), .agg (ndP (qX s n a))]) ∧ b = [rP s (qA s n a)]) ∨ (qE s n a ≠ 0 ∧ o = .pan (faultV (qF s n a) (qE s n a)) ∧ b = [rF s (qF s n a)])
def RpAt (n : Nat) : Prop := ∀ s : ByteArray, s.size ≤ 1099511627776 → ∀ a, a ≤ s.size → PCalls G0 68 [.ptr 0 0, .int .i64 (1000 - (n : Int))] [rP s a] (RpR s n a)
noncomputable def pdS (f : Nat) (args : List PV) : Option (PV × Ob) := match f, args with
  | 51, [.int .u8 c] => some (.bool (letC c), [(decide (0 ≤ c ∧ c < 256), true)])
  | _, _ => none
theorem pdS_ok (f : Nat) (args : List PV) (r : PV) (o : Ob) (h : pdS f args = some (r, o)) (ho : ∀ p ∈ o, p.1 = p.2) (_ : pureL args = true) : Pure G0 f args (fun x => x = r) := by
  unfold pdS at h
  split at h
  · cases h; exact isAtom_ok _ (of_decide_eq_true (ho _ (List.mem_singleton.2 rfl)))
  · cases h
theorem atQ_some {s : ByteArray} {a : Nat} (h : atE s a = 0) : atQ (s.extract a (letE s a)) = some [.int .i64 (ndK (atX s a)), .int .i64 (ndN (atX s a)), .str (ndT (atX s a)), .nil] ∧ letE s a = atA s a := by
  obtain ⟨h1, h2⟩ := num_same (s.extract a (letE s a))
  unfold atE atX atA atQ at *
  unfold atomR at h ⊢
  rw [h1]
  split at h
  · rename_i hn
    rw [if_pos hn, if_pos hn]
    exact ⟨by rw [h2 hn]; rfl, rfl⟩
  · rename_i hn
    split at h
    · rename_i hs
      rw [if_neg hn, if_neg hn, if_pos hs, if_pos hs]
      exact ⟨rfl, rfl⟩
    · exact absurd h n4
theorem atQ_none {s : ByteArray} {a : Nat} (h : ¬ atE s a = 0) : atQ (s.extract a (letE s a)) = none ∧ atE s a = 4 ∧ atF s a = (a : Int) := by
  obtain ⟨h1, h2⟩ := num_same (s.extract a (letE s a))
  unfold atE atQ atF at *
  unfold atomR at h ⊢
  rw [h1]
  split at h
  · exact absurd rfl h
  · rename_i hn
    split at h
    · exact absurd rfl h
    · rename_i hs
      rw [if_neg hn, if_neg hn, if_neg hs, if_neg hs]
      exact ⟨rfl, rfl, rfl⟩
noncomputable def pdB (u : Bool) (n : Nat) (f : Nat) (args : List PV) (x : Box) : Option (PV × Box × Ob) := match f, args, x with
  | 50, [.ptr 0 0], ⟨[.str s, .int .i64 a], ty⟩ => match Nat.beq ty 87 with
    | true => some (.int .u8 (nxt s a.toNat), rP s (skp s a.toNat), [(decide (0 ≤ a ∧ a ≤ (s.size : Int)), true), (Nat.ble s.size 1099511627776, true)])
    | false => none
  | 54, [.ptr 0 0], ⟨[.str s, .int .i64 a], ty⟩ => match Nat.beq ty 87 with
    | true => some (.agg [.int .i64 (ndK (atX s a.toNat)), .int .i64 (ndN (atX s a.toNat)), .str (ndT (atX s a.toNat)), .nil], rP s (atA s a.toNat), [(decide (0 ≤ a ∧ a ≤ (s.size : Int)), true), (decide (atE s a.toNat = 0), true), (Nat.ble s.size 1099511627776, true)])
    | false => none
  | 68, [.ptr 0 0, .int .i64 w], ⟨[.str s, .int .i64 a], ty⟩ => match u && Nat.beq ty 87 with
    | true => some (.tup [.agg (ndJ (qX s n a.toNat)), .agg (ndP (qX s n a.toNat))], rP s (qA s n a.toNat), [(decide (0 ≤ a ∧ a ≤ (s.size : Int)), true), (decide (w = 1000 - (n : Int)), true), (decide (qE s n a.toNat = 0), true), (Nat.ble s.size 1099511627776, true)])
    | false => none
  | _, _, _ => none
theorem pdB_ok {u : Bool} {n : Nat} (ih : u = true → RpAt n) : ∀ f xs x r x' o, pdB u n f xs x = some (r, x', o) → (∀ p ∈ o, p.1 = p.2) → PCalls G0 f xs [x] (fun o' b' => o' = .ret r ∧ b' = [x']) ∧ r.sc 0 = true ∧ scL 0 x.cs = true ∧ scL 0 x'.cs = true := by
  intro f args x r b o h ho
  unfold pdB at h
  split at h
  · rename_i s a ty
    split at h
    · rename_i hc
      cases h
      simp only [Nat.beq_eq] at hc
      subst hc
      have h1 : 0 ≤ a ∧ a ≤ (s.size : Int) := of_decide_eq_true (ho (decide (0 ≤ a ∧ a ≤ (s.size : Int)), true) (by simp))
      have h2 : s.size ≤ 1099511627776 := Nat.le_of_ble_eq_true (ho (Nat.ble s.size 1099511627776, true) (by simp))
      have key := nextP_ok s h2 a.toNat (by omega)
      unfold rP at key
      rw [Int.toNat_of_nonneg h1.1] at key
      exact ⟨key, rfl, rfl, rfl⟩
    · cases h
  · rename_i s a ty
    split at h
    · rename_i hc
      cases h
      simp only [Nat.beq_eq] at hc
      subst hc
      have h1 : 0 ≤ a ∧ a ≤ (s.size : Int) := of_decide_eq_true (ho (decide (0 ≤ a ∧ a ≤ (s.size : Int)), true) (by simp))
      have h2 : s.size ≤ 1099511627776 := Nat.le_of_ble_eq_true (ho (Nat.ble s.size 1099511627776, true) (by simp))
      have h3 : atE s a.toNat = 0 := of_decide_eq_true (ho (decide (atE s a.toNat = 0), true) (by simp))
      have key := atomP s h2 a.toNat (by omega)
      obtain ⟨e1, e2⟩ := atQ_some h3
      rw [e1] at key
      unfold rP at key
      rw [Int.toNat_of_nonneg h1.1] at key
      refine ⟨key.mono fun o b h => ?_, rfl, rfl, rfl⟩
      rcases h with ⟨cs, g1, g2, g3⟩ | ⟨g1, _⟩
      · cases g1
        exact ⟨g2, by rw [g3, e2]; rfl⟩
      · cases g1
    · cases h
  · rename_i w s a ty
    split at h
    · rename_i hc
      cases h
      simp only [Nat.beq_eq, Bool.and_eq_true] at hc
      obtain ⟨hu, hc⟩ := hc
      subst hc
      have h1 : 0 ≤ a ∧ a ≤ (s.size : Int) := of_decide_eq_true (ho (decide (0 ≤ a ∧ a ≤ (s.size : Int)), true) (by simp))
      have h2 : s.size ≤ 1099511627776 := Nat.le_of_ble_eq_true (ho (Nat.ble s.size 1099511627776, true) (by simp))
      have h3 : w = 1000 - (n : Int) := of_decide_eq_true (ho (decide (w = 1000 - (n : Int)), true) (by simp))
      have h4 : qE s n a.toNat = 0 := of_decide_eq_true (ho (decide (qE s n a.toNat = 0), true) (by simp))
      have key := ih hu s h2 a.toNat (by omega)
      have e1 : rP s a.toNat = ⟨[.str s, .int .i64 a], 87⟩ := by unfold rP; rw [Int.toNat_of_nonneg h1.1]
      rw [e1, ← h3] at key
      refine ⟨key.mono fun o b h => ?_, rfl, rfl, rfl⟩
      rcases h with ⟨_, g2, g3⟩ | ⟨g1, _⟩
      · exact ⟨g2, g3⟩
      · exact absurd h4 g1
    · cases h
  · cases h
noncomputable def pdP (pn u : Bool) (n : Nat) (f : Nat) (args : List PV) (H : Hp) : Option (PV × Hp × Ob) := match f, args, H with
  | 75, [.ptr 0 0, .int .i64 e], ⟨[⟨[.str s, .int .i64 a], ty⟩], []⟩ => match Nat.beq ty 87 with
    | true => some (faultV a e, ⟨[⟨[.str s, .int .i64 a], ty⟩], []⟩, [(decide (0 ≤ a), true)])
    | false => none
  | 54, [.ptr 0 0], ⟨[⟨[.str s, .int .i64 a], ty⟩], []⟩ => match pn && Nat.beq ty 87 with
    | true => some (faultV a 4, ⟨[⟨[.str s, .int .i64 a], ty⟩], []⟩, [(decide (0 ≤ a ∧ a ≤ (s.size : Int)), true), (decide (atE s a.toNat = 0), false), (Nat.ble s.size 1099511627776, true)])
    | false => none
  | 68, [.ptr 0 0, .int .i64 w], ⟨[⟨[.str s, .int .i64 a], ty⟩], []⟩ => match pn && (u && Nat.beq ty 87) with
    | true => some (faultV (qF s n a.toNat) (qE s n a.toNat), ⟨[rF s (qF s n a.toNat)], []⟩, [(decide (0 ≤ a ∧ a ≤ (s.size : Int)), true), (decide (w = 1000 - (n : Int)), true), (decide (qE s n a.toNat = 0), false), (Nat.ble s.size 1099511627776, true)])
    | false => none
  | _, _, _ => none
theorem pdP_ok {pn u : Bool} {n : Nat} (ih : u = true → RpAt n) : ∀ f xs H x H' o, pdP pn u n f xs H = some (x, H', o) → (∀ p ∈ o, p.1 = p.2) → RCalls G0 f xs H (fun o' H2 => o' = .pan x ∧ H2 = H') ∧ x.scP (belowN H'.bx.length) (belowN H'.rw.length) = true ∧ H'.scB H'.bx.length H'.rw.length = true := by
  intro f xs H x H' o h ho
  have fin : ∀ {R : Out → List Box → Prop} {f : Nat} {args : List PV} {b b' : List Box} {x : PV}, PCalls G0 f args b R → (∀ o c, R o c → o = .pan x ∧ c = b') → RCalls G0 f args ⟨b, []⟩ (fun o' H2 => o' = .pan x ∧ H2 = ⟨b', []⟩) := fun hc hR => (PCalls.toR hc).mono fun o' H2 ⟨g1, g2⟩ => by
    obtain ⟨b2, r⟩ := H2
    simp only [] at g1 g2
    obtain ⟨e1, e2⟩ := hR _ _ g2
    rw [g1, e2]; exact ⟨e1, rfl⟩
  unfold pdP at h
  split at h
  · rename_i e s a ty
    split at h
    · rename_i hc
      cases h
      simp only [Nat.beq_eq] at hc
      subst hc
      have h1 : 0 ≤ a := of_decide_eq_true (ho _ (List.mem_singleton.2 rfl))
      have key := failP s a.toNat e
      unfold rP faultV at key
      rw [Int.toNat_of_nonneg h1] at key
      exact ⟨fin key (fun o c h => h), rfl, rfl⟩
    · cases h
  · rename_i s a ty
    split at h
    · rename_i hc
      cases h
      simp only [Nat.beq_eq, Bool.and_eq_true] at hc
      obtain ⟨_, hc⟩ := hc
      subst hc
      have h1 : 0 ≤ a ∧ a ≤ (s.size : Int) := of_decide_eq_true (ho (decide (0 ≤ a ∧ a ≤ (s.size : Int)), true) (by simp))
      have h2 : s.size ≤ 1099511627776 := Nat.le_of_ble_eq_true (ho (Nat.ble s.size 1099511627776, true) (by simp))
      have h3 : ¬ atE s a.toNat = 0 := of_decide_eq_false (ho (decide (atE s a.toNat = 0), false) (by simp))
      have key := atomP s h2 a.toNat (by omega)
      rw [(atQ_none h3).1] at key
      unfold rP at key
      rw [Int.toNat_of_nonneg h1.1] at key
      refine ⟨fin key (fun o c h => ?_), rfl, rfl⟩
      rcases h with ⟨cs, g1, _⟩ | ⟨_, g2, g3⟩
      · cases g1
      · exact ⟨g2, g3⟩
    · cases h
  · rename_i w s a ty
    split at h
    · rename_i hc
      cases h
      simp only [Nat.beq_eq, Bool.and_eq_true] at hc
      obtain ⟨_, hu, hc⟩ := hc
      subst hc
      have h1 : 0 ≤ a ∧ a ≤ (s.size : Int) := of_decide_eq_true (ho (decide (0 ≤ a ∧ a ≤ (s.size : Int)), true) (by simp))
      have h2 : s.size ≤ 1099511627776 := Nat.le_of_ble_eq_true (ho (Nat.ble s.size 1099511627776, true) (by simp))
      have h3 : w = 1000 - (n : Int) := of_decide_eq_true (ho (decide (w = 1000 - (n : Int)), true) (by simp))
      have h4 : ¬ qE s n a.toNat = 0 := of_decide_eq_false (ho (decide (qE s n a.toNat = 0), false) (by simp))
      have key := ih hu s h2 a.toNat (by omega)
      have e1 : rP s a.toNat = ⟨[.str s, .int .i64 a], 87⟩ := by unfold rP; rw [Int.toNat_of_nonneg h1.1]
      rw [e1, ← h3] at key
      refine ⟨fin key (fun o c h => ?_), rfl, rfl⟩
      rcases h with ⟨g1, _⟩ | ⟨_, g2, g3⟩
      · exact absurd g1 h4
      · exact ⟨g2, g3⟩
    · cases h
  · cases h
noncomputable def SPd (pn u : Bool) (n : Nat) (ih : u = true → RpAt n) (l : List (Nat × List (Nat × Bool))) (v : List (Nat × List (Nat × PV))) : Cfg G0 := { F := F, hF := hF, S := pdS, hS := pdS_ok, B := pdB u n, hB := pdB_ok ih, D := fun f => Nat.beq f 68 || Nat.beq f 54, orc := orcM l, val := valM v, pn := fun f => Nat.beq f 75 || (pn && (Nat.beq f 54 || Nat.beq f 68)), P := pdP pn u n, hP := pdP_ok ih }
mutual
theorem Nd.pl_nz : ∀ d : Nd, nzL d.pl = d.pl
  | .mk k n s ks a => by simp only [Nd.pl, nzL, PV.nz, Nds.pl_nz ks]
theorem Nds.pl_nz : ∀ ds : Nds, nzL ds.pl = ds.pl
  | .nil => rfl
  | .cons d ds => by simp only [Nds.pl, nzL_app, Nd.pl_nz d, Nds.pl_nz ds]
end
theorem ndJ_eq (x : Nd) : ndJ x = x.dat.cells := by obtain ⟨k, n, t, ks, a⟩ := x; rfl
theorem ndP_eq (x : Nd) : ndP x = x.pl := by obtain ⟨k, n, t, ks, a⟩ := x; rfl
theorem Nds.snoc_pl : ∀ (ds : Nds) (x : Nd), (ds.snoc x).pl = ds.pl ++ x.pl
  | .nil, x => by simp [Nds.snoc, Nds.pl]
  | .cons d ds, x => by simp only [Nds.snoc, Nds.pl, Nds.snoc_pl ds x, List.append_assoc]
theorem Nds.snoc_dc : ∀ (ds : Nds) (x : Nd), (ds.snoc x).dat.cells = ds.dat.cells ++ x.dat.cells
  | .nil, x => by simp [Nds.snoc, Nds.dat, Dats.cells]
  | .cons d ds, x => by simp only [Nds.snoc, Nds.dat, Dats.cells, Nds.snoc_dc ds x, List.append_assoc]
theorem skp_skp (s : ByteArray) (a : Nat) : skp s (skp s a) = skp s a := by
  rcases Nat.lt_or_ge (skp s a) s.size with h | h
  · obtain ⟨g1, g2⟩ := clean_skp s a h
    rw [skp_eq s (skp s a), if_pos h, if_neg (by rw [g1]; decide), if_neg g2]
  · exact skp_out s _ h
theorem nxt_in (s : ByteArray) (a : Nat) : decide (0 ≤ nxt s a ∧ nxt s a < 256) = true := by
  unfold nxt
  split
  · exact decide_eq_true (bt_in s _)
  · rfl
theorem rdL_err {s : ByteArray} {n x k : Nat} {l : Nds} (hg : goes s ⟨x, 0, 0⟩ = true) (he : ¬ rdE s n x = 0) : (rdL (rdD s n) s (k + 1) ⟨x, 0, 0⟩ l).2.e = rdE s n x ∧ (rdL (rdD s n) s (k + 1) ⟨x, 0, 0⟩ l).2.b = rdF s n x := by
  rw [rdL, if_pos hg]
  have : goes s ⟨skp s (rdD s n x).2.a, (rdD s n x).2.e, (rdD s n x).2.b⟩ = false := goes_err he
  rw [rdL_stop this]
  exact ⟨rfl, rfl⟩
theorem goes_at0 (s : ByteArray) (x : Nat) : goes s ⟨x, 0, 0⟩ = !(decide (x < s.size) && bt s (x : Int) == 41) := rfl
theorem rp_step (u : Bool) (n : Nat) (ih : u = true → RpAt n) (N : Nat) (h1 : u = true → N = n + 1) (h0 : u = false → N = 0) (hN : N ≤ 1000) : RpAt N := by
  intro s hs a ha
  obtain ⟨w, hw⟩ : ∃ w : Int, w = 1000 - (N : Int) := ⟨_, rfl⟩
  rw [← hw]
  refine PCalls.nz ?_
  refine Fn.enterB Tryd.func68 Tryd.ntmps68 rfl (Nat.le_of_ble_eq_true rfl) fun C fr fp hnt hnb hp hfr hfp => ?_
  have hss : Nat.ble s.size 1099511627776 = true := Nat.ble_eq_true_of_le hs
  obtain ⟨y, hy⟩ : ∃ y, y = skp s a := ⟨_, rfl⟩
  have hy2 : y ≤ s.size := by rw [hy]; exact skp_le s a ha
  have hcl : skp s y = y := by rw [hy]; exact skp_skp s a
  have eq := rdD_eq s N y
  have fin : ∀ st d p z bx rw', nrm [4, 5] st = ⟨[(4, .ptr 1 0), (5, .ptr 2 0)], ⟨rP s z :: ⟨d, 25⟩ :: ⟨p, 64⟩ :: bx, rw'⟩⟩ → d.length = 4 → p.length = 2 → scL 1 d = true → scL 1 p = true → (∃ X, rdD s N y = (X, ⟨z, 0, 0⟩) ∧ nzL d = X.dat.cells ∧ nzL p = X.pl) → fr st := fun st d p z bx rw' hst l1 l2 s1 s2 ⟨X, g1, g2, g3⟩ => hfr st [4, 5] (by
    have a1 : qX s N a = X := by unfold qX rdX; rw [← hy, g1]
    have a2 : qA s N a = z := by unfold qA rdA; rw [← hy, g1]
    have a3 : qE s N a = 0 := by unfold qE rdE; rw [← hy, g1]
    rw [hst]
    refine ⟨1, .tup [.agg d, .agg p], Nat.le_refl _, Nat.le_add_left _ _, ?_, ?_, rfl, .inl ⟨a3, ?_, ?_⟩⟩
    · match d, l1, p, l2 with
      | [d1, d2, d3, d4], _, [p1, p2], _ => rfl
    · simp only [PV.sc, scL, s1, s2, Bool.and_true] at *
    · show Out.ret (.tup [.agg (nzL d), .agg (nzL p)]) = _
      rw [g2, g3, a1, ndJ_eq, ndP_eq]
    · rw [a2]; rfl)
  have pan : ∀ st (x e : Int) bx rw', st.h = ⟨rF s x :: bx, rw'⟩ → e ≠ 0 → rdE s N y = e → rdF s N y = x → fp (faultV x e) st := fun st x e bx rw' hst he g1 g2 => hfp _ st (by
    have a3 : qE s N a = e := by unfold qE; rw [← hy]; exact g1
    have a4 : qF s N a = x := by unfold qF; rw [← hy]; exact g2
    refine ⟨1, Nat.le_refl _, by rw [hst]; exact Nat.le_add_left _ _, rfl, by rw [hst]; rfl, .inr ⟨by rw [a3]; exact he, ?_, ?_⟩⟩
    · rw [a3, a4]; rfl
    · rw [hst, a4]; rfl)
  have dy : decide (0 ≤ (a : Int) ∧ (a : Int) ≤ (s.size : Int)) = true := by rw [decide_eq_true_eq]; omega
  have dyy : decide (0 ≤ (y : Int) ∧ (y : Int) ≤ (s.size : Int)) = true := by rw [decide_eq_true_eq]; omega
  have dy0 : decide (0 ≤ (y : Int)) = true := by rw [decide_eq_true_eq]; omega
  refine Q.runSeq (SPd false u n ih [] []) 100 121 hnt [0, 1, 4, 5] (z := ⟨[(0, .ptr 0 0), (1, .int .i64 w), (4, .ptr 1 0), (5, .ptr 2 0)], ⟨[⟨[.str s, .int .i64 (Int.ofNat a)], 87⟩, ⟨[.int .i64 (0 : Int), .int .i64 (0 : Int), .str ⟨#[]⟩, PV.nil], 25⟩, ⟨[.int .i64 (0 : Int), PV.nil], 64⟩], []⟩⟩) (o := []) (by kernel_rfl) (by ((repeat' (first | exact okO_nil | refine okN ?_ ?_)); all_goals first | assumption | rfl | exact same_of rfl | exact sameS_self _ | (simp only [decide_eq_true_eq, decide_eq_false_iff_not, Nat.ble_eq, Nat.beq_eq, beq_eq_false_iff_ne, beq_iff_eq, ne_eq] <;> omega))) ?_
  refine Q.runSeq (SPd false u n ih [] []) 100 121 hnt [0, 1, 4, 5, 6] (z := ⟨[(0, .ptr 0 0), (1, .int .i64 w), (4, .ptr 1 0), (5, .ptr 2 0), (6, PV.int IntKind.u8 (if skp s (Int.toNat (↑a : Int)) < ByteArray.size s then bt s (Int.ofNat (skp s (Int.toNat (Int.ofNat a)))) else (0 : Int)))], ⟨[⟨[.str s, .int .i64 (Int.ofNat (skp s (Int.toNat (Int.ofNat a))))], 87⟩, ⟨[.int .i64 (0 : Int), .int .i64 (0 : Int), .str ⟨#[]⟩, PV.nil], 25⟩, ⟨[.int .i64 (0 : Int), PV.nil], 64⟩], []⟩⟩) (o := [(decide (0 ≤ (↑a : Int) ∧ (↑a : Int) ≤ (↑(ByteArray.size s) : Int)), true), (Nat.ble (ByteArray.size s) 1099511627776, true)]) (by kernel_rfl) (by ((repeat' (first | exact okO_nil | refine okN ?_ ?_)); all_goals first | assumption | rfl | exact same_of rfl | exact sameS_self _ | (simp only [decide_eq_true_eq, decide_eq_false_iff_not, Nat.ble_eq, Nat.beq_eq, beq_eq_false_iff_ne, beq_iff_eq, ne_eq] <;> omega))) ?_
  obtain ⟨c, hc⟩ : ∃ c, c = nxt s a := ⟨_, rfl⟩
  have hc8 : decide (0 ≤ c ∧ c < 256) = true := by rw [hc]; exact nxt_in s a
  show SWP G0 C _ _ ⟨[(0, .ptr 0 0), (1, .int .i64 w), (4, .ptr 1 0), (5, .ptr 2 0), (6, .int .u8 (nxt s a))], ⟨[rP s (skp s a), dZ, pZ], []⟩⟩
  rw [← hc, ← hy]
  rw [nxt, ← hy] at hc
  refine Q.runSeq (SPd false u n ih [] []) 100 121 hnt [0, 1, 4, 5, 6, 7] (z := ⟨[(0, .ptr 0 0), (1, .int .i64 w), (4, .ptr 1 0), (5, .ptr 2 0), (6, PV.int IntKind.u8 c), (7, .ptr 3 0)], ⟨[⟨[.str s, .int .i64 (Int.ofNat y)], 87⟩, ⟨[.int .i64 (0 : Int), .int .i64 (0 : Int), .str ⟨#[]⟩, PV.nil], 25⟩, ⟨[.int .i64 (0 : Int), PV.nil], 64⟩, ⟨[.int .i64 (Int.ofNat y), PV.nil], 64⟩], []⟩⟩) (o := []) (by kernel_rfl) (by ((repeat' (first | exact okO_nil | refine okN ?_ ?_)); all_goals first | assumption | rfl | exact same_of rfl | exact sameS_self _ | (simp only [decide_eq_true_eq, decide_eq_false_iff_not, Nat.ble_eq, Nat.beq_eq, beq_eq_false_iff_ne, beq_iff_eq, ne_eq] <;> omega))) ?_
  by_cases hb : c ≠ 40 ∧ c ≠ 39 ∧ letC c = false
  · have e22 := hb.2.2
    have e25 := beqF hb.1
    have e29 := beqF hb.2.1
    refine Q.runSeq (SPd false u n ih [(121, [(22, false), (25, false), (29, false)])] []) 100 121 hnt [0, 1, 4, 5, 6, 7, 8] (z := ⟨[(0, .ptr 0 0), (1, .int .i64 w), (4, .ptr 1 0), (5, .ptr 2 0), (6, PV.int IntKind.u8 c), (7, .ptr 3 0), (8, .bool false)], ⟨[⟨[.str s, .int .i64 (Int.ofNat y)], 87⟩, ⟨[.int .i64 (0 : Int), .int .i64 (0 : Int), .str ⟨#[]⟩, PV.nil], 25⟩, ⟨[.int .i64 (0 : Int), PV.nil], 64⟩, ⟨[.int .i64 (Int.ofNat y), PV.nil], 64⟩], []⟩⟩) (o := [(true, true), (decide (0 ≤ c ∧ c < 256), true), (letC c, false), (c == (40 : Int), false), (c == (39 : Int), false)]) (by kernel_rfl) (by ((repeat' (first | exact okO_nil | refine okN ?_ ?_)); all_goals first | assumption | rfl | exact same_of rfl | exact sameS_self _ | (simp only [decide_eq_true_eq, decide_eq_false_iff_not, Nat.ble_eq, Nat.beq_eq, beq_eq_false_iff_ne, beq_iff_eq, ne_eq] <;> omega))) ?_
    refine Q.runSeq (SPd false u n ih [] []) 100 121 hnt [0, 1, 4, 5, 6, 7] (z := ⟨[(0, .ptr 0 0), (1, .int .i64 w), (4, .ptr 1 0), (5, .ptr 2 0), (6, PV.int IntKind.u8 c), (7, .ptr 3 0)], ⟨[⟨[.str s, .int .i64 (Int.ofNat y)], 87⟩, ⟨[.int .i64 (0 : Int), .int .i64 (0 : Int), .str ⟨#[]⟩, PV.nil], 25⟩, ⟨[.int .i64 (0 : Int), PV.nil], 64⟩, ⟨[.int .i64 (Int.ofNat y), PV.nil], 64⟩], []⟩⟩) (o := []) (by kernel_rfl) (by ((repeat' (first | exact okO_nil | refine okN ?_ ?_)); all_goals first | assumption | rfl | exact same_of rfl | exact sameS_self _ | (simp only [decide_eq_true_eq, decide_eq_false_iff_not, Nat.ble_eq, Nat.beq_eq, beq_eq_false_iff_ne, beq_iff_eq, ne_eq] <;> omega))) ?_
    have key : rdE s N y = 4 ∧ rdF s N y = (y : Int) := by
      unfold rdE rdF
      rcases Nat.lt_or_ge y s.size with hl | hg
      · rw [if_pos hl] at hc
        rw [eq, if_neg (by omega), if_pos ⟨by rw [← hc]; exact hb.1, by rw [← hc]; exact hb.2.1, by rw [← hc]; exact hb.2.2⟩]
        exact ⟨rfl, rfl⟩
      · rw [eq, if_pos hg]
        have : y = s.size := by omega
        exact ⟨rfl, by rw [this]⟩
    exact SWP.runQ (SPd true u n ih [(121, [(40, false), (46, false), (86, false)])] []) 100 121 hnt [] (e := .panic (faultV y 4)) (z := ⟨[], ⟨[⟨[.str s, .int .i64 (Int.ofNat y)], 87⟩, ⟨[.int .i64 (0 : Int), .int .i64 (0 : Int), .str ⟨#[]⟩, PV.nil], 25⟩, ⟨[.int .i64 (0 : Int), PV.nil], 64⟩, ⟨[.int .i64 (Int.ofNat y), PV.nil], 64⟩], []⟩⟩) (o := [(true, true), (decide (0 ≤ c ∧ c < 256), true), (letC c, false), (c == (40 : Int), false), (c == (39 : Int), false), (true, true)]) (by kernel_rfl) (by ((repeat' (first | exact okO_nil | refine okN ?_ ?_)); all_goals first | assumption | rfl | exact same_of rfl | exact sameS_self _ | (simp only [decide_eq_true_eq, decide_eq_false_iff_not, Nat.ble_eq, Nat.beq_eq, beq_eq_false_iff_ne, beq_iff_eq, ne_eq] <;> omega))) (fun st hst => pan st y 4 _ _ (congrArg AS.h hst) (by decide) key.1 key.2)
  have hlt : y < s.size := by
    rcases Nat.lt_or_ge y s.size with hl | hg
    · exact hl
    · rw [if_neg (by omega)] at hc
      exact absurd ⟨by rw [hc]; decide, by rw [hc]; decide, by rw [hc]; decide⟩ hb
  rw [if_pos hlt] at hc
  rw [if_neg (by omega), ← hc, if_neg hb] at eq
  have beg : ∀ {Q : AEx → AS → Prop} {c0 : Code}, SWP G0 C c0 Q ⟨[(0, .ptr 0 0), (1, .int .i64 w), (4, .ptr 1 0), (5, .ptr 2 0), (6, .int .u8 c), (7, .ptr 3 0), (8, .bool true)], ⟨[rP s y, dZ, pZ, pB y .nil], []⟩⟩ → SWP G0 C c0 Q ⟨[(0, .ptr 0 0), (1, .int .i64 w), (4, .ptr 1 0), (5, .ptr 2 0), (6, .int .u8 c), (7, .ptr 3 0), (8, .bool true)], ⟨[rP s y, dZ, pZ, pB y .nil], []⟩⟩ := fun h => h
  refine Q.seq fun K3 hK3 => ?_
  suffices hmain : SWP G0 C _ _ ⟨[(0, .ptr 0 0), (1, .int .i64 w), (4, .ptr 1 0), (5, .ptr 2 0), (6, .int .u8 c), (7, .ptr 3 0), (8, .bool true)], ⟨[rP s y, dZ, pZ, pB y .nil], []⟩⟩ by
    have go : ∀ st, nrm [0, 1, 4, 5, 6, 7, 8] st = ⟨[(0, .ptr 0 0), (1, .int .i64 w), (4, .ptr 1 0), (5, .ptr 2 0), (6, .int .u8 c), (7, .ptr 3 0), (8, .bool true)], ⟨[rP s y, dZ, pZ, pB y .nil], []⟩⟩ → K3 st := fun st hst => hK3 st (.norm [0, 1, 4, 5, 6, 7, 8] (by rw [hst]; exact hmain))
    cases e22 : letC c with
    | true => exact SWP.runQ (SPd false u n ih [(121, [(22, true)])] []) 100 121 hnt [0, 1, 4, 5, 6, 7, 8] (e := .normal) (z := ⟨[(0, .ptr 0 0), (1, .int .i64 w), (4, .ptr 1 0), (5, .ptr 2 0), (6, PV.int IntKind.u8 c), (7, .ptr 3 0), (8, .bool true)], ⟨[⟨[.str s, .int .i64 (Int.ofNat y)], 87⟩, ⟨[.int .i64 (0 : Int), .int .i64 (0 : Int), .str ⟨#[]⟩, PV.nil], 25⟩, ⟨[.int .i64 (0 : Int), PV.nil], 64⟩, ⟨[.int .i64 (Int.ofNat y), PV.nil], 64⟩], []⟩⟩) (o := [(true, true), (decide (0 ≤ c ∧ c < 256), true), (letC c, true)]) (by kernel_rfl) (by ((repeat' (first | exact okO_nil | refine okN ?_ ?_)); all_goals first | assumption | rfl | exact same_of rfl | exact sameS_self _ | (simp only [decide_eq_true_eq, decide_eq_false_iff_not, Nat.ble_eq, Nat.beq_eq, beq_eq_false_iff_ne, beq_iff_eq, ne_eq] <;> omega))) go
    | false =>
      by_cases e40 : c = 40
      · have e25 := beqT e40
        exact SWP.runQ (SPd false u n ih [(121, [(22, false), (25, true)])] []) 100 121 hnt [0, 1, 4, 5, 6, 7, 8] (e := .normal) (z := ⟨[(0, .ptr 0 0), (1, .int .i64 w), (4, .ptr 1 0), (5, .ptr 2 0), (6, PV.int IntKind.u8 c), (7, .ptr 3 0), (8, .bool true)], ⟨[⟨[.str s, .int .i64 (Int.ofNat y)], 87⟩, ⟨[.int .i64 (0 : Int), .int .i64 (0 : Int), .str ⟨#[]⟩, PV.nil], 25⟩, ⟨[.int .i64 (0 : Int), PV.nil], 64⟩, ⟨[.int .i64 (Int.ofNat y), PV.nil], 64⟩], []⟩⟩) (o := [(true, true), (decide (0 ≤ c ∧ c < 256), true), (letC c, false), (c == (40 : Int), true)]) (by kernel_rfl) (by ((repeat' (first | exact okO_nil | refine okN ?_ ?_)); all_goals first | assumption | rfl | exact same_of rfl | exact sameS_self _ | (simp only [decide_eq_true_eq, decide_eq_false_iff_not, Nat.ble_eq, Nat.beq_eq, beq_eq_false_iff_ne, beq_iff_eq, ne_eq] <;> omega))) go
      · have e25 := beqF e40
        have e39 : c = 39 := by
          by_cases h : c = 39
          · exact h
          · exact absurd ⟨e40, h, e22⟩ hb
        have e29 := beqT e39
        exact SWP.runQ (SPd false u n ih [(121, [(22, false), (25, false), (29, true)])] []) 100 121 hnt [0, 1, 4, 5, 6, 7, 8] (e := .normal) (z := ⟨[(0, .ptr 0 0), (1, .int .i64 w), (4, .ptr 1 0), (5, .ptr 2 0), (6, PV.int IntKind.u8 c), (7, .ptr 3 0), (8, .bool true)], ⟨[⟨[.str s, .int .i64 (Int.ofNat y)], 87⟩, ⟨[.int .i64 (0 : Int), .int .i64 (0 : Int), .str ⟨#[]⟩, PV.nil], 25⟩, ⟨[.int .i64 (0 : Int), PV.nil], 64⟩, ⟨[.int .i64 (Int.ofNat y), PV.nil], 64⟩], []⟩⟩) (o := [(true, true), (decide (0 ≤ c ∧ c < 256), true), (letC c, false), (c == (40 : Int), false), (c == (39 : Int), true)]) (by kernel_rfl) (by ((repeat' (first | exact okO_nil | refine okN ?_ ?_)); all_goals first | assumption | rfl | exact same_of rfl | exact sameS_self _ | (simp only [decide_eq_true_eq, decide_eq_false_iff_not, Nat.ble_eq, Nat.beq_eq, beq_eq_false_iff_ne, beq_iff_eq, ne_eq] <;> omega))) go
  clear hK3 K3 beg
  cases u with
  | false =>
    obtain rfl := h0 rfl
    have e34 : decide (1000 ≤ w) = true := by rw [decide_eq_true_eq]; omega
    refine Q.seq fun K hK => ?_
    exact SWP.runQ (SPd true false n ih [(121, [(34, true)])] []) 100 121 hnt [] (e := .panic (faultV y 3)) (z := ⟨[], ⟨[⟨[.str s, .int .i64 (Int.ofNat y)], 87⟩, ⟨[.int .i64 (0 : Int), .int .i64 (0 : Int), .str ⟨#[]⟩, PV.nil], 25⟩, ⟨[.int .i64 (0 : Int), PV.nil], 64⟩, ⟨[.int .i64 (Int.ofNat y), PV.nil], 64⟩], []⟩⟩) (o := [(decide (1000 ≤ w), true), (true, true)]) (by kernel_rfl) (by ((repeat' (first | exact okO_nil | refine okN ?_ ?_)); all_goals first | assumption | rfl | exact same_of rfl | exact sameS_self _ | (simp only [decide_eq_true_eq, decide_eq_false_iff_not, Nat.ble_eq, Nat.beq_eq, beq_eq_false_iff_ne, beq_iff_eq, ne_eq] <;> omega))) (fun st hst => pan st y 3 _ _ (congrArg AS.h hst) (by decide) (by unfold rdE; rw [eq]) (by unfold rdF; rw [eq]))
  | true =>
  obtain rfl := h1 rfl
  have e34 : decide (1000 ≤ w) = false := by rw [decide_eq_false_iff_not]; omega
  refine Q.runSeq (SPd false true n ih [(121, [(34, false)])] []) 100 121 hnt [0, 1, 4, 5, 6, 7] (z := ⟨[(0, .ptr 0 0), (1, .int .i64 w), (4, .ptr 1 0), (5, .ptr 2 0), (6, PV.int IntKind.u8 c), (7, .ptr 3 0)], ⟨[⟨[.str s, .int .i64 (Int.ofNat y)], 87⟩, ⟨[.int .i64 (0 : Int), .int .i64 (0 : Int), .str ⟨#[]⟩, PV.nil], 25⟩, ⟨[.int .i64 (0 : Int), PV.nil], 64⟩, ⟨[.int .i64 (Int.ofNat y), PV.nil], 64⟩], []⟩⟩) (o := [(decide (1000 ≤ w), false)]) (by kernel_rfl) (by ((repeat' (first | exact okO_nil | refine okN ?_ ?_)); all_goals first | assumption | rfl | exact same_of rfl | exact sameS_self _ | (simp only [decide_eq_true_eq, decide_eq_false_iff_not, Nat.ble_eq, Nat.beq_eq, beq_eq_false_iff_ne, beq_iff_eq, ne_eq] <;> omega))) ?_
  have w2 : IntKind.wrap IntKind.i64 (w + 1) = 1000 - (n : Int) := by rw [IntKind.wrap_i64]; omega
  have wy : IntKind.wrap IntKind.i64 (Int.ofNat (y + 1)) = ((y + 1 : Nat) : Int) := wrapI (y + 1) (by omega)
  have fw : decide (IntKind.wrap IntKind.i64 (w + 1) = 1000 - (n : Int)) = true := by rw [w2]; exact decide_eq_true rfl
  simp only [] at eq
  cases e40l : letC c with
  | true =>
    have c39 : ¬ c = 39 := fun h => by rw [h] at e40l; exact absurd e40l (by decide)
    rw [if_neg (fun g => c39 g.1), if_pos e40l] at eq
    by_cases he : atE s y = 0
    · have d3 := decide_eq_true he
      have eq2 : rdD s (n + 1) y = (atX s y, ⟨atA s y, 0, 0⟩) := by
        rw [eq]
        have hb0 : (atomR s y).2.b = 0 := by
          unfold atE at he
          unfold atomR at he ⊢
          split at he
          · rename_i h; rw [if_pos h]
          · rename_i h
            split at he
            · rename_i h'; rw [if_neg h, if_pos h']
            · exact absurd he n4
        have : (atomR s y).2 = ⟨atA s y, atE s y, (atomR s y).2.b⟩ := rfl
        rw [he, hb0] at this
        exact Prod.ext rfl this
      have hks : ndS (atX s y) = .nil := by
        unfold atX atomR
        split
        · rfl
        · split <;> rfl
      have hka : ndA (atX s y) = (y : Int) := by
        unfold atE at he
        unfold atX
        unfold atomR at he ⊢
        split at he
        · rename_i h; rw [if_pos h]; rfl
        · rename_i h
          split at he
          · rename_i h'; rw [if_neg h, if_pos h']; rfl
          · exact absurd he n4
      refine Q.seq fun K9 hK9 => ?_
      refine Q.block ?_
      refine Q.runSeq (SPd false true n ih [(121, [(40, true)])] []) 100 121 hnt [0, 4, 5, 7, 38] (z := ⟨[(0, .ptr 0 0), (4, .ptr 1 0), (5, .ptr 2 0), (7, .ptr 3 0), (38, .bool true)], ⟨[⟨[.str s, .int .i64 (Int.ofNat y)], 87⟩, ⟨[.int .i64 (0 : Int), .int .i64 (0 : Int), .str ⟨#[]⟩, PV.nil], 25⟩, ⟨[.int .i64 (0 : Int), PV.nil], 64⟩, ⟨[.int .i64 (Int.ofNat y), PV.nil], 64⟩], []⟩⟩) (o := [(true, true), (decide (0 ≤ c ∧ c < 256), true), (letC c, true)]) (by kernel_rfl) (by ((repeat' (first | exact okO_nil | refine okN ?_ ?_)); all_goals first | assumption | rfl | exact same_of rfl | exact sameS_self _ | (simp only [decide_eq_true_eq, decide_eq_false_iff_not, Nat.ble_eq, Nat.beq_eq, beq_eq_false_iff_ne, beq_iff_eq, ne_eq] <;> omega))) ?_
      refine Q.cond (b := true) rfl (fun _ => ?_) (fun h => by cases h)
      refine Q.seq fun K hK => ?_
      refine SWP.runLQ (SPd false true n ih [] []) 100 121 hnt [4, 5] (l := List.replicate 3 { t := [(4, PV.ptr 1 0), (5, PV.ptr 2 0)], h := { bx := [{ cs := [PV.str s, PV.int IntKind.i64 (Int.ofNat (atA s (Int.toNat (Int.ofNat y))))], ty := 87 }, { cs := [PV.int IntKind.i64 (ndK (atX s (Int.toNat (↑y : Int)))), PV.int IntKind.i64 (ndN (atX s (Int.toNat (↑y : Int)))), PV.str (ndT (atX s (Int.toNat (↑y : Int)))), PV.nil], ty := 25 }, { cs := [PV.int IntKind.i64 (Int.ofNat y), PV.nil], ty := 64 }, { cs := [PV.int IntKind.i64 (Int.ofNat y), PV.nil], ty := 64 }], rw := [] } }) (o := [(decide (0 ≤ (↑y : Int) ∧ (↑y : Int) ≤ (↑(ByteArray.size s) : Int)), true), (decide (atE s (Int.toNat (↑y : Int)) = 0), true), (Nat.ble (ByteArray.size s) 1099511627776, true), (decide (0 ≤ (↑y : Int) ∧ (↑y : Int) ≤ (↑(ByteArray.size s) : Int)), true), (decide (atE s (Int.toNat (↑y : Int)) = 0), true), (Nat.ble (ByteArray.size s) 1099511627776, true)]) (by kernel_rfl) (by ((repeat' (first | exact okO_nil | refine okN ?_ ?_)); all_goals first | assumption | rfl | exact same_of rfl | exact sameS_self _ | (simp only [decide_eq_true_eq, decide_eq_false_iff_not, Nat.ble_eq, Nat.beq_eq, beq_eq_false_iff_ne, beq_iff_eq, ne_eq] <;> omega))) (fun st hst => hK st (.norm [4, 5] ?_))
      rw [List.eq_of_mem_replicate hst]
      exact .ret (fin _ _ _ (atA s y) _ _ rfl rfl rfl rfl rfl ⟨atX s y, eq2, by rw [← ndJ_eq]; unfold ndJ; rw [hks]; rfl, by rw [← ndP_eq]; unfold ndP; rw [hks, hka]; rfl⟩)
    · have d3 : decide (atE s (Int.toNat (y : Int)) = 0) = false := by rw [Int.toNat_natCast]; exact decide_eq_false he
      obtain ⟨_, k1, k2⟩ := atQ_none he
      refine Q.seq fun K9 hK9 => ?_
      refine Q.block ?_
      refine Q.runSeq (SPd false true n ih [(121, [(40, true)])] []) 100 121 hnt [0, 4, 5, 7, 38] (z := ⟨[(0, .ptr 0 0), (4, .ptr 1 0), (5, .ptr 2 0), (7, .ptr 3 0), (38, .bool true)], ⟨[⟨[.str s, .int .i64 (Int.ofNat y)], 87⟩, ⟨[.int .i64 (0 : Int), .int .i64 (0 : Int), .str ⟨#[]⟩, PV.nil], 25⟩, ⟨[.int .i64 (0 : Int), PV.nil], 64⟩, ⟨[.int .i64 (Int.ofNat y), PV.nil], 64⟩], []⟩⟩) (o := [(true, true), (decide (0 ≤ c ∧ c < 256), true), (letC c, true)]) (by kernel_rfl) (by ((repeat' (first | exact okO_nil | refine okN ?_ ?_)); all_goals first | assumption | rfl | exact same_of rfl | exact sameS_self _ | (simp only [decide_eq_true_eq, decide_eq_false_iff_not, Nat.ble_eq, Nat.beq_eq, beq_eq_false_iff_ne, beq_iff_eq, ne_eq] <;> omega))) ?_
      refine Q.cond (b := true) rfl (fun _ => ?_) (fun h => by cases h)
      refine Q.seq fun K hK => ?_
      refine SWP.runXQ (SPd true true n ih [] []) 100 121 hnt hp.q (l := List.replicate 2 { t := [(0, PV.iface 121 (PV.agg [PV.int IntKind.i64 (Int.ofNat y), PV.int IntKind.i64 (4 : Int)]))], h := { bx := [{ cs := [PV.str s, PV.int IntKind.i64 (Int.ofNat y)], ty := 87 }, { cs := [PV.int IntKind.i64 (0 : Int), PV.int IntKind.i64 (0 : Int), PV.str { data := #[] }, PV.nil], ty := 25 }, { cs := [PV.int IntKind.i64 (0 : Int), PV.nil], ty := 64 }, { cs := [PV.int IntKind.i64 (Int.ofNat y), PV.nil], ty := 64 }], rw := [] } }) (o := [(decide (0 ≤ (↑y : Int) ∧ (↑y : Int) ≤ (↑(ByteArray.size s) : Int)), true), (decide (atE s (Int.toNat (↑y : Int)) = 0), false), (Nat.ble (ByteArray.size s) 1099511627776, true), (decide (0 ≤ (↑y : Int) ∧ (↑y : Int) ≤ (↑(ByteArray.size s) : Int)), true), (decide (atE s (Int.toNat (↑y : Int)) = 0), false), (Nat.ble (ByteArray.size s) 1099511627776, true)]) (by kernel_rfl) (by ((repeat' (first | exact okO_nil | refine okN ?_ ?_)); all_goals first | assumption | rfl | exact same_of rfl | exact sameS_self _ | (simp only [decide_eq_true_eq, decide_eq_false_iff_not, Nat.ble_eq, Nat.beq_eq, beq_eq_false_iff_ne, beq_iff_eq, ne_eq] <;> omega))) ?_
      intro st hst x h e
      rw [List.eq_of_mem_replicate hst] at e
      cases e
      exact pan _ y 4 _ _ rfl (by decide) (by unfold rdE; rw [eq]; exact k1) (by unfold rdF; rw [eq]; exact k2)
  | false =>
  have nl : ¬ letC c = true := by rw [e40l]; decide
  refine Q.seq fun K9 hK9 => ?_
  refine Q.block ?_
  refine Q.runSeq (SPd false true n ih [(121, [(40, false)])] []) 100 121 hnt [0, 1, 4, 5, 6, 7, 38] (z := ⟨[(0, .ptr 0 0), (1, .int .i64 w), (4, .ptr 1 0), (5, .ptr 2 0), (6, PV.int IntKind.u8 c), (7, .ptr 3 0), (38, .bool false)], ⟨[⟨[.str s, .int .i64 (Int.ofNat y)], 87⟩, ⟨[.int .i64 (0 : Int), .int .i64 (0 : Int), .str ⟨#[]⟩, PV.nil], 25⟩, ⟨[.int .i64 (0 : Int), PV.nil], 64⟩, ⟨[.int .i64 (Int.ofNat y), PV.nil], 64⟩], []⟩⟩) (o := [(true, true), (decide (0 ≤ c ∧ c < 256), true), (letC c, false)]) (by kernel_rfl) (by ((repeat' (first | exact okO_nil | refine okN ?_ ?_)); all_goals first | assumption | rfl | exact same_of rfl | exact sameS_self _ | (simp only [decide_eq_true_eq, decide_eq_false_iff_not, Nat.ble_eq, Nat.beq_eq, beq_eq_false_iff_ne, beq_iff_eq, ne_eq] <;> omega))) ?_
  refine Q.cond (b := false) rfl (fun h => by cases h) (fun _ => ?_)
  by_cases h40 : c = 40
  · -- a list
    have e46 := beqT h40
    have h39 : ¬ c = 39 := by omega
    rw [if_neg (fun g => h39 g.1), if_neg nl, if_neg h39] at eq
    refine Q.runSeq (SPd false true n ih [(121, [(46, true)])] []) 100 121 hnt [0, 1, 4, 5, 6, 7, 44] (z := ⟨[(0, .ptr 0 0), (1, .int .i64 w), (4, .ptr 1 0), (5, .ptr 2 0), (6, PV.int IntKind.u8 c), (7, .ptr 3 0), (44, .bool true)], ⟨[⟨[.str s, .int .i64 (Int.ofNat y)], 87⟩, ⟨[.int .i64 (0 : Int), .int .i64 (0 : Int), .str ⟨#[]⟩, PV.nil], 25⟩, ⟨[.int .i64 (0 : Int), PV.nil], 64⟩, ⟨[.int .i64 (Int.ofNat y), PV.nil], 64⟩], []⟩⟩) (o := [(c == (40 : Int), true)]) (by kernel_rfl) (by ((repeat' (first | exact okO_nil | refine okN ?_ ?_)); all_goals first | assumption | rfl | exact same_of rfl | exact sameS_self _ | (simp only [decide_eq_true_eq, decide_eq_false_iff_not, Nat.ble_eq, Nat.beq_eq, beq_eq_false_iff_ne, beq_iff_eq, ne_eq] <;> omega))) ?_
    refine Q.cond (b := true) rfl (fun _ => ?_) (fun h => by cases h)
    refine Q.runSeq (SPd false true n ih [] []) 100 121 hnt [0, 1, 4, 5, 7] (z := ⟨[(0, .ptr 0 0), (1, .int .i64 w), (4, .ptr 1 0), (5, .ptr 2 0), (7, .ptr 3 0)], ⟨[⟨[.str s, .int .i64 (IntKind.wrap IntKind.i64 (Int.ofNat (y + 1)))], 87⟩, ⟨[.int .i64 (0 : Int), .int .i64 (0 : Int), .str ⟨#[]⟩, PV.nil], 25⟩, ⟨[.int .i64 (0 : Int), PV.nil], 64⟩, ⟨[.int .i64 (Int.ofNat y), PV.nil], 64⟩], []⟩⟩) (o := []) (by kernel_rfl) (by ((repeat' (first | exact okO_nil | refine okN ?_ ?_)); all_goals first | assumption | rfl | exact same_of rfl | exact sameS_self _ | (simp only [decide_eq_true_eq, decide_eq_false_iff_not, Nat.ble_eq, Nat.beq_eq, beq_eq_false_iff_ne, beq_iff_eq, ne_eq] <;> omega))) ?_
    rw [wy]
    obtain ⟨x0, hx0⟩ : ∃ x, x = y + 1 := ⟨_, rfl⟩
    show SWP G0 C _ _ ⟨[(0, .ptr 0 0), (1, .int .i64 w), (4, .ptr 1 0), (5, .ptr 2 0), (7, .ptr 3 0)], ⟨[rP s (y + 1), dZ, pZ, pB y .nil], []⟩⟩
    rw [← hx0] at eq ⊢
    have hx02 : x0 ≤ s.size := by omega
    refine Q.runSeq (SPd false true n ih [] []) 100 121 hnt [0, 1, 4, 5, 7, 9] (z := ⟨[(0, .ptr 0 0), (1, .int .i64 w), (4, .ptr 1 0), (5, .ptr 2 0), (7, .ptr 3 0), (9, PV.nil)], ⟨[⟨[.str s, .int .i64 (Int.ofNat x0)], 87⟩, ⟨[.int .i64 (0 : Int), .int .i64 (0 : Int), .str ⟨#[]⟩, PV.nil], 25⟩, ⟨[.int .i64 (0 : Int), PV.nil], 64⟩, ⟨[.int .i64 (Int.ofNat y), PV.nil], 64⟩], []⟩⟩) (o := []) (by kernel_rfl) (by ((repeat' (first | exact okO_nil | refine okN ?_ ?_)); all_goals first | assumption | rfl | exact same_of rfl | exact sameS_self _ | (simp only [decide_eq_true_eq, decide_eq_false_iff_not, Nat.ble_eq, Nat.beq_eq, beq_eq_false_iff_ne, beq_iff_eq, ne_eq] <;> omega))) ?_
    refine SWP.adoptS 9 25 4 rfl ?_
    refine SWP.adoptB 3 1 64 2 rfl rfl ?_
    refine SWP.norm [0, 1, 4, 5, 7, 9] ?_
    have hst := rdD_steps s n
    refine Q.seq fun K hK => ?_
    refine Q.block ?_
    let T (x : Nat) (l : Nds) : AS := ⟨[(0, .ptr 0 0), (1, .int .i64 w), (4, .ptr 1 0), (5, .ptr 2 0), (7, .ptr 3 0), (9, .own 0 l.len)], ⟨[rP s x, dZ, pZ, pB y (.own 1 l.len)], [some (jR l.dat.cells l.len), some (pR l.pl l.len)]⟩⟩
    refine Q.loopH (σ := { x : Nat × Nds × Nat // x.1 ≤ s.size ∧ s.size + 1 - x.1 ≤ x.2.2 ∧ x.2.1.len + x.2.2 ≤ s.size + 1 ∧ rdL (rdD s n) s x.2.2 ⟨skp s x.1, 0, 0⟩ x.2.1 = rdL (rdD s n) s (s.size + 1) ⟨skp s x0, 0, 0⟩ .nil }) [0, 1, 4, 5, 7, 9] 4 (by rw [hnb]; exact Nat.le_of_ble_eq_true rfl) (fun x => T x.1.1 x.1.2.1) (fun x => x.1.2.2) ⟨(x0, .nil, s.size + 1), hx02, Nat.sub_le _ _, by simp [Nds.len], rfl⟩ (fun x => ⟨rfl, rfl, rfl⟩) ⟨[], rfl⟩ fun ⟨(x, l, k), hx, hk, hlen, hrd⟩ => ?_
    have hx : x ≤ s.size := hx
    have hk : s.size + 1 - x ≤ k := hk
    have hlen : l.len + k ≤ s.size + 1 := hlen
    have hrd : rdL (rdD s n) s k ⟨skp s x, 0, 0⟩ l = rdL (rdD s n) s (s.size + 1) ⟨skp s x0, 0, 0⟩ .nil := hrd
    rw [← hrd] at eq
    show SWP G0 C _ _ ⟨[(0, .ptr 0 0), (1, .int .i64 w), (4, .ptr 1 0), (5, .ptr 2 0), (7, .ptr 3 0), (9, .own 0 l.len)], ⟨[rP s x, dZ, pZ, pB y (.own 1 l.len)], [some (jR l.dat.cells l.len), some (pR l.pl l.len)]⟩⟩
    obtain ⟨m, hm⟩ : ∃ m, m = l.len := ⟨_, rfl⟩
    obtain ⟨rc, hrc⟩ : ∃ rc, rc = l.dat.cells := ⟨_, rfl⟩
    obtain ⟨pc, hpc⟩ : ∃ rc, rc = l.pl := ⟨_, rfl⟩
    refine swp_st (st' := ⟨[(0, .ptr 0 0), (1, .int .i64 w), (4, .ptr 1 0), (5, .ptr 2 0), (7, .ptr 3 0), (9, .own 0 m)], ⟨[rP s x, dZ, pZ, pB y (.own 1 m)], [some (jR rc m), some (pR pc m)]⟩⟩) (by rw [hm, hrc, hpc]) ?_
    rw [← hm] at hlen
    have dx : decide (0 ≤ (x : Int) ∧ (x : Int) ≤ (s.size : Int)) = true := by rw [decide_eq_true_eq]; omega
    obtain ⟨k, rfl⟩ : ∃ j, k = j + 1 := ⟨k - 1, by omega⟩
    have hz2 := skp_le s x hx
    have hzz := skp_skp s x
    have hge := skp_ge s x
    refine Q.seq fun K2 hK2 => ?_
    obtain ⟨z, hz⟩ : ∃ z, z = skp s x := ⟨_, rfl⟩
    have hnz : nxt s x = if z < s.size then bt s (z : Int) else 0 := by rw [nxt, hz]
    have g0 := goes_at0 s z
    rw [← hz] at hz2 hzz hge eq hrd
    by_cases hgo : goes s ⟨z, 0, 0⟩ = true
    · have h41 : (!nxt s x == (41 : Int)) = true := by
        rw [hgo] at g0
        rw [hnz]
        rcases Nat.lt_or_ge z s.size with h | h
        · rw [if_pos h]
          rw [decide_eq_true h, Bool.true_and] at g0
          exact g0.symm
        · rw [if_neg (by omega)]; rfl
      have h41 : (!(if skp s (Int.toNat (x : Int)) < ByteArray.size s then bt s (Int.ofNat (skp s (Int.toNat (Int.ofNat x)))) else (0 : Int)) == (41 : Int)) = true := h41
      refine SWP.runQ (SPd false true n ih [(121, [(56, true)])] []) 100 121 hnt [0, 1, 4, 5, 7, 9] (e := .normal) (z := ⟨[(0, .ptr 0 0), (1, .int .i64 w), (4, .ptr 1 0), (5, .ptr 2 0), (7, .ptr 3 0), (9, .own 0 m)], ⟨[⟨[.str s, .int .i64 (Int.ofNat (skp s (Int.toNat (Int.ofNat x))))], 87⟩, ⟨[.int .i64 (0 : Int), .int .i64 (0 : Int), .str ⟨#[]⟩, PV.nil], 25⟩, ⟨[.int .i64 (0 : Int), PV.nil], 64⟩, ⟨[.int .i64 (Int.ofNat y), .own 1 m], 64⟩], [some ⟨rc, m, 25, 4⟩, some ⟨pc, m, 64, 2⟩]⟩⟩) (o := [(decide (0 ≤ (↑x : Int) ∧ (↑x : Int) ≤ (↑(ByteArray.size s) : Int)), true), (Nat.ble (ByteArray.size s) 1099511627776, true), (!(if skp s (Int.toNat (↑x : Int)) < ByteArray.size s then bt s (Int.ofNat (skp s (Int.toNat (Int.ofNat x)))) else (0 : Int)) == (41 : Int), true), (true, true)]) (by kernel_rfl) (by ((repeat' (first | exact okO_nil | refine okN ?_ ?_)); all_goals first | assumption | rfl | exact same_of rfl | exact sameS_self _ | (simp only [decide_eq_true_eq, decide_eq_false_iff_not, Nat.ble_eq, Nat.beq_eq, beq_eq_false_iff_ne, beq_iff_eq, ne_eq] <;> omega))) (fun st hst' => hK2 st (.norm [0, 1, 4, 5, 7, 9] ?_))
      rw [hst']
      refine swp_st (st' := ⟨[(0, .ptr 0 0), (1, .int .i64 w), (4, .ptr 1 0), (5, .ptr 2 0), (7, .ptr 3 0), (9, .own 0 m)], ⟨[rP s z, dZ, pZ, pB y (.own 1 m)], [some (jR rc m), some (pR pc m)]⟩⟩) (by rw [hz]; rfl) ?_
      clear hst' hK2
      refine Q.block ?_
      have hqx : qX s n z = rdX s n z := by unfold qX; rw [hzz]
      have hqa : qA s n z = rdA s n z := by unfold qA; rw [hzz]
      have hqe : qE s n z = rdE s n z := by unfold qE; rw [hzz]
      have hqf : qF s n z = rdF s n z := by unfold qF; rw [hzz]
      have dz : decide (0 ≤ (z : Int) ∧ (z : Int) ≤ (s.size : Int)) = true := by rw [decide_eq_true_eq]; omega
      by_cases he : rdE s n z = 0
      · have de : decide (qE s n (Int.toNat (z : Int)) = 0) = true := by rw [Int.toNat_natCast, hqe]; exact decide_eq_true he
        refine Q.runSeq (SPd false true n ih [] []) 100 121 hnt [0, 1, 4, 5, 7, 9, 10, 11] (z := ⟨[(0, .ptr 0 0), (1, .int .i64 w), (4, .ptr 1 0), (5, .ptr 2 0), (7, .ptr 3 0), (9, .own 0 m), (10, .ptr 4 0), (11, .ptr 5 0)], ⟨[rP s (qA s n z), dZ, pZ, pB y (.own 1 m), ⟨ndJ (qX s n z), 25⟩, ⟨ndP (qX s n z), 64⟩], [some (jR rc m), some (pR pc m)]⟩⟩) (o := [(decide (0 ≤ (↑z : Int) ∧ (↑z : Int) ≤ (↑(ByteArray.size s) : Int)), true), (decide (IntKind.wrap IntKind.i64 (w + 1) = 1000 - (↑n : Int)), true), (decide (qE s n (Int.toNat (↑z : Int)) = 0), true), (Nat.ble (ByteArray.size s) 1099511627776, true)]) (by kernel_rfl) (by ((repeat' (first | exact okO_nil | refine okN ?_ ?_)); all_goals first | assumption | rfl | exact same_of rfl | exact sameS_self _ | (simp only [decide_eq_true_eq, decide_eq_false_iff_not, Nat.ble_eq, Nat.beq_eq, beq_eq_false_iff_ne, beq_iff_eq, ne_eq] <;> omega))) ?_
        obtain ⟨X, hX⟩ : ∃ X, X = qX s n z := ⟨_, rfl⟩
        obtain ⟨p, hp'⟩ : ∃ X, X = qA s n z := ⟨_, rfl⟩
        obtain ⟨xp, hxp⟩ : ∃ z, z = (ndS X).pl := ⟨_, rfl⟩
        refine swp_st (st' := ⟨[(0, .ptr 0 0), (1, .int .i64 w), (4, .ptr 1 0), (5, .ptr 2 0), (7, .ptr 3 0), (9, .own 0 m), (10, .ptr 4 0), (11, .ptr 5 0)], ⟨[rP s p, dZ, pZ, pB y (.own 1 m), ⟨ndJ X, 25⟩, ⟨[.int .i64 (ndA X), .slice (Nds.len (ndS X)) xp], 64⟩], [some (jR rc m), some (pR pc m)]⟩⟩) (by rw [hxp, hX, hp']; rfl) ?_
        rw [hqx] at hX
        rw [hqa] at hp'
        have hs2 := hst z hz2
        have g1 : (rdD s n z).2 = ⟨rdA s n z, rdE s n z, rdF s n z⟩ := rfl
        have g2 : (rdD s n z).1 = rdX s n z := rfl
        rw [g1] at hs2
        have hin := hs2.1.ok he
        have hadv := hs2.2 he
        have hin1 : rdA s n z ≤ s.size := hin.1
        have hb0 : rdF s n z = 0 := hin.2
        have hadv : z < rdA s n z := hadv
        rw [rdL, if_pos hgo, g1, g2, he, hb0, ← hX, ← hp'] at hrd
        rw [← hp'] at hin1 hadv
        have g3 : m + 1 = (l.snoc X).len := by rw [Nds.snoc_len, hm]
        have g4 : rc ++ ndJ X = (l.snoc X).dat.cells := by rw [Nds.snoc_dc, hrc, ndJ_eq]
        have g5 : pc ++ ndP X = (l.snoc X).pl := by rw [Nds.snoc_pl, hpc, ndP_eq]
        have m1 : Nat.ble ((m + 1) * 4) 140737488355328 = true := by rw [Nat.ble_eq]; omega
        have m2 : Nat.ble ((m + 1) * 2) 140737488355328 = true := by rw [Nat.ble_eq]; omega
        have g5' : pc ++ [.int .i64 (ndA X), .slice (Nds.len (ndS X)) xp] = (l.snoc X).pl := by rw [hxp]; exact g5
        refine SWP.runLQ (SPd false true n ih [(121, [(67, true), (72, true)])] []) 100 121 hnt [0, 1, 4, 5, 7, 9] (l := List.replicate 71 { t := [(0, PV.ptr 0 0), (1, PV.int IntKind.i64 w), (4, PV.ptr 1 0), (5, PV.ptr 2 0), (7, PV.ptr 3 0), (9, PV.own 0 (m + 1))], h := { bx := [{ cs := [PV.str s, PV.int IntKind.i64 (Int.ofNat p)], ty := 87 }, { cs := [PV.int IntKind.i64 (0 : Int), PV.int IntKind.i64 (0 : Int), PV.str { data := #[] }, PV.nil], ty := 25 }, { cs := [PV.int IntKind.i64 (0 : Int), PV.nil], ty := 64 }, { cs := [PV.int IntKind.i64 (Int.ofNat y), PV.own 1 (m + 1)], ty := 64 }, { cs := [PV.int IntKind.i64 (ndK X), PV.int IntKind.i64 (ndN X), PV.str (ndT X), PV.slice (Dats.len (Nds.dat (ndS X))) (Dats.cells (Nds.dat (ndS X)))], ty := 25 }, { cs := [PV.int IntKind.i64 (ndA X), PV.slice (Nds.len (ndS X)) xp], ty := 64 }], rw := [some { cs := rc ++ [PV.int IntKind.i64 (ndK X), PV.int IntKind.i64 (ndN X), PV.str (ndT X), PV.slice (Dats.len (Nds.dat (ndS X))) (Dats.cells (Nds.dat (ndS X)))], n := m + 1, ty := 25, sz := 4 }, some { cs := pc ++ [PV.int IntKind.i64 (ndA X), PV.slice (Nds.len (ndS X)) xp], n := m + 1, ty := 64, sz := 2 }] } }) (o := [(true, true), (Nat.ble ((m + 1) * 56) 140737488355328, true), (Nat.ble (m + 1) 9223372036854775807, true), (true, true), (Nat.ble ((m + 1) * 32) 140737488355328, true), (Nat.ble (m + 1) 9223372036854775807, true), (true, true), (Nat.ble ((m + 1) * 56) 140737488355328, true), (Nat.ble (m + 1) 9223372036854775807, true), (true, true), (Nat.ble ((m + 1) * 32) 140737488355328, true), (Nat.ble (m + 1) 9223372036854775807, true), (true, true), (Nat.ble ((m + 1) * 56) 140737488355328, true), (Nat.ble (m + 1) 9223372036854775807, true), (true, true), (Nat.ble ((m + 1) * 32) 140737488355328, true), (Nat.ble (m + 1) 9223372036854775807, true), (true, true), (Nat.ble ((m + 1) * 56) 140737488355328, true), (Nat.ble (m + 1) 9223372036854775807, true), (true, true), (Nat.ble ((m + 1) * 32) 140737488355328, true), (Nat.ble (m + 1) 9223372036854775807, true), (true, true), (Nat.ble ((m + 1) * 56) 140737488355328, true), (Nat.ble (m + 1) 9223372036854775807, true), (true, true), (Nat.ble ((m + 1) * 32) 140737488355328, true), (Nat.ble (m + 1) 9223372036854775807, true), (true, true), (Nat.ble ((m + 1) * 56) 140737488355328, true), (Nat.ble (m + 1) 9223372036854775807, true), (true, true), (Nat.ble ((m + 1) * 32) 140737488355328, true), (Nat.ble (m + 1) 9223372036854775807, true), (true, true), (Nat.ble ((m + 1) * 56) 140737488355328, true), (Nat.ble (m + 1) 9223372036854775807, true), (true, true), (Nat.ble ((m + 1) * 32) 140737488355328, true), (Nat.ble (m + 1) 9223372036854775807, true), (true, true), (Nat.ble ((m + 1) * 56) 140737488355328, true), (Nat.ble (m + 1) 9223372036854775807, true), (true, true), (Nat.ble ((m + 1) * 32) 140737488355328, true), (Nat.ble (m + 1) 9223372036854775807, true), (true, true), (Nat.ble ((m + 1) * 56) 140737488355328, true), (Nat.ble (m + 1) 9223372036854775807, true), (true, true), (Nat.ble ((m + 1) * 32) 140737488355328, true), (Nat.ble (m + 1) 9223372036854775807, true), (true, true), (Nat.ble ((m + 1) * 56) 140737488355328, true), (Nat.ble (m + 1) 9223372036854775807, true), (true, true), (Nat.ble ((m + 1) * 32) 140737488355328, true), (Nat.ble (m + 1) 9223372036854775807, true), (true, true), (Nat.ble ((m + 1) * 56) 140737488355328, true), (Nat.ble (m + 1) 9223372036854775807, true), (true, true), (Nat.ble ((m + 1) * 32) 140737488355328, true), (Nat.ble (m + 1) 9223372036854775807, true), (true, true), (Nat.ble ((m + 1) * 56) 140737488355328, true), (Nat.ble (m + 1) 9223372036854775807, true), (true, true), (Nat.ble ((m + 1) * 32) 140737488355328, true), (Nat.ble (m + 1) 9223372036854775807, true), (true, true), (Nat.ble ((m + 1) * 56) 140737488355328, true), (Nat.ble (m + 1) 9223372036854775807, true), (true, true), (Nat.ble ((m + 1) * 32) 140737488355328, true), (Nat.ble (m + 1) 9223372036854775807, true), (true, true), (Nat.ble ((m + 1) * 56) 140737488355328, true), (Nat.ble (m + 1) 9223372036854775807, true), (true, true), (Nat.ble ((m + 1) * 32) 140737488355328, true), (Nat.ble (m + 1) 9223372036854775807, true), (true, true), (Nat.ble ((m + 1) * 56) 140737488355328, true), (Nat.ble (m + 1) 9223372036854775807, true), (true, true), (Nat.ble ((m + 1) * 32) 140737488355328, true), (Nat.ble (m + 1) 9223372036854775807, true), (true, true), (Nat.ble ((m + 1) * 56) 140737488355328, true), (Nat.ble (m + 1) 9223372036854775807, true), (true, true), (Nat.ble ((m + 1) * 32) 140737488355328, true), (Nat.ble (m + 1) 9223372036854775807, true), (true, true), (Nat.ble ((m + 1) * 56) 140737488355328, true), (Nat.ble (m + 1) 9223372036854775807, true), (true, true), (Nat.ble ((m + 1) * 32) 140737488355328, true), (Nat.ble (m + 1) 9223372036854775807, true), (true, true), (Nat.ble ((m + 1) * 56) 140737488355328, true), (Nat.ble (m + 1) 9223372036854775807, true), (true, true), (Nat.ble ((m + 1) * 32) 140737488355328, true), (Nat.ble (m + 1) 9223372036854775807, true), (true, true), (Nat.ble ((m + 1) * 56) 140737488355328, true), (Nat.ble (m + 1) 9223372036854775807, true), (true, true), (Nat.ble ((m + 1) * 32) 140737488355328, true), (Nat.ble (m + 1) 9223372036854775807, true), (true, true), (Nat.ble ((m + 1) * 56) 140737488355328, true), (Nat.ble (m + 1) 9223372036854775807, true), (true, true), (Nat.ble ((m + 1) * 32) 140737488355328, true), (Nat.ble (m + 1) 9223372036854775807, true), (true, true), (Nat.ble ((m + 1) * 56) 140737488355328, true), (Nat.ble (m + 1) 9223372036854775807, true), (true, true), (Nat.ble ((m + 1) * 32) 140737488355328, true), (Nat.ble (m + 1) 9223372036854775807, true), (true, true), (Nat.ble ((m + 1) * 56) 140737488355328, true), (Nat.ble (m + 1) 9223372036854775807, true), (true, true), (Nat.ble ((m + 1) * 32) 140737488355328, true), (Nat.ble (m + 1) 9223372036854775807, true), (true, true), (Nat.ble ((m + 1) * 56) 140737488355328, true), (Nat.ble (m + 1) 9223372036854775807, true), (true, true), (Nat.ble ((m + 1) * 32) 140737488355328, true), (Nat.ble (m + 1) 9223372036854775807, true), (true, true), (Nat.ble ((m + 1) * 56) 140737488355328, true), (Nat.ble (m + 1) 9223372036854775807, true), (true, true), (Nat.ble ((m + 1) * 32) 140737488355328, true), (Nat.ble (m + 1) 9223372036854775807, true), (true, true), (Nat.ble ((m + 1) * 56) 140737488355328, true), (Nat.ble (m + 1) 9223372036854775807, true), (true, true), (Nat.ble ((m + 1) * 32) 140737488355328, true), (Nat.ble (m + 1) 9223372036854775807, true), (true, true), (Nat.ble ((m + 1) * 56) 140737488355328, true), (Nat.ble (m + 1) 9223372036854775807, true), (true, true), (Nat.ble ((m + 1) * 32) 140737488355328, true), (Nat.ble (m + 1) 9223372036854775807, true), (true, true), (Nat.ble ((m + 1) * 56) 140737488355328, true), (Nat.ble (m + 1) 9223372036854775807, true), (true, true), (Nat.ble ((m + 1) * 32) 140737488355328, true), (Nat.ble (m + 1) 9223372036854775807, true), (true, true), (Nat.ble ((m + 1) * 56) 140737488355328, true), (Nat.ble (m + 1) 9223372036854775807, true), (true, true), (Nat.ble ((m + 1) * 32) 140737488355328, true), (Nat.ble (m + 1) 9223372036854775807, true), (true, true), (Nat.ble ((m + 1) * 56) 140737488355328, true), (Nat.ble (m + 1) 9223372036854775807, true), (true, true), (Nat.ble ((m + 1) * 32) 140737488355328, true), (Nat.ble (m + 1) 9223372036854775807, true), (true, true), (Nat.ble ((m + 1) * 56) 140737488355328, true), (Nat.ble (m + 1) 9223372036854775807, true), (true, true), (Nat.ble ((m + 1) * 32) 140737488355328, true), (Nat.ble (m + 1) 9223372036854775807, true), (true, true), (Nat.ble ((m + 1) * 56) 140737488355328, true), (Nat.ble (m + 1) 9223372036854775807, true), (true, true), (Nat.ble ((m + 1) * 32) 140737488355328, true), (Nat.ble (m + 1) 9223372036854775807, true), (true, true), (Nat.ble ((m + 1) * 56) 140737488355328, true), (Nat.ble (m + 1) 9223372036854775807, true), (true, true), (Nat.ble ((m + 1) * 32) 140737488355328, true), (Nat.ble (m + 1) 9223372036854775807, true), (true, true), (Nat.ble ((m + 1) * 56) 140737488355328, true), (Nat.ble (m + 1) 9223372036854775807, true), (true, true), (Nat.ble ((m + 1) * 32) 140737488355328, true), (Nat.ble (m + 1) 9223372036854775807, true), (true, true), (Nat.ble ((m + 1) * 56) 140737488355328, true), (Nat.ble (m + 1) 9223372036854775807, true), (true, true), (Nat.ble ((m + 1) * 32) 140737488355328, true), (Nat.ble (m + 1) 9223372036854775807, true), (true, true), (Nat.ble ((m + 1) * 56) 140737488355328, true), (Nat.ble (m + 1) 9223372036854775807, true), (true, true), (Nat.ble ((m + 1) * 32) 140737488355328, true), (Nat.ble (m + 1) 9223372036854775807, true), (true, true), (Nat.ble ((m + 1) * 56) 140737488355328, true), (Nat.ble (m + 1) 9223372036854775807, true), (true, true), (Nat.ble ((m + 1) * 32) 140737488355328, true), (Nat.ble (m + 1) 9223372036854775807, true), (true, true), (Nat.ble ((m + 1) * 56) 140737488355328, true), (Nat.ble (m + 1) 9223372036854775807, true), (true, true), (Nat.ble ((m + 1) * 32) 140737488355328, true), (Nat.ble (m + 1) 9223372036854775807, true), (true, true), (Nat.ble ((m + 1) * 56) 140737488355328, true), (Nat.ble (m + 1) 9223372036854775807, true), (true, true), (Nat.ble ((m + 1) * 32) 140737488355328, true), (Nat.ble (m + 1) 9223372036854775807, true), (true, true), (Nat.ble ((m + 1) * 56) 140737488355328, true), (Nat.ble (m + 1) 9223372036854775807, true), (true, true), (Nat.ble ((m + 1) * 32) 140737488355328, true), (Nat.ble (m + 1) 9223372036854775807, true), (true, true), (Nat.ble ((m + 1) * 56) 140737488355328, true), (Nat.ble (m + 1) 9223372036854775807, true), (true, true), (Nat.ble ((m + 1) * 32) 140737488355328, true), (Nat.ble (m + 1) 9223372036854775807, true), (true, true), (Nat.ble ((m + 1) * 56) 140737488355328, true), (Nat.ble (m + 1) 9223372036854775807, true), (true, true), (Nat.ble ((m + 1) * 32) 140737488355328, true), (Nat.ble (m + 1) 9223372036854775807, true), (true, true), (Nat.ble ((m + 1) * 56) 140737488355328, true), (Nat.ble (m + 1) 9223372036854775807, true), (true, true), (Nat.ble ((m + 1) * 32) 140737488355328, true), (Nat.ble (m + 1) 9223372036854775807, true), (true, true), (Nat.ble ((m + 1) * 56) 140737488355328, true), (Nat.ble (m + 1) 9223372036854775807, true), (true, true), (Nat.ble ((m + 1) * 32) 140737488355328, true), (Nat.ble (m + 1) 9223372036854775807, true), (true, true), (Nat.ble ((m + 1) * 56) 140737488355328, true), (Nat.ble (m + 1) 9223372036854775807, true), (true, true), (Nat.ble ((m + 1) * 32) 140737488355328, true), (Nat.ble (m + 1) 9223372036854775807, true), (true, true), (Nat.ble ((m + 1) * 56) 140737488355328, true), (Nat.ble (m + 1) 9223372036854775807, true), (true, true), (Nat.ble ((m + 1) * 32) 140737488355328, true), (Nat.ble (m + 1) 9223372036854775807, true), (true, true), (Nat.ble ((m + 1) * 56) 140737488355328, true), (Nat.ble (m + 1) 9223372036854775807, true), (true, true), (Nat.ble ((m + 1) * 32) 140737488355328, true), (Nat.ble (m + 1) 9223372036854775807, true), (true, true), (Nat.ble ((m + 1) * 56) 140737488355328, true), (Nat.ble (m + 1) 9223372036854775807, true), (true, true), (Nat.ble ((m + 1) * 32) 140737488355328, true), (Nat.ble (m + 1) 9223372036854775807, true), (true, true), (Nat.ble ((m + 1) * 56) 140737488355328, true), (Nat.ble (m + 1) 9223372036854775807, true), (true, true), (Nat.ble ((m + 1) * 32) 140737488355328, true), (Nat.ble (m + 1) 9223372036854775807, true), (true, true), (Nat.ble ((m + 1) * 56) 140737488355328, true), (Nat.ble (m + 1) 9223372036854775807, true), (true, true), (Nat.ble ((m + 1) * 32) 140737488355328, true), (Nat.ble (m + 1) 9223372036854775807, true), (true, true), (Nat.ble ((m + 1) * 56) 140737488355328, true), (Nat.ble (m + 1) 9223372036854775807, true), (true, true), (Nat.ble ((m + 1) * 32) 140737488355328, true), (Nat.ble (m + 1) 9223372036854775807, true), (true, true), (Nat.ble ((m + 1) * 56) 140737488355328, true), (Nat.ble (m + 1) 9223372036854775807, true), (true, true), (Nat.ble ((m + 1) * 32) 140737488355328, true), (Nat.ble (m + 1) 9223372036854775807, true), (true, true), (Nat.ble ((m + 1) * 56) 140737488355328, true), (Nat.ble (m + 1) 9223372036854775807, true), (true, true), (Nat.ble ((m + 1) * 32) 140737488355328, true), (Nat.ble (m + 1) 9223372036854775807, true), (true, true), (Nat.ble ((m + 1) * 56) 140737488355328, true), (Nat.ble (m + 1) 9223372036854775807, true), (true, true), (Nat.ble ((m + 1) * 32) 140737488355328, true), (Nat.ble (m + 1) 9223372036854775807, true), (true, true), (Nat.ble ((m + 1) * 56) 140737488355328, true), (Nat.ble (m + 1) 9223372036854775807, true), (true, true), (Nat.ble ((m + 1) * 32) 140737488355328, true), (Nat.ble (m + 1) 9223372036854775807, true), (true, true), (Nat.ble ((m + 1) * 56) 140737488355328, true), (Nat.ble (m + 1) 9223372036854775807, true), (true, true), (Nat.ble ((m + 1) * 32) 140737488355328, true), (Nat.ble (m + 1) 9223372036854775807, true), (true, true), (Nat.ble ((m + 1) * 56) 140737488355328, true), (Nat.ble (m + 1) 9223372036854775807, true), (true, true), (Nat.ble ((m + 1) * 32) 140737488355328, true), (Nat.ble (m + 1) 9223372036854775807, true), (true, true), (Nat.ble ((m + 1) * 56) 140737488355328, true), (Nat.ble (m + 1) 9223372036854775807, true), (true, true), (Nat.ble ((m + 1) * 32) 140737488355328, true), (Nat.ble (m + 1) 9223372036854775807, true), (true, true), (Nat.ble ((m + 1) * 56) 140737488355328, true), (Nat.ble (m + 1) 9223372036854775807, true), (true, true), (Nat.ble ((m + 1) * 32) 140737488355328, true), (Nat.ble (m + 1) 9223372036854775807, true), (true, true), (Nat.ble ((m + 1) * 56) 140737488355328, true), (Nat.ble (m + 1) 9223372036854775807, true), (true, true), (Nat.ble ((m + 1) * 32) 140737488355328, true), (Nat.ble (m + 1) 9223372036854775807, true), (true, true), (Nat.ble ((m + 1) * 56) 140737488355328, true), (Nat.ble (m + 1) 9223372036854775807, true), (true, true), (Nat.ble ((m + 1) * 32) 140737488355328, true), (Nat.ble (m + 1) 9223372036854775807, true), (true, true), (Nat.ble ((m + 1) * 56) 140737488355328, true), (Nat.ble (m + 1) 9223372036854775807, true), (true, true), (Nat.ble ((m + 1) * 32) 140737488355328, true), (Nat.ble (m + 1) 9223372036854775807, true), (true, true), (Nat.ble ((m + 1) * 56) 140737488355328, true), (Nat.ble (m + 1) 9223372036854775807, true), (true, true), (Nat.ble ((m + 1) * 32) 140737488355328, true), (Nat.ble (m + 1) 9223372036854775807, true), (true, true), (Nat.ble ((m + 1) * 56) 140737488355328, true), (Nat.ble (m + 1) 9223372036854775807, true), (true, true), (Nat.ble ((m + 1) * 32) 140737488355328, true), (Nat.ble (m + 1) 9223372036854775807, true), (true, true), (Nat.ble ((m + 1) * 56) 140737488355328, true), (Nat.ble (m + 1) 9223372036854775807, true), (true, true), (Nat.ble ((m + 1) * 32) 140737488355328, true), (Nat.ble (m + 1) 9223372036854775807, true), (true, true), (Nat.ble ((m + 1) * 56) 140737488355328, true), (Nat.ble (m + 1) 9223372036854775807, true), (true, true), (Nat.ble ((m + 1) * 32) 140737488355328, true), (Nat.ble (m + 1) 9223372036854775807, true), (true, true), (Nat.ble ((m + 1) * 56) 140737488355328, true), (Nat.ble (m + 1) 9223372036854775807, true), (true, true), (Nat.ble ((m + 1) * 32) 140737488355328, true), (Nat.ble (m + 1) 9223372036854775807, true), (true, true), (Nat.ble ((m + 1) * 56) 140737488355328, true), (Nat.ble (m + 1) 9223372036854775807, true), (true, true), (Nat.ble ((m + 1) * 32) 140737488355328, true), (Nat.ble (m + 1) 9223372036854775807, true), (true, true), (Nat.ble ((m + 1) * 56) 140737488355328, true), (Nat.ble (m + 1) 9223372036854775807, true), (true, true), (Nat.ble ((m + 1) * 32) 140737488355328, true), (Nat.ble (m + 1) 9223372036854775807, true), (true, true), (Nat.ble ((m + 1) * 56) 140737488355328, true), (Nat.ble (m + 1) 9223372036854775807, true), (true, true), (Nat.ble ((m + 1) * 32) 140737488355328, true), (Nat.ble (m + 1) 9223372036854775807, true), (true, true), (Nat.ble ((m + 1) * 56) 140737488355328, true), (Nat.ble (m + 1) 9223372036854775807, true), (true, true), (Nat.ble ((m + 1) * 32) 140737488355328, true), (Nat.ble (m + 1) 9223372036854775807, true), (true, true), (Nat.ble ((m + 1) * 56) 140737488355328, true), (Nat.ble (m + 1) 9223372036854775807, true), (true, true), (Nat.ble ((m + 1) * 32) 140737488355328, true), (Nat.ble (m + 1) 9223372036854775807, true)]) (by kernel_rfl) (by ((repeat' (first | exact okO_nil | refine okN ?_ ?_)); all_goals first | assumption | rfl | exact same_of rfl | exact sameS_self _ | (simp only [decide_eq_true_eq, decide_eq_false_iff_not, Nat.ble_eq, Nat.beq_eq, beq_eq_false_iff_ne, beq_iff_eq, ne_eq] <;> omega))) (fun st hst => ⟨⟨(p, l.snoc X, k), hin1, by show s.size + 1 - p ≤ k; omega, by show (l.snoc X).len + k ≤ _; rw [← g3]; omega, hrd⟩, Nat.lt_succ_self k, [⟨ndJ X, 25⟩, ⟨[.int .i64 (ndA X), .slice (Nds.len (ndS X)) xp], 64⟩], ?_⟩)
        rw [List.eq_of_mem_replicate hst]
        have e2 : (⟨[(0, .ptr 0 0), (1, .int .i64 w), (4, .ptr 1 0), (5, .ptr 2 0), (7, .ptr 3 0), (9, .own 0 (m + 1))], ⟨[rP s p, dZ, pZ, pB y (.own 1 (m + 1)), ⟨ndJ X, 25⟩, ⟨[.int .i64 (ndA X), .slice (Nds.len (ndS X)) xp], 64⟩], [some (jR (rc ++ ndJ X) (m + 1)), some (pR (pc ++ [.int .i64 (ndA X), .slice (Nds.len (ndS X)) xp]) (m + 1))]⟩⟩ : AS) = ⟨[(0, .ptr 0 0), (1, .int .i64 w), (4, .ptr 1 0), (5, .ptr 2 0), (7, .ptr 3 0), (9, .own 0 ((l.snoc X).len))], ⟨[rP s p, dZ, pZ, pB y (.own 1 ((l.snoc X).len)), ⟨ndJ X, 25⟩, ⟨[.int .i64 (ndA X), .slice (Nds.len (ndS X)) xp], 64⟩], [some (jR ((l.snoc X).dat.cells) ((l.snoc X).len)), some (pR ((l.snoc X).pl) ((l.snoc X).len))]⟩⟩ := by rw [g3, g4, g5']
        exact Eq.trans (b := (⟨[(0, .ptr 0 0), (1, .int .i64 w), (4, .ptr 1 0), (5, .ptr 2 0), (7, .ptr 3 0), (9, .own 0 (m + 1))], ⟨[rP s p, dZ, pZ, pB y (.own 1 (m + 1)), ⟨ndJ X, 25⟩, ⟨[.int .i64 (ndA X), .slice (Nds.len (ndS X)) xp], 64⟩], [some (jR (rc ++ ndJ X) (m + 1)), some (pR (pc ++ [.int .i64 (ndA X), .slice (Nds.len (ndS X)) xp]) (m + 1))]⟩⟩ : AS)) rfl (e2.trans rfl)
      · have de : decide (qE s n (Int.toNat (z : Int)) = 0) = false := by rw [Int.toNat_natCast, hqe]; exact decide_eq_false he
        refine Q.seq fun K3 hK3 => ?_
        obtain ⟨k1, k2⟩ := rdL_err (k := k) (l := l) hgo he
        exact SWP.runQ (SPd true true n ih [] []) 100 121 hnt [] (e := .panic (faultV (qF s n z) (qE s n z))) (z := ⟨[], ⟨[⟨[.str s, .int .i64 (rdF s n (skp s (Int.toNat (Int.ofNat z))))], 87⟩, ⟨[.int .i64 (0 : Int), .int .i64 (0 : Int), .str ⟨#[]⟩, PV.nil], 25⟩, ⟨[.int .i64 (0 : Int), PV.nil], 64⟩, ⟨[.int .i64 (Int.ofNat y), .own 1 m], 64⟩], [some ⟨rc, m, 25, 4⟩, some ⟨pc, m, 64, 2⟩]⟩⟩) (o := [(decide (0 ≤ (↑z : Int) ∧ (↑z : Int) ≤ (↑(ByteArray.size s) : Int)), true), (decide (IntKind.wrap IntKind.i64 (w + 1) = 1000 - (↑n : Int)), true), (decide (qE s n (Int.toNat (↑z : Int)) = 0), false), (Nat.ble (ByteArray.size s) 1099511627776, true)]) (by kernel_rfl) (by ((repeat' (first | exact okO_nil | refine okN ?_ ?_)); all_goals first | assumption | rfl | exact same_of rfl | exact sameS_self _ | (simp only [decide_eq_true_eq, decide_eq_false_iff_not, Nat.ble_eq, Nat.beq_eq, beq_eq_false_iff_ne, beq_iff_eq, ne_eq] <;> omega))) (fun st hst => pan st (qF s n z) (qE s n z) _ _ (congrArg AS.h hst) (by rw [hqe]; exact he) (by unfold rdE; rw [eq, hqe]; exact k1) (by unfold rdF; rw [eq, hqf]; exact k2))
    · have hgf : goes s ⟨z, 0, 0⟩ = false := by simpa using hgo
      rw [hgf] at g0
      have g0' : decide (z < s.size) = true ∧ (bt s (z : Int) == 41) = true := by
        rw [← Bool.and_eq_true]
        simpa using g0.symm
      have hzl : z < s.size := of_decide_eq_true g0'.1
      have h41 : (!nxt s x == (41 : Int)) = false := by rw [hnz, if_pos hzl, g0'.2]; rfl
      have h41 : (!(if skp s (Int.toNat (x : Int)) < ByteArray.size s then bt s (Int.ofNat (skp s (Int.toNat (Int.ofNat x)))) else (0 : Int)) == (41 : Int)) = false := h41
      refine SWP.runQ (SPd false true n ih [(121, [(56, false)])] []) 100 121 hnt [0, 1, 4, 5, 7, 9] (e := .exit 1) (z := ⟨[(0, .ptr 0 0), (1, .int .i64 w), (4, .ptr 1 0), (5, .ptr 2 0), (7, .ptr 3 0), (9, .own 0 m)], ⟨[⟨[.str s, .int .i64 (Int.ofNat (skp s (Int.toNat (Int.ofNat x))))], 87⟩, ⟨[.int .i64 (0 : Int), .int .i64 (0 : Int), .str ⟨#[]⟩, PV.nil], 25⟩, ⟨[.int .i64 (0 : Int), PV.nil], 64⟩, ⟨[.int .i64 (Int.ofNat y), .own 1 m], 64⟩], [some ⟨rc, m, 25, 4⟩, some ⟨pc, m, 64, 2⟩]⟩⟩) (o := [(decide (0 ≤ (↑x : Int) ∧ (↑x : Int) ≤ (↑(ByteArray.size s) : Int)), true), (Nat.ble (ByteArray.size s) 1099511627776, true), (!(if skp s (Int.toNat (↑x : Int)) < ByteArray.size s then bt s (Int.ofNat (skp s (Int.toNat (Int.ofNat x)))) else (0 : Int)) == (41 : Int), false), (false, false)]) (by kernel_rfl) (by ((repeat' (first | exact okO_nil | refine okN ?_ ?_)); all_goals first | assumption | rfl | exact same_of rfl | exact sameS_self _ | (simp only [decide_eq_true_eq, decide_eq_false_iff_not, Nat.ble_eq, Nat.beq_eq, beq_eq_false_iff_ne, beq_iff_eq, ne_eq] <;> omega))) (fun st hst' => hK st (.norm [0, 1, 4, 5, 7, 9] ?_))
      rw [hst']
      show SWP G0 C _ _ ⟨[(0, .ptr 0 0), (1, .int .i64 w), (4, .ptr 1 0), (5, .ptr 2 0), (7, .ptr 3 0), (9, .own 0 m)], ⟨[rP s (skp s x), dZ, pZ, pB y (.own 1 m)], [some (jR rc m), some (pR pc m)]⟩⟩
      rw [← hz]
      clear hst' hK hK2
      rw [rdL_stop hgf] at eq
      clear hx hk dx hge hnz h41 hrd hz
      obtain ⟨x, hx⟩ : ∃ x, x = z := ⟨_, rfl⟩
      rw [← hx] at eq hzl ⊢
      have wx : IntKind.wrap IntKind.i64 (Int.ofNat (x + 1)) = ((x + 1 : Nat) : Int) := wrapI (x + 1) (by omega)
      refine SWP.frz [0, 1] ?_
      refine Q.runSeq (SPd false true n ih [] []) 100 121 hnt [4, 5, 7, 9] (z := ⟨[(4, .ptr 1 0), (5, .ptr 2 0), (7, .ptr 3 0), (9, .slice m rc)], ⟨[⟨[.str s, .int .i64 (IntKind.wrap IntKind.i64 (Int.ofNat (x + 1)))], 87⟩, ⟨[.int .i64 (0 : Int), .int .i64 (0 : Int), .str ⟨#[]⟩, PV.nil], 25⟩, ⟨[.int .i64 (0 : Int), PV.nil], 64⟩, ⟨[.int .i64 (Int.ofNat y), .slice m pc], 64⟩], [none, none]⟩⟩) (o := []) (by kernel_rfl) (by ((repeat' (first | exact okO_nil | refine okN ?_ ?_)); all_goals first | assumption | rfl | exact same_of rfl | exact sameS_self _ | (simp only [decide_eq_true_eq, decide_eq_false_iff_not, Nat.ble_eq, Nat.beq_eq, beq_eq_false_iff_ne, beq_iff_eq, ne_eq] <;> omega))) ?_
      rw [wx]
      obtain ⟨x1, hx1⟩ : ∃ x1, x1 = x + 1 := ⟨_, rfl⟩
      show SWP G0 C _ _ ⟨[(4, .ptr 1 0), (5, .ptr 2 0), (7, .ptr 3 0), (9, .slice m rc)], ⟨[rP s (x + 1), dZ, pZ, pB y (.slice m pc)], [none, none]⟩⟩
      rw [← hx1]
      refine Q.seq fun K hK => ?_
      refine SWP.runLQ (SPd false true n ih [] []) 100 121 hnt [4, 5] (l := List.replicate 3 { t := [(4, PV.ptr 1 0), (5, PV.ptr 2 0)], h := { bx := [{ cs := [PV.str s, PV.int IntKind.i64 (Int.ofNat x1)], ty := 87 }, { cs := [PV.int IntKind.i64 (3 : Int), PV.int IntKind.i64 (0 : Int), PV.str { data := #[] }, PV.slice m rc], ty := 25 }, { cs := [PV.int IntKind.i64 (Int.ofNat y), PV.slice m pc], ty := 64 }, { cs := [PV.int IntKind.i64 (Int.ofNat y), PV.slice m pc], ty := 64 }], rw := [none, none] } }) (o := []) (by kernel_rfl) (by ((repeat' (first | exact okO_nil | refine okN ?_ ?_)); all_goals first | assumption | rfl | exact same_of rfl | exact sameS_self _ | (simp only [decide_eq_true_eq, decide_eq_false_iff_not, Nat.ble_eq, Nat.beq_eq, beq_eq_false_iff_ne, beq_iff_eq, ne_eq] <;> omega))) (fun st hst => hK st (.norm [4, 5] ?_))
      rw [List.eq_of_mem_replicate hst]
      exact .ret (fin _ _ _ x1 _ _ rfl rfl rfl rfl rfl ⟨.mk 3 0 ⟨#[]⟩ l y, by rw [eq, hx1], by
        rw [hm, hrc, ← Nds.dat_len]
        simp only [nzL, PV.nz, Dats.nz]
        rfl, by
        rw [hm, hpc]
        simp only [nzL, PV.nz, Nds.pl_nz]
        rfl⟩)
  · -- a quote
    have e46 := beqF h40
    have h39 : c = 39 := by
      by_cases h : c = 39
      · exact h
      · exact absurd ⟨h40, h, e40l⟩ hb
    have e86 := beqT h39
    refine Q.runSeq (SPd false true n ih [(121, [(46, false)])] []) 100 121 hnt [0, 1, 4, 5, 6, 7, 44] (z := ⟨[(0, .ptr 0 0), (1, .int .i64 w), (4, .ptr 1 0), (5, .ptr 2 0), (6, PV.int IntKind.u8 c), (7, .ptr 3 0), (44, .bool false)], ⟨[⟨[.str s, .int .i64 (Int.ofNat y)], 87⟩, ⟨[.int .i64 (0 : Int), .int .i64 (0 : Int), .str ⟨#[]⟩, PV.nil], 25⟩, ⟨[.int .i64 (0 : Int), PV.nil], 64⟩, ⟨[.int .i64 (Int.ofNat y), PV.nil], 64⟩], []⟩⟩) (o := [(c == (40 : Int), false)]) (by kernel_rfl) (by ((repeat' (first | exact okO_nil | refine okN ?_ ?_)); all_goals first | assumption | rfl | exact same_of rfl | exact sameS_self _ | (simp only [decide_eq_true_eq, decide_eq_false_iff_not, Nat.ble_eq, Nat.beq_eq, beq_eq_false_iff_ne, beq_iff_eq, ne_eq] <;> omega))) ?_
    refine Q.cond (b := false) rfl (fun h => by cases h) (fun _ => ?_)
    refine Q.runSeq (SPd false true n ih [(121, [(86, true)])] []) 100 121 hnt [0, 1, 4, 5, 6, 7, 84] (z := ⟨[(0, .ptr 0 0), (1, .int .i64 w), (4, .ptr 1 0), (5, .ptr 2 0), (6, PV.int IntKind.u8 c), (7, .ptr 3 0), (84, .bool true)], ⟨[⟨[.str s, .int .i64 (Int.ofNat y)], 87⟩, ⟨[.int .i64 (0 : Int), .int .i64 (0 : Int), .str ⟨#[]⟩, PV.nil], 25⟩, ⟨[.int .i64 (0 : Int), PV.nil], 64⟩, ⟨[.int .i64 (Int.ofNat y), PV.nil], 64⟩], []⟩⟩) (o := [(c == (39 : Int), true)]) (by kernel_rfl) (by ((repeat' (first | exact okO_nil | refine okN ?_ ?_)); all_goals first | assumption | rfl | exact same_of rfl | exact sameS_self _ | (simp only [decide_eq_true_eq, decide_eq_false_iff_not, Nat.ble_eq, Nat.beq_eq, beq_eq_false_iff_ne, beq_iff_eq, ne_eq] <;> omega))) ?_
    refine Q.cond (b := true) rfl (fun _ => ?_) (fun h => by cases h)
    by_cases hn0 : n = 0
    · have e89 : decide (1000 ≤ IntKind.wrap IntKind.i64 (w + 1)) = true := by rw [w2, decide_eq_true_eq]; omega
      rw [if_pos ⟨h39, hn0⟩] at eq
      refine Q.seq fun K hK => ?_
      exact SWP.runQ (SPd true true n ih [(121, [(89, true)])] []) 100 121 hnt [] (e := .panic (faultV y 3)) (z := ⟨[], ⟨[⟨[.str s, .int .i64 (Int.ofNat y)], 87⟩, ⟨[.int .i64 (0 : Int), .int .i64 (0 : Int), .str ⟨#[]⟩, PV.nil], 25⟩, ⟨[.int .i64 (0 : Int), PV.nil], 64⟩, ⟨[.int .i64 (Int.ofNat y), PV.nil], 64⟩], []⟩⟩) (o := [(decide (1000 ≤ IntKind.wrap IntKind.i64 (w + 1)), true), (true, true), (true, true)]) (by kernel_rfl) (by ((repeat' (first | exact okO_nil | refine okN ?_ ?_)); all_goals first | assumption | rfl | exact same_of rfl | exact sameS_self _ | (simp only [decide_eq_true_eq, decide_eq_false_iff_not, Nat.ble_eq, Nat.beq_eq, beq_eq_false_iff_ne, beq_iff_eq, ne_eq] <;> omega))) (fun st hst => pan st y 3 _ _ (congrArg AS.h hst) (by decide) (by unfold rdE; rw [eq]) (by unfold rdF; rw [eq]))
    · have e89 : decide (1000 ≤ IntKind.wrap IntKind.i64 (w + 1)) = false := by rw [w2, decide_eq_false_iff_not]; omega
      rw [if_neg (fun g => hn0 g.2), if_neg nl, if_pos h39] at eq
      refine Q.runSeq (SPd false true n ih [(121, [(89, false)])] []) 100 121 hnt [0, 1, 4, 5, 7] (z := ⟨[(0, .ptr 0 0), (1, .int .i64 w), (4, .ptr 1 0), (5, .ptr 2 0), (7, .ptr 3 0)], ⟨[⟨[.str s, .int .i64 (Int.ofNat y)], 87⟩, ⟨[.int .i64 (0 : Int), .int .i64 (0 : Int), .str ⟨#[]⟩, PV.nil], 25⟩, ⟨[.int .i64 (0 : Int), PV.nil], 64⟩, ⟨[.int .i64 (Int.ofNat y), PV.nil], 64⟩], []⟩⟩) (o := [(decide (1000 ≤ IntKind.wrap IntKind.i64 (w + 1)), false), (false, false)]) (by kernel_rfl) (by ((repeat' (first | exact okO_nil | refine okN ?_ ?_)); all_goals first | assumption | rfl | exact same_of rfl | exact sameS_self _ | (simp only [decide_eq_true_eq, decide_eq_false_iff_not, Nat.ble_eq, Nat.beq_eq, beq_eq_false_iff_ne, beq_iff_eq, ne_eq] <;> omega))) ?_
      refine Q.runSeq (SPd false true n ih [] []) 100 121 hnt [0, 1, 4, 5, 7] (z := ⟨[(0, .ptr 0 0), (1, .int .i64 w), (4, .ptr 1 0), (5, .ptr 2 0), (7, .ptr 3 0)], ⟨[⟨[.str s, .int .i64 (IntKind.wrap IntKind.i64 (Int.ofNat (y + 1)))], 87⟩, ⟨[.int .i64 (0 : Int), .int .i64 (0 : Int), .str ⟨#[]⟩, PV.nil], 25⟩, ⟨[.int .i64 (0 : Int), PV.nil], 64⟩, ⟨[.int .i64 (Int.ofNat y), PV.nil], 64⟩], []⟩⟩) (o := []) (by kernel_rfl) (by ((repeat' (first | exact okO_nil | refine okN ?_ ?_)); all_goals first | assumption | rfl | exact same_of rfl | exact sameS_self _ | (simp only [decide_eq_true_eq, decide_eq_false_iff_not, Nat.ble_eq, Nat.beq_eq, beq_eq_false_iff_ne, beq_iff_eq, ne_eq] <;> omega))) ?_
      rw [wy]
      obtain ⟨x0, hx0⟩ : ∃ x, x = y + 1 := ⟨_, rfl⟩
      show SWP G0 C _ _ ⟨[(0, .ptr 0 0), (1, .int .i64 w), (4, .ptr 1 0), (5, .ptr 2 0), (7, .ptr 3 0)], ⟨[rP s (y + 1), dZ, pZ, pB y .nil], []⟩⟩
      rw [← hx0] at eq ⊢
      have dx : decide (0 ≤ (x0 : Int) ∧ (x0 : Int) ≤ (s.size : Int)) = true := by rw [decide_eq_true_eq]; omega
      by_cases he : qE s n x0 = 0
      · have de : decide (qE s n (Int.toNat (x0 : Int)) = 0) = true := by rw [Int.toNat_natCast]; exact decide_eq_true he
        refine Q.runSeq (SPd false true n ih [] []) 100 121 hnt [4, 5, 7, 12, 13] (z := ⟨[(4, .ptr 1 0), (5, .ptr 2 0), (7, .ptr 3 0), (12, .ptr 4 0), (13, .ptr 5 0)], ⟨[rP s (qA s n x0), dZ, pZ, pB y .nil, ⟨ndJ (qX s n x0), 25⟩, ⟨ndP (qX s n x0), 64⟩], []⟩⟩) (o := [(decide (0 ≤ (↑x0 : Int) ∧ (↑x0 : Int) ≤ (↑(ByteArray.size s) : Int)), true), (decide (IntKind.wrap IntKind.i64 (w + 1) = 1000 - (↑n : Int)), true), (decide (qE s n (Int.toNat (↑x0 : Int)) = 0), true), (Nat.ble (ByteArray.size s) 1099511627776, true)]) (by kernel_rfl) (by ((repeat' (first | exact okO_nil | refine okN ?_ ?_)); all_goals first | assumption | rfl | exact same_of rfl | exact sameS_self _ | (simp only [decide_eq_true_eq, decide_eq_false_iff_not, Nat.ble_eq, Nat.beq_eq, beq_eq_false_iff_ne, beq_iff_eq, ne_eq] <;> omega))) ?_
        obtain ⟨X, hX⟩ : ∃ X, X = qX s n x0 := ⟨_, rfl⟩
        obtain ⟨p, hp'⟩ : ∃ X, X = qA s n x0 := ⟨_, rfl⟩
        rw [← hX, ← hp']
        have hs2 := rdD_steps s n (skp s x0) (skp_le s x0 (by omega))
        have eq2 : rdD s (n + 1) y = (.mk 3 0 ⟨#[]⟩ (.cons (.mk 2 0 wQuote .nil y) (.cons X .nil)) y, ⟨p, 0, 0⟩) := by
          rw [eq, hX, hp']
          have g1 : (rdD s n (skp s x0)).2 = ⟨qA s n x0, qE s n x0, qF s n x0⟩ := rfl
          have g2 : (rdD s n (skp s x0)).1 = qX s n x0 := rfl
          have hb0 : qF s n x0 = 0 := (hs2.1.ok he).2
          rw [g1, g2, he, hb0]
        obtain ⟨xp, hxp⟩ : ∃ z, z = (ndS X).pl := ⟨_, rfl⟩
        show SWP G0 C _ _ ⟨[(4, .ptr 1 0), (5, .ptr 2 0), (7, .ptr 3 0), (12, .ptr 4 0), (13, .ptr 5 0)], ⟨[rP s p, dZ, pZ, pB y .nil, ⟨ndJ X, 25⟩, ⟨[.int .i64 (ndA X), .slice (Nds.len (ndS X)) (ndS X).pl], 64⟩], []⟩⟩
        rw [← hxp]
        refine Q.runSeq (SPd false true n ih [] []) 100 121 hnt [4, 5, 7, 12] (z := ⟨[(4, .ptr 1 0), (5, .ptr 2 0), (7, .ptr 3 0), (12, .ptr 4 0)], ⟨[⟨[.str s, .int .i64 (Int.ofNat p)], 87⟩, ⟨[.int .i64 (0 : Int), .int .i64 (0 : Int), .str ⟨#[]⟩, PV.nil], 25⟩, ⟨[.int .i64 (0 : Int), PV.nil], 64⟩, ⟨[.int .i64 (Int.ofNat y), .slice 2 [.int .i64 (Int.ofNat y), PV.nil, .int .i64 (ndA X), .slice (Nds.len (ndS X)) xp]], 64⟩, ⟨[.int .i64 (ndK X), .int .i64 (ndN X), .str (ndT X), .slice (Dats.len (Nds.dat (ndS X))) (Dats.cells (Nds.dat (ndS X)))], 25⟩, ⟨[.int .i64 (ndA X), .slice (Nds.len (ndS X)) xp], 64⟩], []⟩⟩) (o := []) (by kernel_rfl) (by ((repeat' (first | exact okO_nil | refine okN ?_ ?_)); all_goals first | assumption | rfl | exact same_of rfl | exact sameS_self _ | (simp only [decide_eq_true_eq, decide_eq_false_iff_not, Nat.ble_eq, Nat.beq_eq, beq_eq_false_iff_ne, beq_iff_eq, ne_eq] <;> omega))) ?_
        refine Q.seq fun K hK => ?_
        refine SWP.runLQ (SPd false true n ih [] []) 100 121 hnt [4, 5] (l := List.replicate 5 { t := [(4, PV.ptr 1 0), (5, PV.ptr 2 0)], h := { bx := [{ cs := [PV.str s, PV.int IntKind.i64 (Int.ofNat p)], ty := 87 }, { cs := [PV.int IntKind.i64 (3 : Int), PV.int IntKind.i64 (0 : Int), PV.str { data := #[] }, PV.slice 2 [PV.int IntKind.i64 (2 : Int), PV.int IntKind.i64 (0 : Int), PV.str { data := #[113, 117, 111, 116, 101] }, PV.nil, PV.int IntKind.i64 (ndK X), PV.int IntKind.i64 (ndN X), PV.str (ndT X), PV.slice (Dats.len (Nds.dat (ndS X))) (Dats.cells (Nds.dat (ndS X)))]], ty := 25 }, { cs := [PV.int IntKind.i64 (Int.ofNat y), PV.slice 2 [PV.int IntKind.i64 (Int.ofNat y), PV.nil, PV.int IntKind.i64 (ndA X), PV.slice (Nds.len (ndS X)) xp]], ty := 64 }, { cs := [PV.int IntKind.i64 (Int.ofNat y), PV.slice 2 [PV.int IntKind.i64 (Int.ofNat y), PV.nil, PV.int IntKind.i64 (ndA X), PV.slice (Nds.len (ndS X)) xp]], ty := 64 }, { cs := [PV.int IntKind.i64 (ndK X), PV.int IntKind.i64 (ndN X), PV.str (ndT X), PV.slice (Dats.len (Nds.dat (ndS X))) (Dats.cells (Nds.dat (ndS X)))], ty := 25 }, { cs := [PV.int IntKind.i64 (ndA X), PV.slice (Nds.len (ndS X)) xp], ty := 64 }], rw := [] } }) (o := []) (by kernel_rfl) (by ((repeat' (first | exact okO_nil | refine okN ?_ ?_)); all_goals first | assumption | rfl | exact same_of rfl | exact sameS_self _ | (simp only [decide_eq_true_eq, decide_eq_false_iff_not, Nat.ble_eq, Nat.beq_eq, beq_eq_false_iff_ne, beq_iff_eq, ne_eq] <;> omega))) (fun st hst => hK st (.norm [4, 5] ?_))
        rw [List.eq_of_mem_replicate hst]
        exact .ret (fin _ _ _ p _ _ rfl rfl rfl rfl rfl ⟨_, eq2, by
          simp only [nzL, PV.nz, Dats.nz, Dats.cells, Dat.cells, Nds.dat, Nd.dat, Dats.len]
          obtain ⟨k, n', t, ks, a'⟩ := X
          rfl, by
          rw [hxp]
          simp only [nzL, PV.nz, Nds.pl_nz, Nds.pl, Nd.pl, Nds.len]
          obtain ⟨k, n', t, ks, a'⟩ := X
          rfl⟩)
      · have de : decide (qE s n (Int.toNat (x0 : Int)) = 0) = false := by rw [Int.toNat_natCast]; exact decide_eq_false he
        refine Q.seq fun K hK => ?_
        exact SWP.runQ (SPd true true n ih [] []) 100 121 hnt [] (e := .panic (faultV (qF s n x0) (qE s n x0))) (z := ⟨[], ⟨[⟨[.str s, .int .i64 (rdF s n (skp s (Int.toNat (Int.ofNat x0))))], 87⟩, ⟨[.int .i64 (0 : Int), .int .i64 (0 : Int), .str ⟨#[]⟩, PV.nil], 25⟩, ⟨[.int .i64 (0 : Int), PV.nil], 64⟩, ⟨[.int .i64 (Int.ofNat y), PV.nil], 64⟩], []⟩⟩) (o := [(decide (0 ≤ (↑x0 : Int) ∧ (↑x0 : Int) ≤ (↑(ByteArray.size s) : Int)), true), (decide (IntKind.wrap IntKind.i64 (w + 1) = 1000 - (↑n : Int)), true), (decide (qE s n (Int.toNat (↑x0 : Int)) = 0), false), (Nat.ble (ByteArray.size s) 1099511627776, true)]) (by kernel_rfl) (by ((repeat' (first | exact okO_nil | refine okN ?_ ?_)); all_goals first | assumption | rfl | exact same_of rfl | exact sameS_self _ | (simp only [decide_eq_true_eq, decide_eq_false_iff_not, Nat.ble_eq, Nat.beq_eq, beq_eq_false_iff_ne, beq_iff_eq, ne_eq] <;> omega))) (fun st hst => pan st (qF s n x0) (qE s n x0) _ _ (congrArg AS.h hst) he (by unfold rdE; rw [eq]; rfl) (by unfold rdF; rw [eq]; rfl))
theorem rp_at : ∀ N, N ≤ 1000 → RpAt N
  | 0, h => rp_step false 0 (fun h => by cases h) 0 (fun h => by cases h) (fun _ => rfl) h
  | n + 1, h => rp_step true n (fun _ => rp_at n (by omega)) (n + 1) (fun _ => rfl) (fun h => by cases h) h
end Seat
end Go.Proofs.YtenpjkcclmmlhaaDoor
namespace Go.Proofs.YtenpjkcclmmlhaaDoor
open Go.AS Go.RowKit
set_option linter.unusedVariables false
set_option linter.unusedSimpArgs false
set_option maxRecDepth 100000
set_option maxHeartbeats 400000
namespace Seat
noncomputable def G1 : Prg := ⟨Tryd.prog, T, hT, fun _ => none, mo⟩
noncomputable def SG1 : Cfg G1 := { F := F, hF := hF, S := fun _ _ => none, hS := fun _ _ _ _ h => by cases h }
theorem guard_idle (v1 v2 : Value) (w : World) : CallsD Tryd.prog 67 #[v1, v2] .returning w fun e u' w' => (∃ v, e = .returned v) ∧ u' = .returning ∧ Below w.heap.size w w' := by
  let E : Env := ⟨fun _ => 0, fun _ => .nilFunc, fun _ => False, w.heap.size, 0, 0⟩
  let a : Act := ({ tmps := #[v1, v2] ++ Array.replicate 19 undef, defers := [] } : Act).put (some 7) .nilIface
  have hrel : Rel G1 (Ctx.of w E 0 21) E ⟨[(7, .niliface)], ⟨[], []⟩⟩ a w := ⟨rfl, by simp [a, Act.put, Ctx.of], fun s => by
      simp only [lk]
      split
      · rename_i h
        subst h
        have : a.tmps.getD 7 undef = .nilIface := by simp [a, Act.put, Array.getD]
        rw [this]
        exact .imm .niliface
      · exact .junk _,
    ⟨rfl, rfl, Nat.le_refl _, fun i b hb => by simp at hb, fun i r hr => by simp at hr, fun i j h => absurd h (Nat.not_lt_zero _), fun i j r s k h => by simp at h, fun i j r h => absurd h (Nat.not_lt_zero _), fun k h => h.elim, fun k i h => absurd h (Nat.not_lt_zero _), fun k j r h => by simp at h, fun g cs hg => by cases hg⟩,
    rfl, Nat.zero_le _, fun _ _ => rfl, fun i h1 h2 => absurd h2 (Nat.not_lt_zero _), fun _ h => h, fun _ h => .inl h, fun _ _ _ _ => rfl, rfl, rfl, rfl, Nat.le_refl _, fun j s k hj => by simp at hj⟩
  refine callsD_recover Tryd.func67 rfl rfl (fun ρ => rfl) ?_
  refine wp_mono (SWP.runQ SG1 100 21 rfl [] (e := .normal) (z := ⟨[], ⟨[], []⟩⟩) (o := []) (Q := fun e s => e = .normal ∧ s.h = ⟨[], []⟩) (by kernel_rfl) (fun p hp => by cases hp) (fun st hst => ⟨rfl, congrArg AS.h hst⟩) E a w hrel) ?_
  rintro e a' w' ⟨ae, s, E', ⟨rfl, hs⟩, rfl, r⟩
  obtain ⟨v, h1, _⟩ := aret_ok (fn := Tryd.f67) (r := .tup []) r.fr r.hp rfl
  exact ⟨r.defers, v, h1, ⟨_, rfl⟩, rfl, ⟨r.os, r.tape, r.out, r.sz, fun k hk => r.keep k hk (fun i hi => absurd hi (Nat.not_lt_zero _)) (fun h => h)⟩⟩
end Seat
end Go.Proofs.YtenpjkcclmmlhaaDoor
namespace Go.Proofs.YtenpjkcclmmlhaaDoor
open Go.AS Go.RowKit
set_option linter.unusedVariables false
set_option linter.unusedSimpArgs false
set_option maxRecDepth 100000
set_option maxHeartbeats 1000000
namespace Seat
theorem guard_pan (b1 b2 : Nat) (x y : Int) (c1 c2 : Value) (w : World) (hne : b1 ≠ b2) (h1 : w.heap[b1]? = some (.cells #[c1] 3 (0, 0))) (h2 : w.heap[b2]? = some (.cells #[c2] 26 (0, 0))) :
    CallsD Tryd.prog 67 #[.pointer (some ⟨b1, 0, none⟩), .pointer (some ⟨b2, 0, none⟩)] (.panicking [{ v := .iface 121 (.agg #[.int .i64 x, .int .i64 y]), recovered := false }]) w fun e u' w' =>
      (∃ v, e = .returned v) ∧ u' = .panicking [{ v := .iface 121 (.agg #[.int .i64 x, .int .i64 y]), recovered := true }] ∧ Below w.heap.size (putBlk (putBlk w b1 [.int .i64 x] 3) b2 [.int .i64 y] 26) w' := by
  let E : Env := ⟨fun i => if i = 0 then b1 else b2, fun _ => .nilFunc, fun _ => False, w.heap.size, 2, 0⟩
  let fv : Value := .iface 121 (.agg #[.int .i64 x, .int .i64 y])
  let a : Act := ({ tmps := #[.pointer (some ⟨b1, 0, none⟩), .pointer (some ⟨b2, 0, none⟩)] ++ Array.replicate 19 undef, defers := [] } : Act).put (some 7) fv
  have two : ∀ i : Nat, i < 2 → i = 0 ∨ i = 1 := fun i h => by omega
  have hrel : Rel G1 ⟨w, E, 2, 21, w.heap.size, fun _ => False, []⟩ E ⟨[(7, .iface 121 (.agg [.int .i64 x, .int .i64 y])), (0, .ptr 0 0), (1, .ptr 1 0)], ⟨[⟨[.junk], 3⟩, ⟨[.junk], 26⟩], []⟩⟩ a w := ⟨rfl, by simp [a, Act.put], fun s => by
      simp only [lk]
      split
      · rename_i h
        subst h
        have : a.tmps.getD 7 undef = fv := by simp [a, Act.put, Array.getD]
        rw [this]
        exact .iface _ (.agg (vs := [.int .i64 x, .int .i64 y]) rfl fun j z v hz hv => by
          match j with
          | 0 => simp at hz hv; subst hz; subst hv; exact .imm (.int _ _)
          | 1 => simp at hz hv; subst hz; subst hv; exact .imm (.int _ _)
          | j + 2 => simp at hz)
      · split
        · rename_i h
          subst h
          have : a.tmps.getD 0 undef = .pointer (some ⟨b1, 0, none⟩) := by simp [a, Act.put, Array.getD]
          rw [this]
          exact .ptr (E := E) (b := 0) 0 (by show 0 < 2; omega)
        · split
          · rename_i h
            subst h
            have : a.tmps.getD 1 undef = .pointer (some ⟨b2, 0, none⟩) := by simp [a, Act.put, Array.getD]
            rw [this]
            exact .ptr (E := E) (b := 1) 0 (by show 1 < 2; omega)
          · exact .junk _,
    ⟨rfl, rfl, Nat.le_refl _, fun i b hb => by
        match i with
        | 0 => simp at hb; subst hb; exact ⟨[c1], h1, .cons (.junk _) (.nil _ _)⟩
        | 1 => simp at hb; subst hb; exact ⟨[c2], h2, .cons (.junk _) (.nil _ _)⟩
        | i + 2 => simp at hb, fun i r hr => by simp at hr, fun i j hi hj he => by
        rcases two i hi with rfl | rfl <;> rcases two j hj with rfl | rfl
        · rfl
        · exact absurd he hne
        · exact absurd he.symm hne
        · rfl, fun i j r s k h => by simp at h, fun i j r hi hj => by simp at hj, fun k h => h.elim, fun k i hi h => h.elim, fun k j r h => by simp at h, fun g cs hg => by cases hg⟩,
    rfl, Nat.le_refl _, fun _ _ => rfl, fun i h1 h2 => absurd h2 (Nat.not_lt.2 h1), fun _ h => h, fun _ h => .inl h, fun _ _ _ _ => rfl, rfl, rfl, rfl, Nat.le_refl _, fun j s k hj => by simp at hj⟩
  refine callsD_recover Tryd.func67 rfl rfl (fun ρ => rfl) ?_
  refine wp_mono (SWP.runQ SG1 100 21 rfl [] (e := .normal) (z := ⟨[], ⟨[⟨[.int .i64 x], 3⟩, ⟨[.int .i64 y], 26⟩, ⟨[.int .i64 x, .int .i64 y], 121⟩], []⟩⟩) (o := [(sameS { t := [(13, PV.ptr 0 0), (14, PV.ptr 1 0), (15, PV.ptr 2 0), (16, PV.int IntKind.i64 x), (17, PV.ptr 2 1), (18, PV.int IntKind.i64 y), (19, PV.ptr 0 0), (20, PV.ptr 1 0), (5, PV.ptr 2 0), (12, PV.agg [PV.int IntKind.i64 x, PV.int IntKind.i64 y]), (11, PV.bool true), (10, PV.tup [PV.agg [PV.int IntKind.i64 x, PV.int IntKind.i64 y], PV.bool true]), (9, PV.bool false), (7, PV.iface 121 (PV.agg [PV.int IntKind.i64 x, PV.int IntKind.i64 y])), (0, PV.ptr 0 0), (1, PV.ptr 1 0)], h := { bx := [{ cs := [PV.int IntKind.i64 x], ty := 3 }, { cs := [PV.int IntKind.i64 y], ty := 26 }, { cs := [PV.int IntKind.i64 x, PV.int IntKind.i64 y], ty := 121 }], rw := [] } } { t := [(13, PV.ptr 0 0), (14, PV.ptr 1 0), (15, PV.ptr 2 0), (16, PV.int IntKind.i64 x), (17, PV.ptr 2 1), (18, PV.int IntKind.i64 y), (19, PV.ptr 0 0), (20, PV.ptr 1 0), (5, PV.ptr 2 0), (12, PV.agg [PV.int IntKind.i64 x, PV.int IntKind.i64 y]), (11, PV.bool true), (10, PV.tup [PV.agg [PV.int IntKind.i64 x, PV.int IntKind.i64 y], PV.bool true]), (9, PV.bool false), (7, PV.iface 121 (PV.agg [PV.int IntKind.i64 x, PV.int IntKind.i64 y])), (0, PV.ptr 0 0), (1, PV.ptr 1 0)], h := { bx := [{ cs := [PV.int IntKind.i64 x], ty := 3 }, { cs := [PV.int IntKind.i64 y], ty := 26 }, { cs := [PV.int IntKind.i64 x, PV.int IntKind.i64 y], ty := 121 }], rw := [] } }, true), (sameS { t := [(13, PV.ptr 0 0), (14, PV.ptr 1 0), (15, PV.ptr 2 0), (16, PV.int IntKind.i64 x), (17, PV.ptr 2 1), (18, PV.int IntKind.i64 y), (19, PV.ptr 0 0), (20, PV.ptr 1 0), (5, PV.ptr 2 0), (12, PV.agg [PV.int IntKind.i64 x, PV.int IntKind.i64 y]), (11, PV.bool true), (10, PV.tup [PV.agg [PV.int IntKind.i64 x, PV.int IntKind.i64 y], PV.bool true]), (9, PV.bool false), (7, PV.iface 121 (PV.agg [PV.int IntKind.i64 x, PV.int IntKind.i64 y])), (0, PV.ptr 0 0), (1, PV.ptr 1 0)], h := { bx := [{ cs := [PV.int IntKind.i64 x], ty := 3 }, { cs := [PV.int IntKind.i64 y], ty := 26 }, { cs := [PV.int IntKind.i64 x, PV.int IntKind.i64 y], ty := 121 }], rw := [] } } { t := [(13, PV.ptr 0 0), (14, PV.ptr 1 0), (15, PV.ptr 2 0), (16, PV.int IntKind.i64 x), (17, PV.ptr 2 1), (18, PV.int IntKind.i64 y), (19, PV.ptr 0 0), (20, PV.ptr 1 0), (5, PV.ptr 2 0), (12, PV.agg [PV.int IntKind.i64 x, PV.int IntKind.i64 y]), (11, PV.bool true), (10, PV.tup [PV.agg [PV.int IntKind.i64 x, PV.int IntKind.i64 y], PV.bool true]), (9, PV.bool false), (7, PV.iface 121 (PV.agg [PV.int IntKind.i64 x, PV.int IntKind.i64 y])), (0, PV.ptr 0 0), (1, PV.ptr 1 0)], h := { bx := [{ cs := [PV.int IntKind.i64 x], ty := 3 }, { cs := [PV.int IntKind.i64 y], ty := 26 }, { cs := [PV.int IntKind.i64 x, PV.int IntKind.i64 y], ty := 121 }], rw := [] } }, true)]) (Q := fun e s => e = .normal ∧ s.h.bx.length = 3 ∧ s.h.bx[0]? = some ⟨[.int .i64 x], 3⟩ ∧ s.h.bx[1]? = some ⟨[.int .i64 y], 26⟩) (by kernel_rfl) (by ((repeat' (first | exact okO_nil | refine okN ?_ ?_)); all_goals first | assumption | rfl | exact same_of rfl | exact sameS_self _ | (simp only [decide_eq_true_eq, decide_eq_false_iff_not, Nat.ble_eq, Nat.beq_eq, beq_eq_false_iff_ne, beq_iff_eq, ne_eq] <;> omega))) (fun st hst => ⟨rfl, by have e := congrArg AS.h hst; have e2 : st.h = _ := e; rw [e2]; exact ⟨rfl, rfl, rfl⟩⟩) E a w hrel) ?_
  rintro e a' w' ⟨ae, s, E', ⟨rfl, _, hb0, hb1⟩, rfl, r⟩
  obtain ⟨v, g1, _⟩ := aret_ok (fn := Tryd.f67) (r := .tup []) r.fr r.hp rfl
  obtain ⟨us, k1, k2⟩ := r.hp.box 0 _ hb0
  obtain ⟨vs, k3, k4⟩ := r.hp.box 1 _ hb1
  obtain ⟨u, us', rfl, hu, hus⟩ := k2.cons_inv
  obtain rfl := hus.nil_inv
  obtain rfl := hu.int_inv
  obtain ⟨u, vs', rfl, hu, hus⟩ := k4.cons_inv
  obtain rfl := hus.nil_inv
  obtain rfl := hu.int_inv
  have e0 : E'.β 0 = b1 := r.β 0 (by show 0 < 2; omega)
  have e1 : E'.β 1 = b2 := r.β 1 (by show 1 < 2; omega)
  rw [e0] at k1
  rw [e1] at k3
  have l1 : b1 < w.heap.size := (Array.getElem?_eq_some_iff.1 h1).1
  have l2 : b2 < w.heap.size := (Array.getElem?_eq_some_iff.1 h2).1
  refine ⟨r.defers, v, g1, ⟨_, rfl⟩, rfl, ⟨r.os, r.tape, r.out, by rw [putBlk_size, putBlk_size]; exact r.sz, fun k hk => ?_⟩⟩
  by_cases q2 : k = b2
  · subst q2
    rw [k3, putBlk_at (by rw [putBlk_size]; exact l2)]
  · rw [putBlk_ne q2]
    by_cases q1 : k = b1
    · subst q1
      rw [k1, putBlk_at l1]
    · rw [putBlk_ne q1]
      exact r.keep k hk (fun i hi he => by
        rcases two i hi with rfl | rfl
        · exact q1 he.symm
        · exact q2 he.symm) (fun h => h)
theorem guardOk (G : Prg) (hP : G.P = Tryd.prog) : Guard G 67 121 3 26 .i64 .i64 := ⟨fun v1 v2 w => by rw [hP]; exact guard_idle v1 v2 w, fun b1 b2 x y c1 c2 w hne h1 h2 => by rw [hP]; exact guard_pan b1 b2 x y c1 c2 w hne h1 h2⟩
end Seat
end Go.Proofs.YtenpjkcclmmlhaaDoor
namespace Go.Proofs.YtenpjkcclmmlhaaDoor
open Go.AS Go.RowKit
set_option linter.unusedVariables false
set_option linter.unusedSimpArgs false
set_option maxRecDepth 100000
set_option maxHeartbeats 4000000
namespace Seat
def iZ (a : Int) : Box := ⟨[.int .i64 a], 3⟩
def eZ (a : Int) : Box := ⟨[.int .i64 a], 26⟩
noncomputable def SLg (pn : Bool) (l : List (Nat × List (Nat × Bool))) (v : List (Nat × List (Nat × PV))) : Cfg G0 := SPd pn true 1000 (fun _ => rp_at 1000 (Nat.le_refl _)) l v
def lnR (s : ByteArray) : Nd × Int × Int :=
  if rdE s 1000 (skp s 0) = 0 then (if skp s (rdA s 1000 (skp s 0)) < s.size then (.zero, (skp s (rdA s 1000 (skp s 0)) : Nat), 4) else (rdX s 1000 (skp s 0), 0, 0)) else (.zero, rdF s 1000 (skp s 0), rdE s 1000 (skp s 0))
theorem lnR_eq (s : ByteArray) : lnR s =
  (if rdE s 1000 (skp s 0) = 0 then (if skp s (rdA s 1000 (skp s 0)) < s.size then (.zero, (skp s (rdA s 1000 (skp s 0)) : Nat), 4) else (rdX s 1000 (skp s 0), 0, 0)) else (.zero, rdF s 1000 (skp s 0), rdE s 1000 (skp s 0)) : Nd × Int × Int) := rfl
def lnX (s : ByteArray) : Nd := (lnR s).1
def lnA (s : ByteArray) : Int := (lnR s).2.1
def lnE (s : ByteArray) : Int := (lnR s).2.2
theorem long_ok (s : ByteArray) (hs : s.size ≤ 1099511627776) : Pure G0 58 [.str s] (fun r => r = .tup [.agg (ndJ (lnX s)), .agg (ndP (lnX s)), .int .i64 (lnA s), .int .i64 (lnE s)]) := by
  refine Pure.nz ?_
  have hss : Nat.ble s.size 1099511627776 = true := Nat.ble_eq_true_of_le hs
  refine PCalls.deferQ (s1 := ⟨[(0, .str s), (2, .ptr 0 0), (3, .ptr 1 0), (4, .ptr 2 0), (5, .ptr 3 0)], ⟨[dZ, pZ, iZ 0, eZ 0], []⟩⟩) (b1 := 2) (b2 := 3) Tryd.func58 Tryd.ntmps58 rfl (Nat.le_of_ble_eq_true rfl) (guardOk G0 rfl) Tryd.func67 (by kernel_rfl) rfl rfl rfl rfl rfl rfl rfl (by decide) rfl
    (fun C hC => SWP.normQ (SWP.runQ (SLg false [] []) 100 30 hC [0, 2, 3, 4, 5] (e := .normal) (z := ⟨[(0, .str s), (2, .ptr 0 0), (3, .ptr 1 0), (4, .ptr 2 0), (5, .ptr 3 0)], ⟨[⟨[.int .i64 (0 : Int), .int .i64 (0 : Int), .str ⟨#[]⟩, PV.nil], 25⟩, ⟨[.int .i64 (0 : Int), PV.nil], 64⟩, ⟨[.int .i64 (0 : Int)], 3⟩, ⟨[.int .i64 (0 : Int)], 26⟩], []⟩⟩) (o := []) (by kernel_rfl) (by ((repeat' (first | exact okO_nil | refine okN ?_ ?_)); all_goals first | assumption | rfl | exact same_of rfl | exact sameS_self _ | (simp only [decide_eq_true_eq, decide_eq_false_iff_not, Nat.ble_eq, Nat.beq_eq, beq_eq_false_iff_ne, beq_iff_eq, ne_eq] <;> omega))) (fun st hst => ⟨[0, 2, 3, 4, 5], rfl, hst⟩))) fun C fr fp hnt hnb hfr hfp => ?_
  have eq := lnR_eq s
  have fin : ∀ st d p a e bx rw', nrm [2, 3, 4, 5] st = ⟨[(2, .ptr 0 0), (3, .ptr 1 0), (4, .ptr 2 0), (5, .ptr 3 0)], ⟨⟨d, 25⟩ :: ⟨p, 64⟩ :: iZ a :: eZ e :: bx, rw'⟩⟩ → d.length = 4 → p.length = 2 → scL 0 d = true → scL 0 p = true → nzL d = ndJ (lnX s) → nzL p = ndP (lnX s) → lnA s = a → lnE s = e → fr st := fun st d p a e bx rw' hst l1 l2 s1 s2 g1 g2 g3 g4 => hfr st [2, 3, 4, 5] (by
    rw [hst]
    refine ⟨0, .tup [.agg d, .agg p, .int .i64 a, .int .i64 e], Nat.le_refl _, Nat.zero_le _, ?_, ?_, rfl, rfl, _, rfl, ?_⟩
    · match d, l1, p, l2 with
      | [d1, d2, d3, d4], _, [p1, p2], _ => rfl
    · simp only [PV.sc, scL, s1, s2, Bool.and_true]
    · show PV.tup [.agg (nzL d), .agg (nzL p), .int .i64 a, .int .i64 e] = _
      rw [g1, g2, g3, g4])
  have pan : ∀ st (a e : Int) bx rw', nrm [2, 3, 4, 5] st = ⟨[(2, .ptr 0 0), (3, .ptr 1 0), (4, .ptr 2 0), (5, .ptr 3 0)], ⟨dZ :: pZ :: iZ 0 :: eZ 0 :: bx, rw'⟩⟩ → lnR s = (.zero, a, e) → fp (faultV a e) st := fun st a e bx rw' hst h => hfp a e st [2, 3, 4, 5] (.int .i64 0) (.int .i64 0) (by rw [hst]; rfl) (by rw [hst]; rfl) (by
    rw [hst]
    refine ⟨0, .tup [.agg dZ.cs, .agg pZ.cs, .int .i64 a, .int .i64 e], Nat.le_refl _, Nat.zero_le _, rfl, rfl, rfl, rfl, _, rfl, ?_⟩
    unfold lnX lnA lnE
    rw [h]
    rfl)
  refine Q.runSeq (SLg false [] []) 100 30 hnt [0, 2, 3, 4, 5, 6] (z := ⟨[(0, .str s), (2, .ptr 0 0), (3, .ptr 1 0), (4, .ptr 2 0), (5, .ptr 3 0), (6, .ptr 4 0)], ⟨[⟨[.int .i64 (0 : Int), .int .i64 (0 : Int), .str ⟨#[]⟩, PV.nil], 25⟩, ⟨[.int .i64 (0 : Int), PV.nil], 64⟩, ⟨[.int .i64 (0 : Int)], 3⟩, ⟨[.int .i64 (0 : Int)], 26⟩, ⟨[.str s, .int .i64 (0 : Int)], 87⟩], []⟩⟩) (o := []) (by kernel_rfl) (by ((repeat' (first | exact okO_nil | refine okN ?_ ?_)); all_goals first | assumption | rfl | exact same_of rfl | exact sameS_self _ | (simp only [decide_eq_true_eq, decide_eq_false_iff_not, Nat.ble_eq, Nat.beq_eq, beq_eq_false_iff_ne, beq_iff_eq, ne_eq] <;> omega))) ?_
  have hst := rdD_steps s 1000 (skp s 0) (skp_le s 0 (Nat.zero_le _))
  have hin : RS.In s 1000 ⟨rdA s 1000 (skp s 0), rdE s 1000 (skp s 0), rdF s 1000 (skp s 0)⟩ := hst.1
  by_cases he : rdE s 1000 (skp s 0) = 0
  · have de : decide (qE s 1000 (Int.toNat ((0 : Nat) : Int)) = 0) = true := decide_eq_true he
    have d0 : decide ((0 : Int) ≤ 0 ∧ (0 : Int) ≤ (s.size : Int)) = true := by rw [decide_eq_true_eq]; omega
    rw [if_pos he] at eq
    refine Q.runSeq (SLg false [] []) 100 30 hnt [0, 2, 3, 4, 5, 6, 7, 8] (z := ⟨[(0, .str s), (2, .ptr 0 0), (3, .ptr 1 0), (4, .ptr 2 0), (5, .ptr 3 0), (6, .ptr 4 0), (7, .ptr 5 0), (8, .ptr 6 0)], ⟨[dZ, pZ, iZ 0, eZ 0, rP s (qA s 1000 0), ⟨ndJ (qX s 1000 0), 25⟩, ⟨ndP (qX s 1000 0), 64⟩], []⟩⟩) (o := [(true, true), (true, true), (decide (qE s 1000 (Int.toNat (↑0 : Int)) = 0), true), (Nat.ble (ByteArray.size s) 1099511627776, true)]) (by kernel_rfl) (by ((repeat' (first | exact okO_nil | refine okN ?_ ?_)); all_goals first | assumption | rfl | exact same_of rfl | exact sameS_self _ | (simp only [decide_eq_true_eq, decide_eq_false_iff_not, Nat.ble_eq, Nat.beq_eq, beq_eq_false_iff_ne, beq_iff_eq, ne_eq] <;> omega))) ?_
    have hA : (rdA s 1000 (skp s 0)) ≤ s.size := (hin.ok he).1
    obtain ⟨X, hX⟩ : ∃ X, X = qX s 1000 0 := ⟨_, rfl⟩
    obtain ⟨p, hp'⟩ : ∃ X, X = qA s 1000 0 := ⟨_, rfl⟩
    obtain ⟨xp, hxp⟩ : ∃ z, z = (ndS X).pl := ⟨_, rfl⟩
    refine swp_st (st' := ⟨[(0, .str s), (2, .ptr 0 0), (3, .ptr 1 0), (4, .ptr 2 0), (5, .ptr 3 0), (6, .ptr 4 0), (7, .ptr 5 0), (8, .ptr 6 0)], ⟨[dZ, pZ, iZ 0, eZ 0, rP s p, ⟨ndJ X, 25⟩, ⟨[.int .i64 (ndA X), .slice (Nds.len (ndS X)) xp], 64⟩], []⟩⟩) (by rw [hxp, hX, hp']; rfl) ?_
    have e1 : rdA s 1000 (skp s 0) = p := hp'.symm
    have e2 : rdX s 1000 (skp s 0) = X := hX.symm
    rw [e1, e2] at eq
    rw [e1] at hA
    have dp : decide (0 ≤ (p : Int) ∧ (p : Int) ≤ (s.size : Int)) = true := by rw [decide_eq_true_eq]; omega
    have hle := skp_le s p hA
    rcases Nat.lt_or_ge (skp s p) s.size with hl | hg
    · rw [if_pos hl] at eq
      have dl : decide (((skp s (Int.toNat (p : Int)) : Nat) : Int) < (s.size : Int)) = true := lt_at hl
      refine Q.seq fun K hK => ?_
      exact SWP.runQ (SLg false [(30, [(25, true)])] []) 100 30 hnt [2, 3, 4, 5] (e := .panic (faultV (Int.ofNat (skp s p)) 4)) (z := ⟨[(2, .ptr 0 0), (3, .ptr 1 0), (4, .ptr 2 0), (5, .ptr 3 0)], ⟨[⟨[.int .i64 (0 : Int), .int .i64 (0 : Int), .str ⟨#[]⟩, PV.nil], 25⟩, ⟨[.int .i64 (0 : Int), PV.nil], 64⟩, ⟨[.int .i64 (0 : Int)], 3⟩, ⟨[.int .i64 (0 : Int)], 26⟩, ⟨[.str s, .int .i64 (Int.ofNat (skp s (Int.toNat (Int.ofNat p))))], 87⟩, ⟨[.int .i64 (ndK X), .int .i64 (ndN X), .str (ndT X), .slice (Dats.len (Nds.dat (ndS X))) (Dats.cells (Nds.dat (ndS X)))], 25⟩, ⟨[.int .i64 (ndA X), .slice (Nds.len (ndS X)) xp], 64⟩], []⟩⟩) (o := [(decide (0 ≤ (↑p : Int) ∧ (↑p : Int) ≤ (↑(ByteArray.size s) : Int)), true), (Nat.ble (ByteArray.size s) 1099511627776, true), (decide ((↑(skp s (Int.toNat (↑p : Int))) : Int) < (↑(ByteArray.size s) : Int)), true), (true, true), (true, true)]) (by kernel_rfl) (by ((repeat' (first | exact okO_nil | refine okN ?_ ?_)); all_goals first | assumption | rfl | exact same_of rfl | exact sameS_self _ | (simp only [decide_eq_true_eq, decide_eq_false_iff_not, Nat.ble_eq, Nat.beq_eq, beq_eq_false_iff_ne, beq_iff_eq, ne_eq] <;> omega))) (fun st hst => pan st (skp s p : Nat) 4 _ _ hst eq)
    · rw [if_neg (by omega)] at eq
      have dl : decide (((skp s (Int.toNat (p : Int)) : Nat) : Int) < (s.size : Int)) = false := ge_at hg
      refine Q.runSeq (SLg false [(30, [(25, false)])] []) 100 30 hnt [2, 3, 4, 5, 7, 8] (z := ⟨[(2, .ptr 0 0), (3, .ptr 1 0), (4, .ptr 2 0), (5, .ptr 3 0), (7, .ptr 5 0), (8, .ptr 6 0)], ⟨[⟨[.int .i64 (0 : Int), .int .i64 (0 : Int), .str ⟨#[]⟩, PV.nil], 25⟩, ⟨[.int .i64 (0 : Int), PV.nil], 64⟩, ⟨[.int .i64 (0 : Int)], 3⟩, ⟨[.int .i64 (0 : Int)], 26⟩, ⟨[.str s, .int .i64 (Int.ofNat (skp s (Int.toNat (Int.ofNat p))))], 87⟩, ⟨[.int .i64 (ndK X), .int .i64 (ndN X), .str (ndT X), .slice (Dats.len (Nds.dat (ndS X))) (Dats.cells (Nds.dat (ndS X)))], 25⟩, ⟨[.int .i64 (ndA X), .slice (Nds.len (ndS X)) xp], 64⟩], []⟩⟩) (o := [(decide (0 ≤ (↑p : Int) ∧ (↑p : Int) ≤ (↑(ByteArray.size s) : Int)), true), (Nat.ble (ByteArray.size s) 1099511627776, true), (decide ((↑(skp s (Int.toNat (↑p : Int))) : Int) < (↑(ByteArray.size s) : Int)), false), (false, false)]) (by kernel_rfl) (by ((repeat' (first | exact okO_nil | refine okN ?_ ?_)); all_goals first | assumption | rfl | exact same_of rfl | exact sameS_self _ | (simp only [decide_eq_true_eq, decide_eq_false_iff_not, Nat.ble_eq, Nat.beq_eq, beq_eq_false_iff_ne, beq_iff_eq, ne_eq] <;> omega))) ?_
      obtain ⟨q, hq⟩ : ∃ q, q = skp s p := ⟨_, rfl⟩
      refine swp_st (st' := ⟨[(2, .ptr 0 0), (3, .ptr 1 0), (4, .ptr 2 0), (5, .ptr 3 0), (7, .ptr 5 0), (8, .ptr 6 0)], ⟨[dZ, pZ, iZ 0, eZ 0, rP s q, ⟨ndJ X, 25⟩, ⟨[.int .i64 (ndA X), .slice (Nds.len (ndS X)) xp], 64⟩], []⟩⟩) (by rw [hq]; rfl) ?_
      refine Q.seq fun K hK => ?_
      refine SWP.runLQ (SLg false [] []) 100 30 hnt [2, 3, 4, 5] (l := List.replicate 2 { t := [(2, PV.ptr 0 0), (3, PV.ptr 1 0), (4, PV.ptr 2 0), (5, PV.ptr 3 0)], h := { bx := [{ cs := [PV.int IntKind.i64 (ndK X), PV.int IntKind.i64 (ndN X), PV.str (ndT X), PV.slice (Dats.len (Nds.dat (ndS X))) (Dats.cells (Nds.dat (ndS X)))], ty := 25 }, { cs := [PV.int IntKind.i64 (ndA X), PV.slice (Nds.len (ndS X)) xp], ty := 64 }, { cs := [PV.int IntKind.i64 (0 : Int)], ty := 3 }, { cs := [PV.int IntKind.i64 (0 : Int)], ty := 26 }, { cs := [PV.str s, PV.int IntKind.i64 (Int.ofNat q)], ty := 87 }, { cs := [PV.int IntKind.i64 (ndK X), PV.int IntKind.i64 (ndN X), PV.str (ndT X), PV.slice (Dats.len (Nds.dat (ndS X))) (Dats.cells (Nds.dat (ndS X)))], ty := 25 }, { cs := [PV.int IntKind.i64 (ndA X), PV.slice (Nds.len (ndS X)) xp], ty := 64 }], rw := [] } }) (o := []) (by kernel_rfl) (by ((repeat' (first | exact okO_nil | refine okN ?_ ?_)); all_goals first | assumption | rfl | exact same_of rfl | exact sameS_self _ | (simp only [decide_eq_true_eq, decide_eq_false_iff_not, Nat.ble_eq, Nat.beq_eq, beq_eq_false_iff_ne, beq_iff_eq, ne_eq] <;> omega))) (fun st hst => hK st (.norm [2, 3, 4, 5] ?_))
      rw [List.eq_of_mem_replicate hst]
      refine .ret (fin _ _ _ 0 0 _ _ rfl rfl rfl rfl rfl ?_ ?_ ?_ ?_)
      · unfold lnX; rw [eq]; show nzL (ndJ X) = _; rw [ndJ_eq, Dat.nz]
      · unfold lnX; rw [eq, hxp]; show nzL (ndP X) = _; rw [ndP_eq, Nd.pl_nz]
      · unfold lnA; rw [eq]
      · unfold lnE; rw [eq]
  · have de : decide (qE s 1000 (Int.toNat ((0 : Nat) : Int)) = 0) = false := decide_eq_false he
    have d0 : decide ((0 : Int) ≤ 0 ∧ (0 : Int) ≤ (s.size : Int)) = true := by rw [decide_eq_true_eq]; omega
    rw [if_neg he] at eq
    refine Q.seq fun K hK => ?_
    exact SWP.runQ (SLg true [] []) 100 30 hnt [2, 3, 4, 5] (e := .panic (faultV (qF s 1000 0) (qE s 1000 0))) (z := ⟨[(2, .ptr 0 0), (3, .ptr 1 0), (4, .ptr 2 0), (5, .ptr 3 0)], ⟨[⟨[.int .i64 (0 : Int), .int .i64 (0 : Int), .str ⟨#[]⟩, PV.nil], 25⟩, ⟨[.int .i64 (0 : Int), PV.nil], 64⟩, ⟨[.int .i64 (0 : Int)], 3⟩, ⟨[.int .i64 (0 : Int)], 26⟩, ⟨[.str s, .int .i64 (rdF s 1000 (skp s 0))], 87⟩], []⟩⟩) (o := [(true, true), (true, true), (decide (qE s 1000 (Int.toNat (↑0 : Int)) = 0), false), (Nat.ble (ByteArray.size s) 1099511627776, true)]) (by kernel_rfl) (by ((repeat' (first | exact okO_nil | refine okN ?_ ?_)); all_goals first | assumption | rfl | exact same_of rfl | exact sameS_self _ | (simp only [decide_eq_true_eq, decide_eq_false_iff_not, Nat.ble_eq, Nat.beq_eq, beq_eq_false_iff_ne, beq_iff_eq, ne_eq] <;> omega))) (fun st hst => pan st (qF s 1000 0) (qE s 1000 0) _ _ hst eq)
end Seat
end Go.Proofs.YtenpjkcclmmlhaaDoor
namespace Go.Proofs.YtenpjkcclmmlhaaDoor
open Go.AS Go.RowKit
set_option linter.unusedVariables false
set_option linter.unusedSimpArgs false
set_option maxRecDepth 100000
set_option maxHeartbeats 4000000
namespace Seat
def oneR (s : ByteArray) : Nd × Int × Int := if 20000 < s.size then (.zero, 0, 3) else
  if rdE s 1000 (skp s 0) = 0 then (if skp s (rdA s 1000 (skp s 0)) < s.size then (.zero, (skp s (rdA s 1000 (skp s 0)) : Nat), 4) else (rdX s 1000 (skp s 0), 0, 0)) else (.zero, rdF s 1000 (skp s 0), rdE s 1000 (skp s 0))
theorem oneR_eq (s : ByteArray) : oneR s = (if 20000 < s.size then (.zero, 0, 3) else
  if rdE s 1000 (skp s 0) = 0 then (if skp s (rdA s 1000 (skp s 0)) < s.size then (.zero, (skp s (rdA s 1000 (skp s 0)) : Nat), 4) else (rdX s 1000 (skp s 0), 0, 0)) else (.zero, rdF s 1000 (skp s 0), rdE s 1000 (skp s 0)) : Nd × Int × Int) := rfl
end Seat
end Go.Proofs.YtenpjkcclmmlhaaDoor
namespace Go.Proofs.YtenpjkcclmmlhaaDoor
open Go.AS Go.RowKit
set_option linter.unusedVariables false
set_option linter.unusedSimpArgs false
set_option maxRecDepth 100000
set_option maxHeartbeats 4000000
namespace Seat
def onX (s : ByteArray) : Nd := (oneR s).1
def onA (s : ByteArray) : Int := (oneR s).2.1
def onE (s : ByteArray) : Int := (oneR s).2.2
theorem Nds.snoc_ok : ∀ (l : Nds) (x : Nd), l.ok → x.ok → (l.snoc x).ok
  | .nil, x, _, hx => ⟨hx, trivial⟩
  | .cons d ds, x, h, hx => ⟨h.1, Nds.snoc_ok ds x h.2 hx⟩
theorem rdL_ok {f : Nat → Nd × RS} {s : ByteArray} (hf : ∀ a, (f a).1.ok) : ∀ k r l, l.ok → (rdL f s k r l).1.ok
  | 0, r, l, h => h
  | k + 1, r, l, h => by
    rw [rdL]
    split
    · exact rdL_ok hf k _ _ (Nds.snoc_ok l _ h (hf r.a))
    · exact h
theorem rdL_len {f : Nat → Nd × RS} {s : ByteArray} : ∀ k r l, (rdL f s k r l).1.len ≤ l.len + k
  | 0, r, l => Nat.le_refl _
  | k + 1, r, l => by
    rw [rdL]
    split
    · have := rdL_len (f := f) (s := s) k ⟨skp s (f r.a).2.a, (f r.a).2.e, (f r.a).2.b⟩ (l.snoc (f r.a).1)
      rw [Nds.snoc_len] at this
      omega
    · show l.len ≤ _; omega
theorem Nd.zero_ok : Nd.zero.ok := ⟨Nat.zero_le _, trivial⟩
theorem atomR_ok (s : ByteArray) (a : Nat) : (atomR s a).1.ok := by
  unfold atomR
  split
  · exact ⟨Nat.zero_le _, trivial⟩
  · split
    · exact ⟨Nat.zero_le _, trivial⟩
    · exact Nd.zero_ok
theorem rdD_ok (s : ByteArray) (hs : s.size ≤ 1099511627776) : ∀ n a, (rdD s n a).1.ok := by
  intro n
  induction n with
  | zero =>
    intro a
    rw [rdD_eq]
    split
    · exact Nd.zero_ok
    · split
      · exact Nd.zero_ok
      · exact Nd.zero_ok
  | succ n ih =>
    intro a
    rw [rdD_eq]
    split
    · exact Nd.zero_ok
    · split
      · exact Nd.zero_ok
      · simp only []
        split
        · exact Nd.zero_ok
        · split
          · exact atomR_ok s a
          · split
            · exact ⟨by simp [Nds.len], ⟨Nat.zero_le _, trivial⟩, ih _, trivial⟩
            · refine ⟨?_, rdL_ok ih _ _ _ trivial⟩
              have := rdL_len (f := rdD s n) (s := s) (s.size + 1) ⟨skp s (a + 1), 0, 0⟩ .nil
              simp only [Nds.len] at this
              omega
theorem onX_ok (s : ByteArray) : (onX s).ok := by
  unfold onX oneR
  split
  · exact Nd.zero_ok
  · split
    · split
      · exact Nd.zero_ok
      · exact rdD_ok s (by omega) _ _
    · exact Nd.zero_ok
end Seat
end Go.Proofs.YtenpjkcclmmlhaaDoor
namespace Go.Proofs.YtenpjkcclmmlhaaDoor
open Go.AS
set_option linter.unusedVariables false
set_option linter.unusedSimpArgs false
set_option maxRecDepth 10000
namespace Seat
theorem toks_more {s : ByteArray} {x : Nat} (h : x < s.size) (hc : Clean s x) : ∃ t r, toks s x = t :: r := by
  cases hl : letC (bt s (x : Int)) with
  | true => exact ⟨_, _, toks_at_let h hc hl⟩
  | false =>
    obtain ⟨c, _, h2⟩ := toks_at h hc hl
    exact ⟨_, _, h2⟩
end Seat
end Go.Proofs.YtenpjkcclmmlhaaDoor
namespace Go.Proofs.YtenpjkcclmmlhaaDoor
open Go.AS
set_option linter.unusedVariables false
set_option maxRecDepth 100000
namespace Seat
def DecAt (N : Nat) : Prop := ∀ n : Nat, n < N → n < 18446744073709551616 → Pure G0 86 [.int .u64 n] (fun r => r = .str (mkS (Go.Lib.decDigits n)))
def decS (N : Nat) (f : Nat) (args : List PV) : Option (PV × Ob) := match f, args with
  | 86, [.int .u64 z] => some (.str (mkS (Go.Lib.decDigits z.toNat)), [(decide (0 ≤ z ∧ z < (N : Int) ∧ z < 18446744073709551616), true)])
  | _, _ => none
theorem decS_ok {N : Nat} (ih : DecAt N) (f : Nat) (args : List PV) (r : PV) (o : Ob) (h : decS N f args = some (r, o)) (ho : ∀ p ∈ o, p.1 = p.2) (_ : pureL args = true) : Pure G0 f args (fun x => x = r) := by
  unfold decS at h
  split at h
  · rename_i z _
    cases h
    have hz := of_decide_eq_true (ho _ (List.mem_singleton.2 rfl))
    have := ih z.toNat (by omega) (by omega)
    rw [Int.toNat_of_nonneg hz.1] at this
    exact this
  · cases h
noncomputable def SD {N : Nat} (ih : DecAt N) (l : List (Nat × List (Nat × Bool))) : Cfg G0 := { F := F, hF := hF, S := decS N, hS := decS_ok ih, orc := orcM l }
theorem nd_le : ∀ (k u : Nat), u < 10 ^ (k + 1) → Go.Lib.nDigits u ≤ k + 1
  | 0, u, h => by rw [Go.Lib.nDigits_small (by simpa using h)]; exact Nat.le_refl _
  | k + 1, u, h => by
    by_cases hu : u < 10
    · rw [Go.Lib.nDigits_small hu]; omega
    · rw [Go.Lib.nDigits_big hu]
      have := nd_le k (u / 10) (by rw [Nat.pow_succ] at h; omega)
      omega
theorem dec_len (n : Nat) : (Go.Lib.decDigits n).length ≤ n + 1 := by
  induction n using Nat.strongRecOn with
  | _ n ih =>
    rw [Go.Lib.decDigits]
    split
    · simp
    · have := ih (n / 10) (by omega)
      simp only [List.length_append, List.length_cons, List.length_nil]
      omega
theorem byte_mod (m : Nat) (h : m < 10) : UInt8.ofNat (Int.ofNat ((48 + m) % 18446744073709551616 % 256)).toNat = UInt8.ofNat (48 + m) := by
  have h1 : (48 + m) % 18446744073709551616 % 256 = 48 + m := by omega
  rw [h1]; rfl
theorem strOf_byte (m : Nat) (h : m < 10) : strOf [PV.int IntKind.u8 (Int.ofNat ((48 + m) % 18446744073709551616 % 256))] = mkS [UInt8.ofNat (48 + m)] := by
  show mkS [UInt8.ofNat (Int.ofNat ((48 + m) % 18446744073709551616 % 256)).toNat] = _
  rw [byte_mod m h]
theorem decAt (N : Nat) : DecAt N := by
  induction N with
  | zero => intro n h; omega
  | succ N ih =>
    intro n hN hb
    refine Fn.enterB Tryd.func86 Tryd.ntmps86 rfl (Nat.le_of_ble_eq_true rfl) fun C fr fp hnt hnb hp hfr hfp => ?_
    by_cases h10 : n < 10
    · have c : decide ((n : Int) < 10) = true := decide_eq_true (by omega)
      refine SWP.runQ (SD ih [(20, [(4, true)])]) 60 20 hnt [2] (e := .ret) (z := ⟨[(2, .str (strOf [PV.int IntKind.u8 (Int.ofNat ((48 + n) % 18446744073709551616 % 256))]))], ⟨[], []⟩⟩) (o := [(decide ((↑n : Int) < 10), true), (true, true)]) (by kernel_rfl) (by ((repeat' (first | exact okO_nil | refine okN ?_ ?_)); all_goals first | assumption | rfl | exact same_of rfl | exact sameS_self _ | (simp only [decide_eq_true_eq, decide_eq_false_iff_not, Nat.ble_eq, Nat.beq_eq, beq_eq_false_iff_ne, beq_iff_eq, ne_eq] <;> omega))) (fun st hs => hfr st [2] ?_)
      rw [hs]
      refine FinR.pure (r := .str (strOf [PV.int IntKind.u8 (Int.ofNat ((48 + n) % 18446744073709551616 % 256))])) rfl rfl ?_
      rw [Go.Lib.decDigits, dif_pos h10, strOf_byte n h10]
    · have c : decide ((n : Int) < 10) = false := decide_eq_false (by omega)
      have e1 : IntKind.wrap IntKind.u64 (Int.tdiv (n : Int) 10) = ((n / 10 : Nat) : Int) := by
        rw [show Int.tdiv (n : Int) 10 = ((n / 10 : Nat) : Int) from rfl, IntKind.wrap_u64]
        omega
      have e2 : n / 10 % 18446744073709551616 = n / 10 := by omega
      have d1 : decide (0 ≤ IntKind.wrap IntKind.u64 (Int.tdiv (n : Int) 10) ∧ IntKind.wrap IntKind.u64 (Int.tdiv (n : Int) 10) < (N : Int) ∧ IntKind.wrap IntKind.u64 (Int.tdiv (n : Int) 10) < 18446744073709551616) = true := decide_eq_true (by rw [e1]; omega)
      have d2 : Nat.ble (ByteArray.size (mkS (Lib.decDigits (Int.toNat (Int.ofNat (n / 10 % 18446744073709551616))))) + 1) 9223372036854775807 = true := by
        rw [e2, Nat.ble_eq, mkS_size]
        have := dec_len (n / 10)
        rw [show (Int.ofNat (n / 10)).toNat = n / 10 from rfl]
        omega
      refine SWP.runQ (SD ih [(20, [(4, false), (19, true)])]) 60 20 hnt [2] (e := .ret) (z := ⟨[(2, .str (mkS (Lib.decDigits (Int.toNat (Int.ofNat (n / 10 % 18446744073709551616)))) ++ strOf [PV.int IntKind.u8 (Int.ofNat ((48 + n % 10) % 18446744073709551616 % 256))]))], ⟨[], []⟩⟩) (o := [(decide ((↑n : Int) < 10), false), (false, false), (true, true), (decide (0 ≤ IntKind.wrap IntKind.u64 (Int.tdiv (↑n : Int) 10) ∧ IntKind.wrap IntKind.u64 (Int.tdiv (↑n : Int) 10) < (↑N : Int) ∧ IntKind.wrap IntKind.u64 (Int.tdiv (↑n : Int) 10) < 18446744073709551616), true), (Nat.ble (ByteArray.size (mkS (Lib.decDigits (Int.toNat (Int.ofNat (n / 10 % 18446744073709551616))))) + 1) 9223372036854775807, true), (true, true), (decide (0 ≤ IntKind.wrap IntKind.u64 (Int.tdiv (↑n : Int) 10) ∧ IntKind.wrap IntKind.u64 (Int.tdiv (↑n : Int) 10) < (↑N : Int) ∧ IntKind.wrap IntKind.u64 (Int.tdiv (↑n : Int) 10) < 18446744073709551616), true), (Nat.ble (ByteArray.size (mkS (Lib.decDigits (Int.toNat (Int.ofNat (n / 10 % 18446744073709551616))))) + 1) 9223372036854775807, true), (sameS { t := [(10, PV.int IntKind.u64 (Int.ofNat n)), (11, PV.int IntKind.u64 (Int.ofNat (n / 10 % 18446744073709551616))), (12, PV.str (mkS (Lib.decDigits (Int.toNat (Int.ofNat (n / 10 % 18446744073709551616)))))), (13, PV.int IntKind.u64 (Int.ofNat n)), (14, PV.int IntKind.u64 (Int.ofNat (n % 10))), (15, PV.int IntKind.u64 (Int.ofNat ((48 + n % 10) % 18446744073709551616))), (16, PV.int IntKind.u8 (Int.ofNat ((48 + n % 10) % 18446744073709551616 % 256))), (17, PV.slice 1 [PV.int IntKind.u8 (Int.ofNat ((48 + n % 10) % 18446744073709551616 % 256))]), (18, PV.str (strOf [PV.int IntKind.u8 (Int.ofNat ((48 + n % 10) % 18446744073709551616 % 256))])), (19, PV.str (mkS (Lib.decDigits (Int.toNat (Int.ofNat (n / 10 % 18446744073709551616)))) ++ strOf [PV.int IntKind.u8 (Int.ofNat ((48 + n % 10) % 18446744073709551616 % 256))])), (2, PV.str (mkS (Lib.decDigits (Int.toNat (Int.ofNat (n / 10 % 18446744073709551616)))) ++ strOf [PV.int IntKind.u8 (Int.ofNat ((48 + n % 10) % 18446744073709551616 % 256))])), (4, PV.bool false), (4, PV.bool false), (3, PV.int IntKind.u64 (Int.ofNat n)), (2, PV.str (mkS (Lib.decDigits (Int.toNat (Int.ofNat (n / 10 % 18446744073709551616)))) ++ strOf [PV.int IntKind.u8 (Int.ofNat ((48 + n % 10) % 18446744073709551616 % 256))])), (0, PV.int IntKind.u64 (Int.ofNat n))], h := { bx := [], rw := [] } } { t := [(10, PV.int IntKind.u64 (Int.ofNat n)), (11, PV.int IntKind.u64 (Int.ofNat (n / 10 % 18446744073709551616))), (12, PV.str (mkS (Lib.decDigits (Int.toNat (Int.ofNat (n / 10 % 18446744073709551616)))))), (13, PV.int IntKind.u64 (Int.ofNat n)), (14, PV.int IntKind.u64 (Int.ofNat (n % 10))), (15, PV.int IntKind.u64 (Int.ofNat ((48 + n % 10) % 18446744073709551616))), (16, PV.int IntKind.u8 (Int.ofNat ((48 + n % 10) % 18446744073709551616 % 256))), (17, PV.slice 1 [PV.int IntKind.u8 (Int.ofNat ((48 + n % 10) % 18446744073709551616 % 256))]), (18, PV.str (strOf [PV.int IntKind.u8 (Int.ofNat ((48 + n % 10) % 18446744073709551616 % 256))])), (19, PV.str (mkS (Lib.decDigits (Int.toNat (Int.ofNat (n / 10 % 18446744073709551616)))) ++ strOf [PV.int IntKind.u8 (Int.ofNat ((48 + n % 10) % 18446744073709551616 % 256))])), (2, PV.str (mkS (Lib.decDigits (Int.toNat (Int.ofNat (n / 10 % 18446744073709551616)))) ++ strOf [PV.int IntKind.u8 (Int.ofNat ((48 + n % 10) % 18446744073709551616 % 256))])), (4, PV.bool false), (4, PV.bool false), (3, PV.int IntKind.u64 (Int.ofNat n)), (2, PV.str (mkS (Lib.decDigits (Int.toNat (Int.ofNat (n / 10 % 18446744073709551616)))) ++ strOf [PV.int IntKind.u8 (Int.ofNat ((48 + n % 10) % 18446744073709551616 % 256))])), (0, PV.int IntKind.u64 (Int.ofNat n))], h := { bx := [], rw := [] } }, true)]) (by kernel_rfl) (by ((repeat' (first | exact okO_nil | refine okN ?_ ?_)); all_goals first | assumption | rfl | exact same_of rfl | exact sameS_self _ | (simp only [decide_eq_true_eq, decide_eq_false_iff_not, Nat.ble_eq, Nat.beq_eq, beq_eq_false_iff_ne, beq_iff_eq, ne_eq] <;> omega))) (fun st hs => hfr st [2] ?_)
      rw [hs]
      have key : mkS (Lib.decDigits (Int.toNat (Int.ofNat (n / 10 % 18446744073709551616)))) ++ strOf [PV.int IntKind.u8 (Int.ofNat ((48 + n % 10) % 18446744073709551616 % 256))] = mkS (Lib.decDigits n) := by
        rw [strOf_byte (n % 10) (by omega), mkS_append, e2]
        conv => rhs; rw [Go.Lib.decDigits, dif_neg h10]
        rfl
      exact FinR.pure rfl rfl (congrArg PV.str key)
theorem dec_ref (n : Int) (h0 : -9223372036854775808 ≤ n) (h1 : n ≤ 9223372036854775807) : Pure G0 66 [.int .i64 n] (fun r => r = .str (mkS (Go.Lib.itoa n))) := by
  have ih := decAt 18446744073709551616
  refine Fn.enterB Tryd.func66 Tryd.ntmps66 rfl (Nat.le_of_ble_eq_true rfl) fun C fr fp hnt hnb hp hfr hfp => ?_
  by_cases hn : n < 0
  · have c : decide (n < 0) = true := decide_eq_true hn
    have e1 : IntKind.wrap IntKind.u64 (0 - IntKind.wrap IntKind.u64 n) = -n := by
      rw [IntKind.wrap_u64, IntKind.wrap_u64]
      omega
    have d1 : decide (0 ≤ IntKind.wrap IntKind.u64 (0 - IntKind.wrap IntKind.u64 n) ∧ IntKind.wrap IntKind.u64 (0 - IntKind.wrap IntKind.u64 n) < ((18446744073709551616 : Nat) : Int) ∧ IntKind.wrap IntKind.u64 (0 - IntKind.wrap IntKind.u64 n) < 18446744073709551616) = true := decide_eq_true (by rw [e1]; omega)
    have d2 : Nat.ble (1 + ByteArray.size (mkS (Lib.decDigits (Int.toNat (IntKind.wrap IntKind.u64 ((0 : Int) - IntKind.wrap IntKind.u64 n)))))) 9223372036854775807 = true := by
      rw [e1, Nat.ble_eq, mkS_size, Go.Lib.decDigits_length]
      have := nd_le 19 (-n).toNat (by omega)
      omega
    refine SWP.runQ (SD ih [(13, [(4, true), (9, true)])]) 60 13 hnt [2] (e := .ret) (z := ⟨[(2, .str (⟨#[45]⟩ ++ mkS (Lib.decDigits (Int.toNat (IntKind.wrap IntKind.u64 ((0 : Int) - IntKind.wrap IntKind.u64 n))))))], ⟨[], []⟩⟩) (o := [(decide (n < 0), true), (true, true), (true, true), (decide (0 ≤ IntKind.wrap IntKind.u64 (0 - IntKind.wrap IntKind.u64 n) ∧ IntKind.wrap IntKind.u64 (0 - IntKind.wrap IntKind.u64 n) < ((18446744073709551616 : Nat) : Int) ∧ IntKind.wrap IntKind.u64 (0 - IntKind.wrap IntKind.u64 n) < 18446744073709551616), true), (Nat.ble (1 + ByteArray.size (mkS (Lib.decDigits (Int.toNat (IntKind.wrap IntKind.u64 ((0 : Int) - IntKind.wrap IntKind.u64 n)))))) 9223372036854775807, true)]) (by kernel_rfl) (by ((repeat' (first | exact okO_nil | refine okN ?_ ?_)); all_goals first | assumption | rfl | exact same_of rfl | exact sameS_self _ | (simp only [decide_eq_true_eq, decide_eq_false_iff_not, Nat.ble_eq, Nat.beq_eq, beq_eq_false_iff_ne, beq_iff_eq, ne_eq] <;> omega))) (fun st hs => hfr st [2] ?_)
    rw [hs]
    refine FinR.pure rfl rfl ?_
    rw [e1, Go.Lib.itoa, if_pos hn]
    have : (-n).toNat = n.natAbs := by omega
    rw [this]
    exact congrArg PV.str (mkS_append [45] _)
  · have c : decide (n < 0) = false := decide_eq_false hn
    have e1 : IntKind.wrap IntKind.u64 n = n := by rw [IntKind.wrap_u64]; omega
    have d1 : decide (0 ≤ IntKind.wrap IntKind.u64 n ∧ IntKind.wrap IntKind.u64 n < ((18446744073709551616 : Nat) : Int) ∧ IntKind.wrap IntKind.u64 n < 18446744073709551616) = true := decide_eq_true (by rw [e1]; omega)
    refine SWP.runQ (SD ih [(13, [(4, false), (9, true)])]) 60 13 hnt [2] (e := .ret) (z := ⟨[(2, .str (mkS (Lib.decDigits (Int.toNat (IntKind.wrap IntKind.u64 n)))))], ⟨[], []⟩⟩) (o := [(decide (n < 0), false), (false, false), (true, true), (decide (0 ≤ IntKind.wrap IntKind.u64 n ∧ IntKind.wrap IntKind.u64 n < ((18446744073709551616 : Nat) : Int) ∧ IntKind.wrap IntKind.u64 n < 18446744073709551616), true)]) (by kernel_rfl) (by ((repeat' (first | exact okO_nil | refine okN ?_ ?_)); all_goals first | assumption | rfl | exact same_of rfl | exact sameS_self _ | (simp only [decide_eq_true_eq, decide_eq_false_iff_not, Nat.ble_eq, Nat.beq_eq, beq_eq_false_iff_ne, beq_iff_eq, ne_eq] <;> omega))) (fun st hs => hfr st [2] ?_)
    rw [hs]
    refine FinR.pure rfl rfl ?_
    rw [e1, Go.Lib.itoa, if_neg hn]
    rfl
end Seat
end Go.Proofs.YtenpjkcclmmlhaaDoor
namespace Go.Proofs.YtenpjkcclmmlhaaDoor
open Go.AS Go.RowKit
set_option linter.unusedVariables false
set_option linter.unusedSimpArgs false
set_option maxRecDepth 100000
namespace Seat
mutual
def textD : Dat → List UInt8
  | .mk k n s ks => if k = 1 then Go.Lib.itoa n else if k = 2 then s.data.toList else 40 :: (textL true ks ++ [41])
def textL : Bool → Dats → List UInt8
  | _, .nil => []
  | f, .cons d ds => (if f then [] else [32]) ++ (textD d ++ textL false ds)
end
theorem textL_take : ∀ (ks : Dats) (f : Bool) (j : Nat), j < ks.len → textL f (ks.take (j + 1)) = textL f (ks.take j) ++ ((if j = 0 ∧ f = true then [] else [32]) ++ textD (ks.get j))
  | .nil, f, j, h => by simp [Dats.len] at h
  | .cons d ds, f, 0, h => by cases f <;> simp [Dats.take, textL, Dats.get]
  | .cons d ds, f, j + 1, h => by
    have := textL_take ds false j (by simp only [Dats.len] at h; omega)
    simp only [Dats.take, textL, this, Dats.get]
    simp
theorem take_all : ∀ ks : Dats, ks.take ks.len = ks
  | .nil => rfl
  | .cons d ds => by simp only [Dats.len, Dats.take, take_all ds]
theorem textL_mono (ks : Dats) (f : Bool) (j : Nat) (h : j ≤ ks.len) : (textL f (ks.take j)).length ≤ (textL f ks).length := by
  have key : ∀ i, j + i ≤ ks.len → (textL f (ks.take j)).length ≤ (textL f (ks.take (j + i))).length := by
    intro i
    induction i with
    | zero => intro _; exact Nat.le_refl _
    | succ i ih =>
      intro hi
      have h1 := ih (by omega)
      have h2 := textL_take ks f (j + i) (by omega)
      rw [show j + (i + 1) = j + i + 1 from rfl, h2, List.length_append]
      omega
  have := key (ks.len - j) (by omega)
  rwa [show j + (ks.len - j) = ks.len by omega, take_all] at this
noncomputable def txC (cs : List PV) : List UInt8 := ofCells textD [] cs
theorem txC_at (d : Dat) : txC d.cells = textD d := ofCells_at _ _ d
open Classical in
noncomputable def isTx (N : Nat) (cs : List PV) : Bool := decide (∃ d : Dat, d.cells = cs ∧ d.size < N ∧ d.ok ∧ d.rng)
theorem isTx_at {N : Nat} {d : Dat} (h : d.size < N) (ho : d.ok) (hr : d.rng) : isTx N d.cells = true := by
  unfold isTx
  classical exact decide_eq_true ⟨d, rfl, h, ho, hr⟩
theorem isTx_of {N : Nat} {cs : List PV} (h : isTx N cs = true) : ∃ d : Dat, d.cells = cs ∧ d.size < N ∧ d.ok ∧ d.rng := by
  unfold isTx at h
  classical exact of_decide_eq_true h
def bR (rc : List PV) (m : Nat) : Row := ⟨rc, m, 5, 1⟩
def bB (n : Nat) : Box := ⟨[.ptr 0 0, .own 0 n], 84⟩
def bB0 : Box := ⟨[.nilptr, .nil], 84⟩
def PutAt (N : Nat) : Prop := ∀ d : Dat, d.size < N → d.ok → d.rng → ∀ (rc : List PV) (m : Nat), m + (textD d).length ≤ 140737488355328 →
  RCalls G0 64 [.ptr 0 0, .agg d.cells] ⟨[bB m], [some (bR rc m)]⟩ (fun o H => o = .ret (.tup []) ∧ H = ⟨[bB (m + (textD d).length)], [some (bR (rc ++ bytesPL (textD d)) (m + (textD d).length))]⟩)
noncomputable def putV (N : Nat) (f : Nat) (xs : List PV) (H : Hp) : Option (PV × Hp × Ob) := match f, xs, H with
  | 64, [.ptr 0 0, .agg cs], ⟨[⟨[.ptr 0 0, .own 0 n], ty⟩], [some ⟨rc, m, e, 1⟩]⟩ => match Nat.beq ty 84 && Nat.beq e 5 with
    | true => some (.tup [], ⟨[⟨[.ptr 0 0, .own 0 (m + (txC cs).length)], ty⟩], [some ⟨rc ++ bytesPL (txC cs), m + (txC cs).length, e, 1⟩]⟩, [(isTx N cs, true), (Nat.beq n m, true), (Nat.ble (m + (txC cs).length) 140737488355328, true)])
    | false => none
  | _, _, _ => none
noncomputable def putV2 (N : Nat) (f : Nat) (xs : List PV) (H : Hp) : Option (PV × Hp × Ob) := match putV N f xs H with
  | some r => some r
  | none => ccV f xs H
theorem putV_ok {N : Nat} (ih : PutAt N) (f : Nat) (xs : List PV) (H : Hp) (r : PV) (H' : Hp) (o : Ob) (h : putV N f xs H = some (r, H', o)) (ho : ∀ p ∈ o, p.1 = p.2) : RCalls G0 f xs H (fun o' H2 => o' = .ret r ∧ H2 = H') ∧ r.scP (belowN H'.bx.length) (belowN H'.rw.length) = true ∧ H'.scB H'.bx.length H'.rw.length = true := by
  unfold putV at h
  split at h
  · rename_i cs n ty rc m e
    split at h
    · rename_i hc
      cases h
      simp only [Bool.and_eq_true, Nat.beq_eq] at hc
      obtain ⟨rfl, rfl⟩ := hc
      obtain ⟨d, rfl, h1, h2, h3⟩ := isTx_of (ho (isTx N cs, true) (by simp))
      have h4 := ho (Nat.beq n m, true) (by simp)
      have h5 := ho (Nat.ble (m + (txC d.cells).length) 140737488355328, true) (by simp)
      simp only [Nat.beq_eq, Nat.ble_eq] at h4 h5
      subst h4
      rw [txC_at] at h5 ⊢
      exact ⟨ih d h1 h2 h3 rc n h5, rfl, rfl⟩
    · cases h
  · cases h
theorem putV2_ok {N : Nat} (ih : PutAt N) (f : Nat) (xs : List PV) (H : Hp) (r : PV) (H' : Hp) (o : Ob) (h : putV2 N f xs H = some (r, H', o)) (ho : ∀ p ∈ o, p.1 = p.2) : RCalls G0 f xs H (fun o' H2 => o' = .ret r ∧ H2 = H') ∧ r.scP (belowN H'.bx.length) (belowN H'.rw.length) = true ∧ H'.scB H'.bx.length H'.rw.length = true := by
  unfold putV2 at h
  split at h
  · rename_i x hx
    cases h
    exact putV_ok ih f xs H r H' o hx ho
  · exact ccV_ok f xs H r H' o h ho
def fmtS (f : Nat) (args : List PV) : Option (PV × Ob) := match f, args with
  | 85, [.int .i64 n, .int .i64 10] => some (.str (mkS (Go.Lib.itoa n)), [(decide (-9223372036854775808 ≤ n ∧ n ≤ 9223372036854775807), true)])
  | 66, [.int .i64 n] => some (.str (mkS (Go.Lib.itoa n)), [(decide (-9223372036854775808 ≤ n ∧ n ≤ 9223372036854775807), true)])
  | _, _ => none
theorem fmtS_ok (f : Nat) (args : List PV) (r : PV) (o : Ob) (h : fmtS f args = some (r, o)) (ho : ∀ p ∈ o, p.1 = p.2) (_ : pureL args = true) : Pure G0 f args (fun x => x = r) := by
  unfold fmtS at h
  split at h
  · rename_i n _
    cases h
    have := of_decide_eq_true (ho _ (List.mem_singleton.2 rfl))
    exact formatInt n this.1 this.2
  · rename_i n _
    cases h
    have := of_decide_eq_true (ho _ (List.mem_singleton.2 rfl))
    exact dec_ref n this.1 this.2
  · cases h
noncomputable def SP {N : Nat} (ih : PutAt N) (l : List (Nat × List (Nat × Bool))) (v : List (Nat × List (Nat × PV))) : Cfg G0 := { F := F, hF := hF, S := fmtS, hS := fmtS_ok, V := putV2 N, hV := putV2_ok ih, hp := hpB, D := hpB, orc := orcM l, val := valM v }
def BSt (B : Box) (rws : List (Option Row)) (rc : List PV) (m : Nat) : Prop := (B = bB m ∧ rws = [some (bR rc m)]) ∨ (B = bB0 ∧ rws = [] ∧ rc = [] ∧ m = 0)
def DB (k n : Int) (s : ByteArray) (ks : Dats) : Box := ⟨[.int .i64 k, .int .i64 n, .str s, .slice ks.len ks.cells], 25⟩
theorem put_gen {N : Nat} (ih : PutAt N) (d : Dat) (hN : d.size < N + 1) (hok : d.ok) (hrng : d.rng) (B : Box) (rws : List (Option Row)) (rc : List PV) (m : Nat) (hB : BSt B rws rc m) (hm : m + (textD d).length ≤ 140737488355328) :
    RCalls G0 64 [.ptr 0 0, .agg d.cells] ⟨[B], rws⟩ (fun o H => o = .ret (.tup []) ∧ H = ⟨[bB (m + (textD d).length)], [some (bR (rc ++ bytesPL (textD d)) (m + (textD d).length))]⟩) := by
  obtain ⟨k, n, s, ks⟩ := d
  have hlen := hok.1
  refine Fn.enterH Tryd.func64 Tryd.ntmps64 rfl (Nat.le_of_ble_eq_true rfl) fun C fr fp hnt hnb hfr => ?_
  have fin : ∀ st l, l = textD (.mk k n s ks) → nrm [0] st = ⟨[(0, .ptr 0 0)], ⟨[bB (m + l.length), DB k n s ks], [some (bR (rc ++ bytesPL l) (m + l.length))]⟩⟩ → fr st := fun st l hl hs => hfr st [0] (by
    rw [hs, ← hl]
    rcases hB with ⟨rfl, rfl⟩ | ⟨rfl, rfl, _, _⟩
    · exact ⟨1, 1, .tup [], Nat.le_refl _, Nat.le_succ _, Nat.le_refl _, Nat.le_refl _, rfl, rfl, rfl, rfl, rfl⟩
    · exact ⟨1, 1, .tup [], Nat.le_refl _, Nat.le_succ _, Nat.zero_le _, Nat.le_refl _, rfl, rfl, rfl, rfl, rfl⟩)
  by_cases h1 : k = 1
  · have c1 : (k == (1 : Int)) = true := by simpa using h1
    have c2 : decide (-9223372036854775808 ≤ n ∧ n ≤ 9223372036854775807) = true := decide_eq_true hrng.1
    have ht : textD (.mk k n s ks) = Go.Lib.itoa n := by rw [textD, if_pos h1]
    rw [ht] at hm
    have c3 : Nat.ble (m + ByteArray.size (mkS (Lib.itoa n))) 140737488355328 = true := by rw [Nat.ble_eq, mkS_size]; exact hm
    rcases hB with ⟨rfl, rfl⟩ | ⟨rfl, rfl, rfl, rfl⟩
    · exact SWP.runQ (SP ih [(41, [(29, true)]), (19, [(14, true)])] []) 100 41 hnt [0] (e := .normal) (z := ⟨[(0, .ptr 0 0)], ⟨[⟨[.ptr 0 0, .own 0 (m + ByteArray.size (mkS (Lib.itoa n)))], 84⟩, ⟨[.int .i64 k, .int .i64 n, .str s, .slice (Dats.len ks) (Dats.cells ks)], 25⟩], [some ⟨rc ++ bytesPV (mkS (Lib.itoa n)), m + ByteArray.size (mkS (Lib.itoa n)), 5, 1⟩]⟩⟩) (o := [(k == (1 : Int), true), (true, true), (decide (-9223372036854775808 ≤ n ∧ n ≤ 9223372036854775807), true), (Nat.ble (m + ByteArray.size (mkS (Lib.itoa n))) 140737488355328, true)]) (by kernel_rfl) (by ((repeat' (first | exact okO_nil | refine okN ?_ ?_)); all_goals first | assumption | rfl | exact same_of rfl | exact sameS_self _ | (simp only [decide_eq_true_eq, decide_eq_false_iff_not, Nat.ble_eq, Nat.beq_eq, beq_eq_false_iff_ne, beq_iff_eq, ne_eq] <;> omega))) (fun st hs => fin st _ ht.symm hs)
    · exact SWP.runQ (SP ih [(41, [(29, true)]), (19, [(14, true)])] []) 100 41 hnt [0] (e := .normal) (z := ⟨[(0, .ptr 0 0)], ⟨[⟨[.ptr 0 0, .own 0 (0 + ByteArray.size (mkS (Lib.itoa n)))], 84⟩, ⟨[.int .i64 k, .int .i64 n, .str s, .slice (Dats.len ks) (Dats.cells ks)], 25⟩], [some ⟨[] ++ bytesPV (mkS (Lib.itoa n)), 0 + ByteArray.size (mkS (Lib.itoa n)), 5, 1⟩]⟩⟩) (o := [(k == (1 : Int), true), (true, true), (decide (-9223372036854775808 ≤ n ∧ n ≤ 9223372036854775807), true), (Nat.ble (0 + ByteArray.size (mkS (Lib.itoa n))) 140737488355328, true)]) (by kernel_rfl) (by ((repeat' (first | exact okO_nil | refine okN ?_ ?_)); all_goals first | assumption | rfl | exact same_of rfl | exact sameS_self _ | (simp only [decide_eq_true_eq, decide_eq_false_iff_not, Nat.ble_eq, Nat.beq_eq, beq_eq_false_iff_ne, beq_iff_eq, ne_eq] <;> omega))) (fun st hs => fin st _ ht.symm hs)
  by_cases h2 : k = 2
  · have c1 : (k == (1 : Int)) = false := by simpa using h1
    have c2 : (k == (2 : Int)) = true := by simpa using h2
    have ht : textD (.mk k n s ks) = s.data.toList := by rw [textD, if_neg h1, if_pos h2]
    rw [ht] at hm
    have c3 : Nat.ble (m + ByteArray.size s) 140737488355328 = true := by rw [Nat.ble_eq]; exact hm
    rcases hB with ⟨rfl, rfl⟩ | ⟨rfl, rfl, rfl, rfl⟩
    · exact SWP.runQ (SP ih [(41, [(29, false), (36, true)]), (19, [(14, true)])] []) 100 41 hnt [0] (e := .normal) (z := ⟨[(0, .ptr 0 0)], ⟨[⟨[.ptr 0 0, .own 0 (m + ByteArray.size s)], 84⟩, ⟨[.int .i64 k, .int .i64 n, .str s, .slice (Dats.len ks) (Dats.cells ks)], 25⟩], [some ⟨rc ++ bytesPV s, m + ByteArray.size s, 5, 1⟩]⟩⟩) (o := [(k == (1 : Int), false), (k == (2 : Int), true), (Nat.ble (m + ByteArray.size s) 140737488355328, true)]) (by kernel_rfl) (by ((repeat' (first | exact okO_nil | refine okN ?_ ?_)); all_goals first | assumption | rfl | exact same_of rfl | exact sameS_self _ | (simp only [decide_eq_true_eq, decide_eq_false_iff_not, Nat.ble_eq, Nat.beq_eq, beq_eq_false_iff_ne, beq_iff_eq, ne_eq] <;> omega))) (fun st hs => fin st _ ht.symm hs)
    · exact SWP.runQ (SP ih [(41, [(29, false), (36, true)]), (19, [(14, true)])] []) 100 41 hnt [0] (e := .normal) (z := ⟨[(0, .ptr 0 0)], ⟨[⟨[.ptr 0 0, .own 0 (0 + ByteArray.size s)], 84⟩, ⟨[.int .i64 k, .int .i64 n, .str s, .slice (Dats.len ks) (Dats.cells ks)], 25⟩], [some ⟨[] ++ bytesPV s, 0 + ByteArray.size s, 5, 1⟩]⟩⟩) (o := [(k == (1 : Int), false), (k == (2 : Int), true), (Nat.ble (0 + ByteArray.size s) 140737488355328, true)]) (by kernel_rfl) (by ((repeat' (first | exact okO_nil | refine okN ?_ ?_)); all_goals first | assumption | rfl | exact same_of rfl | exact sameS_self _ | (simp only [decide_eq_true_eq, decide_eq_false_iff_not, Nat.ble_eq, Nat.beq_eq, beq_eq_false_iff_ne, beq_iff_eq, ne_eq] <;> omega))) (fun st hs => fin st _ ht.symm hs)
  have ht : textD (.mk k n s ks) = 40 :: (textL true ks ++ [41]) := by rw [textD, if_neg h1, if_neg h2]
  have htl : (textD (.mk k n s ks)).length = (textL true ks).length + 2 := by rw [ht]; simp
  rw [htl] at hm
  have c1 : (k == (1 : Int)) = false := by simpa using h1
  have c2 : (k == (2 : Int)) = false := by simpa using h2
  have hks : ks.size < N + 1 := by simp only [Dat.size] at hN; omega
  refine Q.runSeq S0 50 41 hnt [0, 3] (z := ⟨[(0, .ptr 0 0), (3, .ptr 1 0)], ⟨[B, DB k n s ks], rws⟩⟩) (o := []) (by kernel_rfl) okO_nil ?_
  refine Q.runSeq S0 50 41 hnt [0, 3, 7] (z := ⟨[(0, .ptr 0 0), (3, .ptr 1 0), (7, .int .i64 k)], ⟨[B, DB k n s ks], rws⟩⟩) (o := []) (by kernel_rfl) okO_nil ?_
  refine Q.block ?_
  refine Q.runSeq (SP ih [(41, [(29, false)])] []) 50 41 hnt [0, 3, 7, 28] (z := ⟨[(0, .ptr 0 0), (3, .ptr 1 0), (7, .int .i64 k), (28, .bool false)], ⟨[B, DB k n s ks], rws⟩⟩) (o := [(k == (1 : Int), false)]) (by kernel_rfl) (by ((repeat' (first | exact okO_nil | refine okN ?_ ?_)); all_goals first | assumption | rfl | exact same_of rfl | exact sameS_self _ | (simp only [decide_eq_true_eq, decide_eq_false_iff_not, Nat.ble_eq, Nat.beq_eq, beq_eq_false_iff_ne, beq_iff_eq, ne_eq] <;> omega))) ?_
  refine Q.cond (b := false) rfl (fun h => by cases h) (fun _ => ?_)
  refine Q.runSeq (SP ih [(41, [(36, false)])] []) 50 41 hnt [0, 3, 35] (z := ⟨[(0, .ptr 0 0), (3, .ptr 1 0), (35, .bool false)], ⟨[B, DB k n s ks], rws⟩⟩) (o := [(k == (2 : Int), false)]) (by kernel_rfl) (by ((repeat' (first | exact okO_nil | refine okN ?_ ?_)); all_goals first | assumption | rfl | exact same_of rfl | exact sameS_self _ | (simp only [decide_eq_true_eq, decide_eq_false_iff_not, Nat.ble_eq, Nat.beq_eq, beq_eq_false_iff_ne, beq_iff_eq, ne_eq] <;> omega))) ?_
  refine Q.cond (b := false) rfl (fun h => by cases h) (fun _ => ?_)
  refine Q.seq fun K hK => ?_
  have rest : ∀ st, nrm [0, 3] st = ⟨[(0, .ptr 0 0), (3, .ptr 1 0)], ⟨[bB (m + 1), DB k n s ks], [some (bR (rc ++ [.int .u8 40]) (m + 1))]⟩⟩ → K st := fun st hs => hK st (.norm [0, 3] (by
    rw [hs]
    clear hs hK
    let P (j : Nat) : List UInt8 := 40 :: textL true (ks.take j)
    have hP : ∀ j, j ≤ ks.len → (P j).length ≤ (textL true ks).length + 1 := fun j hj => by
      have := textL_mono ks true j hj
      simp only [P, List.length_cons]
      omega
    let T (j : Nat) : AS := ⟨[(0, .ptr 0 0), (3, .ptr 1 0), (11, .slice ks.len ks.cells), (12, .int .i64 ks.len), (13, .int .i64 j)], ⟨[bB (m + (P j).length), DB k n s ks], [some (bR (rc ++ bytesPL (P j)) (m + (P j).length))]⟩⟩
    refine Q.seq fun K2 hK2 => ?_
    have h0 : bytesPL (P 0) = [.int .u8 40] := by
      have : P 0 = [40] := by simp only [P]; cases ks <;> rfl
      rw [this]; rfl
    have hP0 : (P 0).length = 1 := by
      have : P 0 = [40] := by simp only [P]; cases ks <;> rfl
      rw [this]; rfl
    refine Q.runSeq S0 50 41 hnt [0, 3, 11, 12, 13] (z := T 0) (o := []) (by simp only [T, hP0, h0]; kernel_rfl) okO_nil ?_
    refine Q.block ?_
    refine Q.loopH (σ := { j : Nat // j ≤ ks.len }) [0, 3, 11, 12, 13] 2 (by rw [hnb]; exact (by decide : 1 ≤ 2)) (fun j => T j.1) (fun j => ks.len - j.1) ⟨0, Nat.zero_le _⟩ (fun j => ⟨rfl, rfl, rfl⟩) ⟨[], by simp only [List.append_nil]; rfl⟩ fun ⟨j, hj⟩ => ?_
    rcases Nat.lt_or_ge j ks.len with hlt | hge
    · obtain ⟨k', n', s', ks', hget⟩ := Dats.get_mk ks j
      have hsz := Dats.get_size ks j hlt
      have hoj := Dats.get_ok ks j hlt hok.2
      have hrj := Dats.get_rng ks j hlt hrng.2
      have htk := textL_take ks true j hlt
      have hPj := hP (j + 1) hlt
      rw [hget] at hsz hoj hrj htk
      have tx : txC [PV.int IntKind.i64 k', PV.int IntKind.i64 n', PV.str s', PV.slice (Dats.len ks') (Dats.cells ks')] = textD (.mk k' n' s' ks') := txC_at (.mk k' n' s' ks')
      have d1 : isTx N [PV.int IntKind.i64 k', PV.int IntKind.i64 n', PV.str s', PV.slice (Dats.len ks') (Dats.cells ks')] = true := isTx_at (d := .mk k' n' s' ks') (by omega) hoj hrj
      have d2 := lt_at hlt
      have d3 := in_at hlt
      have d4 : decide (TD.size d25 ≤ List.length (List.drop (Int.toNat (j : Int) * TD.size d25) (Dats.cells ks))) = true := kid_len hlt
      have d5 := kid_same' hlt hget
      have wj := wrap1 j (by omega)
      obtain ⟨rcj, hrc⟩ : ∃ x, x = rc ++ bytesPL (P j) := ⟨_, rfl⟩
      obtain ⟨mj, hmj⟩ : ∃ x, x = m + (P j).length := ⟨_, rfl⟩
      show SWP G0 C _ _ ⟨[(0, .ptr 0 0), (3, .ptr 1 0), (11, .slice ks.len ks.cells), (12, .int .i64 ks.len), (13, .int .i64 j)], ⟨[bB (m + (P j).length), DB k n s ks], [some (bR (rc ++ bytesPL (P j)) (m + (P j).length))]⟩⟩
      rw [← hrc, ← hmj]
      by_cases hj0 : j = 0
      · have hPs : P (j + 1) = P j ++ textD (.mk k' n' s' ks') := by
          simp only [P, htk]
          rw [if_pos ⟨hj0, trivial⟩]; rfl
        have d6 : decide (0 < (j : Int)) = false := by simp [hj0]
        rw [hPs, List.length_append] at hPj
        have d7 : Nat.ble (mj + List.length (txC [PV.int IntKind.i64 k', PV.int IntKind.i64 n', PV.str s', PV.slice (Dats.len ks') (Dats.cells ks')])) 140737488355328 = true := by rw [tx, Nat.ble_eq]; omega
        refine SWP.runQ (SP ih [(41, [(14, true), (16, true), (17, true), (19, false)]), (17, [(14, true)])] [(41, [(17, .agg [.int .i64 k', .int .i64 n', .str s', .slice ks'.len ks'.cells])])]) 100 41 hnt [0, 3, 11, 12, 13] (e := .normal) (z := ⟨[(0, .ptr 0 0), (3, .ptr 1 0), (11, .slice (Dats.len ks) (Dats.cells ks)), (12, .int .i64 (Int.ofNat (Dats.len ks))), (13, .int .i64 (IntKind.wrap IntKind.i64 (Int.ofNat (j + 1))))], ⟨[⟨[.ptr 0 0, .own 0 (mj + List.length (txC [.int .i64 k', .int .i64 n', .str s', .slice (Dats.len ks') (Dats.cells ks')]))], 84⟩, ⟨[.int .i64 k, .int .i64 n, .str s, .slice (Dats.len ks) (Dats.cells ks)], 25⟩, ⟨[.int .i64 k', .int .i64 n', .str s', .slice (Dats.len ks') (Dats.cells ks')], 25⟩], [some ⟨rcj ++ bytesPL (txC [.int .i64 k', .int .i64 n', .str s', .slice (Dats.len ks') (Dats.cells ks')]), mj + List.length (txC [.int .i64 k', .int .i64 n', .str s', .slice (Dats.len ks') (Dats.cells ks')]), 5, 1⟩]⟩⟩) (o := [(decide ((↑j : Int) < (↑(Dats.len ks) : Int)), true), (true, true), (decide (0 ≤ (↑j : Int) ∧ (↑j : Int) < (↑(Dats.len ks) : Int)), true), (decide (TD.size d24 ≤ List.length (List.drop (Int.toNat (↑j : Int) * TD.size d24) (Dats.cells ks))), true), (same (PV.agg (List.take 4 (List.drop (Int.toNat (Int.ofNat j) * 4) (Dats.cells ks)))) (PV.agg [PV.int IntKind.i64 k', PV.int IntKind.i64 n', PV.str s', PV.slice (Dats.len ks') (Dats.cells ks')]), true), (decide (0 < (↑j : Int)), false), (false, false), (isTx N [PV.int IntKind.i64 k', PV.int IntKind.i64 n', PV.str s', PV.slice (Dats.len ks') (Dats.cells ks')], true), (Nat.beq mj mj, true), (Nat.ble (mj + List.length (txC [PV.int IntKind.i64 k', PV.int IntKind.i64 n', PV.str s', PV.slice (Dats.len ks') (Dats.cells ks')])) 140737488355328, true)]) (by kernel_rfl) (by ((repeat' (first | exact okO_nil | refine okN ?_ ?_)); all_goals first | assumption | rfl | exact same_of rfl | exact sameS_self _ | (simp only [decide_eq_true_eq, decide_eq_false_iff_not, Nat.ble_eq, Nat.beq_eq, beq_eq_false_iff_ne, beq_iff_eq, ne_eq] <;> omega))) (fun st hs => ⟨⟨j + 1, hlt⟩, Nat.sub_lt_sub_left hlt (Nat.lt_succ_self j), [DB k' n' s' ks'], ?_⟩)
        rw [hs, tx, hrc, hmj]
        simp only [T, hPs, bytesPL_append, List.length_append]
        rw [show IntKind.wrap IntKind.i64 (Int.ofNat (j + 1)) = ((j + 1 : Nat) : Int) from wj, List.append_assoc, Nat.add_assoc]
        rfl
      · have hPs : P (j + 1) = P j ++ [32] ++ textD (.mk k' n' s' ks') := by
          simp only [P, htk]
          rw [if_neg (fun h => hj0 h.1)]
          simp
        have d6 : decide (0 < (j : Int)) = true := by simp; omega
        rw [hPs, List.length_append, List.length_append] at hPj
        simp only [List.length_cons, List.length_nil] at hPj
        have d7 : Nat.ble (mj + 1 + List.length (txC [PV.int IntKind.i64 k', PV.int IntKind.i64 n', PV.str s', PV.slice (Dats.len ks') (Dats.cells ks')])) 140737488355328 = true := by rw [tx, Nat.ble_eq]; omega
        have d8 : Nat.ble ((mj + 1) * 1) 140737488355328 = true := by rw [Nat.ble_eq]; omega
        have d9 : Nat.ble (mj + 1) 9223372036854775807 = true := by rw [Nat.ble_eq]; omega
        refine SWP.runQ (SP ih [(41, [(14, true), (16, true), (17, true), (19, true)]), (17, [(14, true)])] [(41, [(17, .agg [.int .i64 k', .int .i64 n', .str s', .slice ks'.len ks'.cells])])]) 100 41 hnt [0, 3, 11, 12, 13] (e := .normal) (z := ⟨[(0, .ptr 0 0), (3, .ptr 1 0), (11, .slice (Dats.len ks) (Dats.cells ks)), (12, .int .i64 (Int.ofNat (Dats.len ks))), (13, .int .i64 (IntKind.wrap IntKind.i64 (Int.ofNat (j + 1))))], ⟨[⟨[.ptr 0 0, .own 0 (mj + 1 + List.length (txC [.int .i64 k', .int .i64 n', .str s', .slice (Dats.len ks') (Dats.cells ks')]))], 84⟩, ⟨[.int .i64 k, .int .i64 n, .str s, .slice (Dats.len ks) (Dats.cells ks)], 25⟩, ⟨[.int .i64 k', .int .i64 n', .str s', .slice (Dats.len ks') (Dats.cells ks')], 25⟩], [some ⟨rcj ++ [PV.int IntKind.u8 (32 : Int)] ++ bytesPL (txC [.int .i64 k', .int .i64 n', .str s', .slice (Dats.len ks') (Dats.cells ks')]), mj + 1 + List.length (txC [.int .i64 k', .int .i64 n', .str s', .slice (Dats.len ks') (Dats.cells ks')]), 5, 1⟩]⟩⟩) (o := [(decide ((↑j : Int) < (↑(Dats.len ks) : Int)), true), (true, true), (decide (0 ≤ (↑j : Int) ∧ (↑j : Int) < (↑(Dats.len ks) : Int)), true), (decide (TD.size d24 ≤ List.length (List.drop (Int.toNat (↑j : Int) * TD.size d24) (Dats.cells ks))), true), (same (PV.agg (List.take 4 (List.drop (Int.toNat (Int.ofNat j) * 4) (Dats.cells ks)))) (PV.agg [PV.int IntKind.i64 k', PV.int IntKind.i64 n', PV.str s', PV.slice (Dats.len ks') (Dats.cells ks')]), true), (decide (0 < (↑j : Int)), true), (true, true), (true, true), (Nat.ble ((mj + 1) * 1) 140737488355328, true), (Nat.ble (mj + 1) 9223372036854775807, true), (isTx N [PV.int IntKind.i64 k', PV.int IntKind.i64 n', PV.str s', PV.slice (Dats.len ks') (Dats.cells ks')], true), (Nat.beq (mj + 1) (mj + 1), true), (Nat.ble (mj + 1 + List.length (txC [PV.int IntKind.i64 k', PV.int IntKind.i64 n', PV.str s', PV.slice (Dats.len ks') (Dats.cells ks')])) 140737488355328, true)]) (by kernel_rfl) (by ((repeat' (first | exact okO_nil | refine okN ?_ ?_)); all_goals first | assumption | rfl | exact same_of rfl | exact sameS_self _ | (simp only [decide_eq_true_eq, decide_eq_false_iff_not, Nat.ble_eq, Nat.beq_eq, beq_eq_false_iff_ne, beq_iff_eq, ne_eq] <;> omega))) (fun st hs => ⟨⟨j + 1, hlt⟩, Nat.sub_lt_sub_left hlt (Nat.lt_succ_self j), [DB k' n' s' ks'], ?_⟩)
        rw [hs, tx, hrc, hmj]
        simp only [T, hPs, bytesPL_append, List.length_append]
        rw [show IntKind.wrap IntKind.i64 (Int.ofNat (j + 1)) = ((j + 1 : Nat) : Int) from wj]
        simp only [List.append_assoc, Nat.add_assoc]
        rfl
    · obtain rfl : j = ks.len := by omega
      have d2 := ge_at hge
      have hPl : P ks.len = 40 :: textL true ks := by simp only [P, take_all]
      refine SWP.runQ (SP ih [(41, [(14, false)])] []) 100 41 hnt [0, 3] (e := .exit 1) (z := ⟨[(0, .ptr 0 0), (3, .ptr 1 0)], ⟨[bB (m + (P ks.len).length), DB k n s ks], [some (bR (rc ++ bytesPL (P ks.len)) (m + (P ks.len).length))]⟩⟩) (o := [(decide ((ks.len : Int) < (ks.len : Int)), false), (false, false)]) (by kernel_rfl) (by ((repeat' (first | exact okO_nil | refine okN ?_ ?_)); all_goals first | assumption | rfl | exact same_of rfl | exact sameS_self _ | (simp only [decide_eq_true_eq, decide_eq_false_iff_not, Nat.ble_eq, Nat.beq_eq, beq_eq_false_iff_ne, beq_iff_eq, ne_eq] <;> omega))) (fun st hs => hK2 st (.norm [0, 3] ?_))
      rw [hs]
      have hl2 : (P ks.len).length = (textL true ks).length + 1 := by rw [hPl]; rfl
      have d8 : Nat.ble ((m + (P ks.len).length + 1) * 1) 140737488355328 = true := by rw [Nat.ble_eq]; omega
      have d9 : Nat.ble (m + (P ks.len).length + 1) 9223372036854775807 = true := by rw [Nat.ble_eq]; omega
      refine SWP.runQ (SP ih [(17, [(14, true)])] []) 100 41 hnt [0] (e := .normal) (z := ⟨[(0, .ptr 0 0)], ⟨[bB (m + (P ks.len).length + 1), DB k n s ks], [some (bR (rc ++ bytesPL (P ks.len) ++ [.int .u8 41]) (m + (P ks.len).length + 1))]⟩⟩) (o := [(true, true), (Nat.ble ((m + (P ks.len).length + 1) * 1) 140737488355328, true), (Nat.ble (m + (P ks.len).length + 1) 9223372036854775807, true)]) (by kernel_rfl) (by ((repeat' (first | exact okO_nil | refine okN ?_ ?_)); all_goals first | assumption | rfl | exact same_of rfl | exact sameS_self _ | (simp only [decide_eq_true_eq, decide_eq_false_iff_not, Nat.ble_eq, Nat.beq_eq, beq_eq_false_iff_ne, beq_iff_eq, ne_eq] <;> omega))) (fun st hs => fin st (P ks.len ++ [41]) ?_ ?_)
      · rw [ht, hPl]; rfl
      · rw [hs]
        simp only [bytesPL_append, List.length_append, List.append_assoc, Nat.add_assoc]
        rfl))
  rcases hB with ⟨rfl, rfl⟩ | ⟨rfl, rfl, rfl, rfl⟩
  · have d8 : Nat.ble ((m + 1) * 1) 140737488355328 = true := by rw [Nat.ble_eq]; omega
    have d9 : Nat.ble (m + 1) 9223372036854775807 = true := by rw [Nat.ble_eq]; omega
    exact SWP.runQ (SP ih [(17, [(14, true)])] []) 100 41 hnt [0, 3] (e := .normal) (z := ⟨[(0, .ptr 0 0), (3, .ptr 1 0)], ⟨[⟨[.ptr 0 0, .own 0 (m + 1)], 84⟩, ⟨[.int .i64 k, .int .i64 n, .str s, .slice (Dats.len ks) (Dats.cells ks)], 25⟩], [some ⟨rc ++ [PV.int IntKind.u8 (40 : Int)], m + 1, 5, 1⟩]⟩⟩) (o := [(true, true), (Nat.ble ((m + 1) * 1) 140737488355328, true), (Nat.ble (m + 1) 9223372036854775807, true)]) (by kernel_rfl) (by ((repeat' (first | exact okO_nil | refine okN ?_ ?_)); all_goals first | assumption | rfl | exact same_of rfl | exact sameS_self _ | (simp only [decide_eq_true_eq, decide_eq_false_iff_not, Nat.ble_eq, Nat.beq_eq, beq_eq_false_iff_ne, beq_iff_eq, ne_eq] <;> omega))) (fun st hs => rest st hs)
  · exact SWP.runQ (SP ih [(17, [(14, true)])] []) 100 41 hnt [0, 3] (e := .normal) (z := ⟨[(0, .ptr 0 0), (3, .ptr 1 0)], ⟨[⟨[.ptr 0 0, .own 0 1], 84⟩, ⟨[.int .i64 k, .int .i64 n, .str s, .slice (Dats.len ks) (Dats.cells ks)], 25⟩], [some ⟨[PV.int IntKind.u8 (40 : Int)], 1, 5, 1⟩]⟩⟩) (o := [(true, true), (true, true), (true, true)]) (by kernel_rfl) (by ((repeat' (first | exact okO_nil | refine okN ?_ ?_)); all_goals first | assumption | rfl | exact same_of rfl | exact sameS_self _ | (simp only [decide_eq_true_eq, decide_eq_false_iff_not, Nat.ble_eq, Nat.beq_eq, beq_eq_false_iff_ne, beq_iff_eq, ne_eq] <;> omega))) (fun st hs => rest st hs)
theorem putAt (N : Nat) : PutAt N := by
  induction N with
  | zero => intro d h; omega
  | succ N ih => exact fun d hN hok hrng rc m hm => put_gen ih d hN hok hrng _ _ rc m (.inl ⟨rfl, rfl⟩) hm
theorem put_new (d : Dat) (hok : d.ok) (hrng : d.rng) (hm : (textD d).length ≤ 140737488355328) :
    RCalls G0 64 [.ptr 0 0, .agg d.cells] ⟨[bB0], []⟩ (fun o H => o = .ret (.tup []) ∧ H = ⟨[bB ((textD d).length)], [some (bR (bytesPL (textD d)) ((textD d).length))]⟩) := by
  have := put_gen (putAt (d.size + 1)) d (by omega) hok hrng bB0 [] [] 0 (.inr ⟨rfl, rfl, rfl, rfl⟩) (by omega)
  simpa using this
end Seat
end Go.Proofs.YtenpjkcclmmlhaaDoor
namespace Go.Proofs.YtenpjkcclmmlhaaDoor
open Go.AS Go.RowKit
set_option linter.unusedVariables false
set_option linter.unusedSimpArgs false
set_option maxRecDepth 100000
namespace Seat
def RPutAt (N : Nat) : Prop := ∀ d : Dat, d.size < N → d.ok → d.rng → ∀ (rc : List PV) (m : Nat), m + (textD d).length ≤ 140737488355328 →
  RCalls G0 46 [.own 0 m, .agg d.cells] ⟨[], [some (bR rc m)]⟩ (fun o H => o = .ret (.own 0 (m + (textD d).length)) ∧ H = ⟨[], [some (bR (rc ++ bytesPL (textD d)) (m + (textD d).length))]⟩)
noncomputable def rputV (N : Nat) (f : Nat) (xs : List PV) (H : Hp) : Option (PV × Hp × Ob) := match f, xs, H with
  | 46, [.own 0 n, .agg cs], ⟨[], [some ⟨rc, m, e, 1⟩]⟩ => match Nat.beq e 5 with
    | true => some (.own 0 (m + (txC cs).length), ⟨[], [some ⟨rc ++ bytesPL (txC cs), m + (txC cs).length, e, 1⟩]⟩, [(isTx N cs, true), (Nat.beq n m, true), (Nat.ble (m + (txC cs).length) 140737488355328, true)])
    | false => none
  | _, _, _ => none
theorem rputV_ok {N : Nat} (ih : RPutAt N) (f : Nat) (xs : List PV) (H : Hp) (r : PV) (H' : Hp) (o : Ob) (h : rputV N f xs H = some (r, H', o)) (ho : ∀ p ∈ o, p.1 = p.2) : RCalls G0 f xs H (fun o' H2 => o' = .ret r ∧ H2 = H') ∧ r.scP (belowN H'.bx.length) (belowN H'.rw.length) = true ∧ H'.scB H'.bx.length H'.rw.length = true := by
  unfold rputV at h
  split at h
  · rename_i n cs rc m e
    split at h
    · rename_i hc
      cases h
      simp only [Nat.beq_eq] at hc
      subst hc
      obtain ⟨d, rfl, h1, h2, h3⟩ := isTx_of (ho (isTx N cs, true) (by simp))
      have h4 := ho (Nat.beq n m, true) (by simp)
      have h5 := ho (Nat.ble (m + (txC d.cells).length) 140737488355328, true) (by simp)
      simp only [Nat.beq_eq, Nat.ble_eq] at h4 h5
      subst h4
      rw [txC_at] at h5 ⊢
      exact ⟨ih d h1 h2 h3 rc n h5, rfl, rfl⟩
    · cases h
  · cases h
noncomputable def SR {N : Nat} (ih : RPutAt N) (l : List (Nat × List (Nat × Bool))) (v : List (Nat × List (Nat × PV))) : Cfg G0 := { F := F, hF := hF, S := fmtS, hS := fmtS_ok, V := rputV N, hV := rputV_ok ih, hp := hpB, D := hpB, orc := orcM l, val := valM v }
def RSt (x : PV) (rws : List (Option Row)) (rc : List PV) (m : Nat) : Prop := (x = .own 0 m ∧ rws = [some (bR rc m)]) ∨ (x = .nil ∧ rws = [] ∧ rc = [] ∧ m = 0)
theorem rput_gen {N : Nat} (ih : RPutAt N) (d : Dat) (hN : d.size < N + 1) (hok : d.ok) (hrng : d.rng) (x : PV) (rws : List (Option Row)) (rc : List PV) (m : Nat) (hB : RSt x rws rc m) (hm : m + (textD d).length ≤ 140737488355328) :
    RCalls G0 46 [x, .agg d.cells] ⟨[], rws⟩ (fun o H => o = .ret (.own 0 (m + (textD d).length)) ∧ H = ⟨[], [some (bR (rc ++ bytesPL (textD d)) (m + (textD d).length))]⟩) := by
  obtain ⟨k, n, s, ks⟩ := d
  have hlen := hok.1
  refine Fn.enterH Tryd.func46 Tryd.ntmps46 rfl (Nat.le_of_ble_eq_true rfl) fun C fr fp hnt hnb hfr => ?_
  have fin : ∀ st l, l = textD (.mk k n s ks) → nrm [4] st = ⟨[(4, .own 0 (m + l.length))], ⟨[DB k n s ks], [some (bR (rc ++ bytesPL l) (m + l.length))]⟩⟩ → fr st := fun st l hl hs => hfr st [4] (by
    rw [hs, ← hl]
    rcases hB with ⟨rfl, rfl⟩ | ⟨rfl, rfl, _, _⟩
    · exact ⟨0, 1, .own 0 (m + l.length), Nat.le_refl _, Nat.zero_le _, Nat.le_refl _, Nat.le_refl _, rfl, rfl, rfl, rfl, rfl⟩
    · exact ⟨0, 1, .own 0 (m + l.length), Nat.le_refl _, Nat.zero_le _, Nat.zero_le _, Nat.le_refl _, rfl, rfl, rfl, rfl, rfl⟩)
  by_cases h1 : k = 1
  · have c1 : (k == (1 : Int)) = true := by simpa using h1
    have c2 : decide (-9223372036854775808 ≤ n ∧ n ≤ 9223372036854775807) = true := decide_eq_true hrng.1
    have ht : textD (.mk k n s ks) = Go.Lib.itoa n := by rw [textD, if_pos h1]
    rw [ht] at hm
    have c3 : Nat.ble (m + ByteArray.size (mkS (Lib.itoa n))) 140737488355328 = true := by rw [Nat.ble_eq, mkS_size]; exact hm
    rcases hB with ⟨rfl, rfl⟩ | ⟨rfl, rfl, rfl, rfl⟩
    · exact SWP.runQ (SR ih [(46, [(9, true), (14, true)])] []) 100 46 hnt [4] (e := .ret) (z := ⟨[(4, .own 0 (m + ByteArray.size (mkS (Lib.itoa n))))], ⟨[⟨[.int .i64 k, .int .i64 n, .str s, .slice (Dats.len ks) (Dats.cells ks)], 25⟩], [some ⟨rc ++ bytesPV (mkS (Lib.itoa n)), m + ByteArray.size (mkS (Lib.itoa n)), 5, 1⟩]⟩⟩) (o := [(k == (1 : Int), true), (true, true), (decide (-9223372036854775808 ≤ n ∧ n ≤ 9223372036854775807), true), (Nat.ble (m + ByteArray.size (mkS (Lib.itoa n))) 140737488355328, true)]) (by kernel_rfl) (by ((repeat' (first | exact okO_nil | refine okN ?_ ?_)); all_goals first | assumption | rfl | exact same_of rfl | exact sameS_self _ | (simp only [decide_eq_true_eq, decide_eq_false_iff_not, Nat.ble_eq, Nat.beq_eq, beq_eq_false_iff_ne, beq_iff_eq, ne_eq] <;> omega))) (fun st hs => fin st _ ht.symm hs)
    · exact SWP.runQ (SR ih [(46, [(9, true), (14, true)])] []) 100 46 hnt [4] (e := .ret) (z := ⟨[(4, .own 0 (0 + ByteArray.size (mkS (Lib.itoa n))))], ⟨[⟨[.int .i64 k, .int .i64 n, .str s, .slice (Dats.len ks) (Dats.cells ks)], 25⟩], [some ⟨[] ++ bytesPV (mkS (Lib.itoa n)), 0 + ByteArray.size (mkS (Lib.itoa n)), 5, 1⟩]⟩⟩) (o := [(k == (1 : Int), true), (true, true), (decide (-9223372036854775808 ≤ n ∧ n ≤ 9223372036854775807), true), (Nat.ble (0 + ByteArray.size (mkS (Lib.itoa n))) 140737488355328, true)]) (by kernel_rfl) (by ((repeat' (first | exact okO_nil | refine okN ?_ ?_)); all_goals first | assumption | rfl | exact same_of rfl | exact sameS_self _ | (simp only [decide_eq_true_eq, decide_eq_false_iff_not, Nat.ble_eq, Nat.beq_eq, beq_eq_false_iff_ne, beq_iff_eq, ne_eq] <;> omega))) (fun st hs => fin st _ ht.symm hs)
  by_cases h2 : k = 2
  · have c1 : (k == (1 : Int)) = false := by simpa using h1
    have c2 : (k == (2 : Int)) = true := by simpa using h2
    have ht : textD (.mk k n s ks) = s.data.toList := by rw [textD, if_neg h1, if_pos h2]
    rw [ht] at hm
    have c3 : Nat.ble (m + ByteArray.size s) 140737488355328 = true := by rw [Nat.ble_eq]; exact hm
    rcases hB with ⟨rfl, rfl⟩ | ⟨rfl, rfl, rfl, rfl⟩
    · exact SWP.runQ (SR ih [(46, [(9, false), (16, true), (20, true)])] []) 100 46 hnt [4] (e := .ret) (z := ⟨[(4, .own 0 (m + ByteArray.size s))], ⟨[⟨[.int .i64 k, .int .i64 n, .str s, .slice (Dats.len ks) (Dats.cells ks)], 25⟩], [some ⟨rc ++ bytesPV s, m + ByteArray.size s, 5, 1⟩]⟩⟩) (o := [(k == (1 : Int), false), (k == (2 : Int), true), (Nat.ble (m + ByteArray.size s) 140737488355328, true)]) (by kernel_rfl) (by ((repeat' (first | exact okO_nil | refine okN ?_ ?_)); all_goals first | assumption | rfl | exact same_of rfl | exact sameS_self _ | (simp only [decide_eq_true_eq, decide_eq_false_iff_not, Nat.ble_eq, Nat.beq_eq, beq_eq_false_iff_ne, beq_iff_eq, ne_eq] <;> omega))) (fun st hs => fin st _ ht.symm hs)
    · exact SWP.runQ (SR ih [(46, [(9, false), (16, true), (20, true)])] []) 100 46 hnt [4] (e := .ret) (z := ⟨[(4, .own 0 (0 + ByteArray.size s))], ⟨[⟨[.int .i64 k, .int .i64 n, .str s, .slice (Dats.len ks) (Dats.cells ks)], 25⟩], [some ⟨[] ++ bytesPV s, 0 + ByteArray.size s, 5, 1⟩]⟩⟩) (o := [(k == (1 : Int), false), (k == (2 : Int), true), (Nat.ble (0 + ByteArray.size s) 140737488355328, true)]) (by kernel_rfl) (by ((repeat' (first | exact okO_nil | refine okN ?_ ?_)); all_goals first | assumption | rfl | exact same_of rfl | exact sameS_self _ | (simp only [decide_eq_true_eq, decide_eq_false_iff_not, Nat.ble_eq, Nat.beq_eq, beq_eq_false_iff_ne, beq_iff_eq, ne_eq] <;> omega))) (fun st hs => fin st _ ht.symm hs)
  have ht : textD (.mk k n s ks) = 40 :: (textL true ks ++ [41]) := by rw [textD, if_neg h1, if_neg h2]
  have htl : (textD (.mk k n s ks)).length = (textL true ks).length + 2 := by rw [ht]; simp
  rw [htl] at hm
  have c1 : (k == (1 : Int)) = false := by simpa using h1
  have c2 : (k == (2 : Int)) = false := by simpa using h2
  have hks : ks.size < N + 1 := by simp only [Dat.size] at hN; omega
  refine Q.runSeq S0 50 46 hnt [0, 3] (z := ⟨[(0, x), (3, .ptr 0 0)], ⟨[DB k n s ks], rws⟩⟩) (o := []) (by kernel_rfl) okO_nil ?_
  refine Q.runSeq (SR ih [(46, [(9, false), (16, false)])] []) 50 46 hnt [0, 3] (z := ⟨[(0, x), (3, .ptr 0 0)], ⟨[DB k n s ks], rws⟩⟩) (o := [(k == (1 : Int), false), (k == (2 : Int), false)]) (by kernel_rfl) (by ((repeat' (first | exact okO_nil | refine okN ?_ ?_)); all_goals first | assumption | rfl | exact same_of rfl | exact sameS_self _ | (simp only [decide_eq_true_eq, decide_eq_false_iff_not, Nat.ble_eq, Nat.beq_eq, beq_eq_false_iff_ne, beq_iff_eq, ne_eq] <;> omega))) ?_
  refine Q.seq fun K hK => ?_
  have rest : ∀ st, nrm [0, 3] st = ⟨[(0, .own 0 (m + 1)), (3, .ptr 0 0)], ⟨[DB k n s ks], [some (bR (rc ++ [.int .u8 40]) (m + 1))]⟩⟩ → K st := fun st hs => hK st (.norm [0, 3] (by
    rw [hs]
    clear hs hK
    let P (j : Nat) : List UInt8 := 40 :: textL true (ks.take j)
    have hP : ∀ j, j ≤ ks.len → (P j).length ≤ (textL true ks).length + 1 := fun j hj => by
      have := textL_mono ks true j hj
      simp only [P, List.length_cons]
      omega
    let T (j : Nat) : AS := ⟨[(0, .own 0 (m + (P j).length)), (3, .ptr 0 0), (5, .int .i64 j)], ⟨[DB k n s ks], [some (bR (rc ++ bytesPL (P j)) (m + (P j).length))]⟩⟩
    refine Q.seq fun K2 hK2 => ?_
    have h0 : bytesPL (P 0) = [.int .u8 40] := by
      have : P 0 = [40] := by simp only [P]; cases ks <;> rfl
      rw [this]; rfl
    have hP0 : (P 0).length = 1 := by
      have : P 0 = [40] := by simp only [P]; cases ks <;> rfl
      rw [this]; rfl
    refine Q.runSeq S0 50 46 hnt [0, 3, 5] (z := T 0) (o := []) (by simp only [T, hP0, h0]; kernel_rfl) okO_nil ?_
    refine Q.block ?_
    refine Q.loopI (σ := { j : Nat // j ≤ ks.len }) [0, 3, 5] (fun j => T j.1) (fun j => ks.len - j.1) ⟨0, Nat.zero_le _⟩ rfl fun ⟨j, hj⟩ => ?_
    rcases Nat.lt_or_ge j ks.len with hlt | hge
    · obtain ⟨k', n', s', ks', hget⟩ := Dats.get_mk ks j
      have hsz := Dats.get_size ks j hlt
      have hoj := Dats.get_ok ks j hlt hok.2
      have hrj := Dats.get_rng ks j hlt hrng.2
      have htk := textL_take ks true j hlt
      have hPj := hP (j + 1) hlt
      rw [hget] at hsz hoj hrj htk
      have tx : txC [PV.int IntKind.i64 k', PV.int IntKind.i64 n', PV.str s', PV.slice (Dats.len ks') (Dats.cells ks')] = textD (.mk k' n' s' ks') := txC_at (.mk k' n' s' ks')
      have d1 : isTx N [PV.int IntKind.i64 k', PV.int IntKind.i64 n', PV.str s', PV.slice (Dats.len ks') (Dats.cells ks')] = true := isTx_at (d := .mk k' n' s' ks') (by omega) hoj hrj
      have d2 := lt_at hlt
      have d3 := in_at hlt
      have d4 : decide (TD.size d25 ≤ List.length (List.drop (Int.toNat (j : Int) * TD.size d25) (Dats.cells ks))) = true := kid_len hlt
      have d5 := kid_same' hlt hget
      have wj := wrap1 j (by omega)
      obtain ⟨rcj, hrc⟩ : ∃ x, x = rc ++ bytesPL (P j) := ⟨_, rfl⟩
      obtain ⟨mj, hmj⟩ : ∃ x, x = m + (P j).length := ⟨_, rfl⟩
      show SWP G0 C _ _ ⟨[(0, .own 0 (m + (P j).length)), (3, .ptr 0 0), (5, .int .i64 j)], ⟨[DB k n s ks], [some (bR (rc ++ bytesPL (P j)) (m + (P j).length))]⟩⟩
      rw [← hrc, ← hmj]
      by_cases hj0 : j = 0
      · have hPs : P (j + 1) = P j ++ textD (.mk k' n' s' ks') := by
          simp only [P, htk]
          rw [if_pos ⟨hj0, trivial⟩]; rfl
        have d6 : decide (0 < (j : Int)) = false := by simp [hj0]
        rw [hPs, List.length_append] at hPj
        have d7 : Nat.ble (mj + List.length (txC [PV.int IntKind.i64 k', PV.int IntKind.i64 n', PV.str s', PV.slice (Dats.len ks') (Dats.cells ks')])) 140737488355328 = true := by rw [tx, Nat.ble_eq]; omega
        refine SWP.runQ (SR ih [(46, [(28, true), (32, false), (35, true), (40, true), (41, true)])] [(46, [(41, .agg [.int .i64 k', .int .i64 n', .str s', .slice ks'.len ks'.cells])])]) 100 46 hnt [0, 3, 5] (e := .normal) (z := ⟨[(0, .own 0 (mj + List.length (txC [.int .i64 k', .int .i64 n', .str s', .slice (Dats.len ks') (Dats.cells ks')]))), (3, .ptr 0 0), (5, .int .i64 (IntKind.wrap IntKind.i64 (Int.ofNat (j + 1))))], ⟨[⟨[.int .i64 k, .int .i64 n, .str s, .slice (Dats.len ks) (Dats.cells ks)], 25⟩], [some ⟨rcj ++ bytesPL (txC [.int .i64 k', .int .i64 n', .str s', .slice (Dats.len ks') (Dats.cells ks')]), mj + List.length (txC [.int .i64 k', .int .i64 n', .str s', .slice (Dats.len ks') (Dats.cells ks')]), 5, 1⟩]⟩⟩) (o := [(decide ((↑j : Int) < (↑(Dats.len ks) : Int)), true), (true, true), (decide (0 < (↑j : Int)), false), (false, false), (decide (0 ≤ (↑j : Int) ∧ (↑j : Int) < (↑(Dats.len ks) : Int)), true), (decide (TD.size d24 ≤ List.length (List.drop (Int.toNat (↑j : Int) * TD.size d24) (Dats.cells ks))), true), (same (PV.agg (List.take 4 (List.drop (Int.toNat (Int.ofNat j) * 4) (Dats.cells ks)))) (PV.agg [PV.int IntKind.i64 k', PV.int IntKind.i64 n', PV.str s', PV.slice (Dats.len ks') (Dats.cells ks')]), true), (isTx N [PV.int IntKind.i64 k', PV.int IntKind.i64 n', PV.str s', PV.slice (Dats.len ks') (Dats.cells ks')], true), (Nat.beq mj mj, true), (Nat.ble (mj + List.length (txC [PV.int IntKind.i64 k', PV.int IntKind.i64 n', PV.str s', PV.slice (Dats.len ks') (Dats.cells ks')])) 140737488355328, true)]) (by kernel_rfl) (by ((repeat' (first | exact okO_nil | refine okN ?_ ?_)); all_goals first | assumption | rfl | exact same_of rfl | exact sameS_self _ | (simp only [decide_eq_true_eq, decide_eq_false_iff_not, Nat.ble_eq, Nat.beq_eq, beq_eq_false_iff_ne, beq_iff_eq, ne_eq] <;> omega))) (fun st hs => ⟨⟨j + 1, hlt⟩, Nat.sub_lt_sub_left hlt (Nat.lt_succ_self j), ?_⟩)
        rw [hs, tx, hrc, hmj]
        simp only [T, hPs, bytesPL_append, List.length_append]
        rw [show IntKind.wrap IntKind.i64 (Int.ofNat (j + 1)) = ((j + 1 : Nat) : Int) from wj, List.append_assoc, Nat.add_assoc]
        rfl
      · have hPs : P (j + 1) = P j ++ [32] ++ textD (.mk k' n' s' ks') := by
          simp only [P, htk]
          rw [if_neg (fun h => hj0 h.1)]
          simp
        have d6 : decide (0 < (j : Int)) = true := by simp; omega
        rw [hPs, List.length_append, List.length_append] at hPj
        simp only [List.length_cons, List.length_nil] at hPj
        have d7 : Nat.ble (mj + 1 + List.length (txC [PV.int IntKind.i64 k', PV.int IntKind.i64 n', PV.str s', PV.slice (Dats.len ks') (Dats.cells ks')])) 140737488355328 = true := by rw [tx, Nat.ble_eq]; omega
        have d8 : Nat.ble ((mj + 1) * 1) 140737488355328 = true := by rw [Nat.ble_eq]; omega
        have d9 : Nat.ble (mj + 1) 9223372036854775807 = true := by rw [Nat.ble_eq]; omega
        refine SWP.runQ (SR ih [(46, [(28, true), (32, true), (35, true), (40, true), (41, true)])] [(46, [(41, .agg [.int .i64 k', .int .i64 n', .str s', .slice ks'.len ks'.cells])])]) 100 46 hnt [0, 3, 5] (e := .normal) (z := ⟨[(0, .own 0 (mj + 1 + List.length (txC [.int .i64 k', .int .i64 n', .str s', .slice (Dats.len ks') (Dats.cells ks')]))), (3, .ptr 0 0), (5, .int .i64 (IntKind.wrap IntKind.i64 (Int.ofNat (j + 1))))], ⟨[⟨[.int .i64 k, .int .i64 n, .str s, .slice (Dats.len ks) (Dats.cells ks)], 25⟩], [some ⟨rcj ++ [PV.int IntKind.u8 (32 : Int)] ++ bytesPL (txC [.int .i64 k', .int .i64 n', .str s', .slice (Dats.len ks') (Dats.cells ks')]), mj + 1 + List.length (txC [.int .i64 k', .int .i64 n', .str s', .slice (Dats.len ks') (Dats.cells ks')]), 5, 1⟩]⟩⟩) (o := [(decide ((↑j : Int) < (↑(Dats.len ks) : Int)), true), (true, true), (decide (0 < (↑j : Int)), true), (true, true), (true, true), (Nat.ble ((mj + 1) * 1) 140737488355328, true), (Nat.ble (mj + 1) 9223372036854775807, true), (decide (0 ≤ (↑j : Int) ∧ (↑j : Int) < (↑(Dats.len ks) : Int)), true), (decide (TD.size d24 ≤ List.length (List.drop (Int.toNat (↑j : Int) * TD.size d24) (Dats.cells ks))), true), (same (PV.agg (List.take 4 (List.drop (Int.toNat (Int.ofNat j) * 4) (Dats.cells ks)))) (PV.agg [PV.int IntKind.i64 k', PV.int IntKind.i64 n', PV.str s', PV.slice (Dats.len ks') (Dats.cells ks')]), true), (isTx N [PV.int IntKind.i64 k', PV.int IntKind.i64 n', PV.str s', PV.slice (Dats.len ks') (Dats.cells ks')], true), (Nat.beq (mj + 1) (mj + 1), true), (Nat.ble (mj + 1 + List.length (txC [PV.int IntKind.i64 k', PV.int IntKind.i64 n', PV.str s', PV.slice (Dats.len ks') (Dats.cells ks')])) 140737488355328, true)]) (by kernel_rfl) (by ((repeat' (first | exact okO_nil | refine okN ?_ ?_)); all_goals first | assumption | rfl | exact same_of rfl | exact sameS_self _ | (simp only [decide_eq_true_eq, decide_eq_false_iff_not, Nat.ble_eq, Nat.beq_eq, beq_eq_false_iff_ne, beq_iff_eq, ne_eq] <;> omega))) (fun st hs => ⟨⟨j + 1, hlt⟩, Nat.sub_lt_sub_left hlt (Nat.lt_succ_self j), ?_⟩)
        rw [hs, tx, hrc, hmj]
        simp only [T, hPs, bytesPL_append, List.length_append]
        rw [show IntKind.wrap IntKind.i64 (Int.ofNat (j + 1)) = ((j + 1 : Nat) : Int) from wj]
        simp only [List.append_assoc, Nat.add_assoc]
        rfl
    · obtain rfl : j = ks.len := by omega
      have d2 := ge_at hge
      have hPl : P ks.len = 40 :: textL true ks := by simp only [P, take_all]
      refine SWP.runQ (SR ih [(46, [(28, false)])] []) 100 46 hnt [0] (e := .exit 1) (z := ⟨[(0, .own 0 (m + (P ks.len).length))], ⟨[DB k n s ks], [some (bR (rc ++ bytesPL (P ks.len)) (m + (P ks.len).length))]⟩⟩) (o := [(decide ((ks.len : Int) < (ks.len : Int)), false), (false, false)]) (by kernel_rfl) (by ((repeat' (first | exact okO_nil | refine okN ?_ ?_)); all_goals first | assumption | rfl | exact same_of rfl | exact sameS_self _ | (simp only [decide_eq_true_eq, decide_eq_false_iff_not, Nat.ble_eq, Nat.beq_eq, beq_eq_false_iff_ne, beq_iff_eq, ne_eq] <;> omega))) (fun st hs => hK2 st (.norm [0] ?_))
      rw [hs]
      have hl2 : (P ks.len).length = (textL true ks).length + 1 := by rw [hPl]; rfl
      have d8 : Nat.ble ((m + (P ks.len).length + 1) * 1) 140737488355328 = true := by rw [Nat.ble_eq]; omega
      have d9 : Nat.ble (m + (P ks.len).length + 1) 9223372036854775807 = true := by rw [Nat.ble_eq]; omega
      refine SWP.runQ (SR ih [(46, [(45, true)])] []) 100 46 hnt [4] (e := .ret) (z := ⟨[(4, .own 0 (m + (P ks.len).length + 1))], ⟨[DB k n s ks], [some (bR (rc ++ bytesPL (P ks.len) ++ [.int .u8 41]) (m + (P ks.len).length + 1))]⟩⟩) (o := [(true, true), (Nat.ble ((m + (P ks.len).length + 1) * 1) 140737488355328, true), (Nat.ble (m + (P ks.len).length + 1) 9223372036854775807, true)]) (by kernel_rfl) (by ((repeat' (first | exact okO_nil | refine okN ?_ ?_)); all_goals first | assumption | rfl | exact same_of rfl | exact sameS_self _ | (simp only [decide_eq_true_eq, decide_eq_false_iff_not, Nat.ble_eq, Nat.beq_eq, beq_eq_false_iff_ne, beq_iff_eq, ne_eq] <;> omega))) (fun st hs => fin st (P ks.len ++ [41]) ?_ ?_)
      · rw [ht, hPl]; rfl
      · rw [hs]
        simp only [bytesPL_append, List.length_append, List.append_assoc, Nat.add_assoc]
        rfl))
  rcases hB with ⟨rfl, rfl⟩ | ⟨rfl, rfl, rfl, rfl⟩
  · have d8 : Nat.ble ((m + 1) * 1) 140737488355328 = true := by rw [Nat.ble_eq]; omega
    have d9 : Nat.ble (m + 1) 9223372036854775807 = true := by rw [Nat.ble_eq]; omega
    exact SWP.runQ (SR ih [(46, [(23, true)])] []) 100 46 hnt [0, 3] (e := .normal) (z := ⟨[(0, .own 0 (m + 1)), (3, .ptr 0 0)], ⟨[⟨[.int .i64 k, .int .i64 n, .str s, .slice (Dats.len ks) (Dats.cells ks)], 25⟩], [some ⟨rc ++ [PV.int IntKind.u8 (40 : Int)], m + 1, 5, 1⟩]⟩⟩) (o := [(true, true), (Nat.ble ((m + 1) * 1) 140737488355328, true), (Nat.ble (m + 1) 9223372036854775807, true)]) (by kernel_rfl) (by ((repeat' (first | exact okO_nil | refine okN ?_ ?_)); all_goals first | assumption | rfl | exact same_of rfl | exact sameS_self _ | (simp only [decide_eq_true_eq, decide_eq_false_iff_not, Nat.ble_eq, Nat.beq_eq, beq_eq_false_iff_ne, beq_iff_eq, ne_eq] <;> omega))) (fun st hs => rest st hs)
  · exact SWP.runQ (SR ih [(46, [(23, true)])] []) 100 46 hnt [0, 3] (e := .normal) (z := ⟨[(0, .own 0 1), (3, .ptr 0 0)], ⟨[⟨[.int .i64 k, .int .i64 n, .str s, .slice (Dats.len ks) (Dats.cells ks)], 25⟩], [some ⟨[PV.int IntKind.u8 (40 : Int)], 1, 5, 1⟩]⟩⟩) (o := [(true, true), (true, true), (true, true)]) (by kernel_rfl) (by ((repeat' (first | exact okO_nil | refine okN ?_ ?_)); all_goals first | assumption | rfl | exact same_of rfl | exact sameS_self _ | (simp only [decide_eq_true_eq, decide_eq_false_iff_not, Nat.ble_eq, Nat.beq_eq, beq_eq_false_iff_ne, beq_iff_eq, ne_eq] <;> omega))) (fun st hs => rest st hs)
theorem rputAt (N : Nat) : RPutAt N := by
  induction N with
  | zero => intro d h; omega
  | succ N ih => exact fun d hN hok hrng rc m hm => rput_gen ih d hN hok hrng _ _ rc m (.inl ⟨rfl, rfl⟩) hm
theorem rput_new (d : Dat) (hok : d.ok) (hrng : d.rng) (hm : (textD d).length ≤ 140737488355328) :
    RCalls G0 46 [.nil, .agg d.cells] ⟨[], []⟩ (fun o H => o = .ret (.own 0 (textD d).length) ∧ H = ⟨[], [some (bR (bytesPL (textD d)) ((textD d).length))]⟩) := by
  have := rput_gen (rputAt (d.size + 1)) d (by omega) hok hrng .nil [] [] 0 (.inr ⟨rfl, rfl, rfl, rfl⟩) (by omega)
  simpa using this
end Seat
end Go.Proofs.YtenpjkcclmmlhaaDoor
namespace Go.Proofs.YtenpjkcclmmlhaaDoor
open Go.AS Go.RowKit
set_option linter.unusedVariables false
set_option linter.unusedSimpArgs false
set_option maxRecDepth 100000
namespace Seat
open Classical in
noncomputable def isTxt (cs : List PV) : Bool := decide (∃ d : Dat, d.cells = cs ∧ d.ok ∧ d.rng ∧ (textD d).length ≤ 140737488355328)
theorem isTxt_at {d : Dat} (ho : d.ok) (hr : d.rng) (hl : (textD d).length ≤ 140737488355328) : isTxt d.cells = true := by
  unfold isTxt
  classical exact decide_eq_true ⟨d, rfl, ho, hr, hl⟩
theorem isTxt_of {cs : List PV} (h : isTxt cs = true) : ∃ d : Dat, d.cells = cs ∧ d.ok ∧ d.rng ∧ (textD d).length ≤ 140737488355328 := by
  unfold isTxt at h
  classical exact of_decide_eq_true h
noncomputable def newV (f : Nat) (xs : List PV) (H : Hp) : Option (PV × Hp × Ob) := match f, xs, H with
  | 64, [.ptr 0 0, .agg cs], ⟨[⟨[.nilptr, .nil], ty⟩], []⟩ => match Nat.beq ty 84 with
    | true => some (.tup [], ⟨[⟨[.ptr 0 0, .own 0 (txC cs).length], ty⟩], [some ⟨bytesPL (txC cs), (txC cs).length, 5, 1⟩]⟩, [(isTxt cs, true)])
    | false => none
  | 46, [.nil, .agg cs], ⟨[], []⟩ => some (.own 0 (txC cs).length, ⟨[], [some ⟨bytesPL (txC cs), (txC cs).length, 5, 1⟩]⟩, [(isTxt cs, true)])
  | _, _, _ => none
theorem newV_ok (f : Nat) (xs : List PV) (H : Hp) (r : PV) (H' : Hp) (o : Ob) (h : newV f xs H = some (r, H', o)) (ho : ∀ p ∈ o, p.1 = p.2) : RCalls G0 f xs H (fun o' H2 => o' = .ret r ∧ H2 = H') ∧ r.scP (belowN H'.bx.length) (belowN H'.rw.length) = true ∧ H'.scB H'.bx.length H'.rw.length = true := by
  unfold newV at h
  split at h
  · rename_i cs ty
    split at h
    · rename_i hc
      cases h
      simp only [Nat.beq_eq] at hc
      subst hc
      obtain ⟨d, rfl, h1, h2, h3⟩ := isTxt_of (ho (isTxt cs, true) (by simp))
      rw [txC_at]
      exact ⟨put_new d h1 h2 h3, rfl, rfl⟩
    · cases h
  · rename_i cs
    cases h
    obtain ⟨d, rfl, h1, h2, h3⟩ := isTxt_of (ho (isTxt cs, true) (by simp))
    rw [txC_at]
    exact ⟨rput_new d h1 h2 h3, rfl, rfl⟩
  · cases h
noncomputable def ST (l : List (Nat × List (Nat × Bool))) : Cfg G0 := { F := F, hF := hF, S := fmtS, hS := fmtS_ok, V := newV, hV := newV_ok, hp := hpB, D := hpB, orc := orcM l }
theorem text_prog (d : Dat) (hok : d.ok) (hrng : d.rng) (h0 : 0 < (textD d).length) (hm : (textD d).length ≤ 140737488355328) : Pure G0 42 [.agg d.cells] (fun r => r = .str (mkS (textD d))) := by
  obtain ⟨k, n, s, ks⟩ := d
  have tx : txC [PV.int IntKind.i64 k, PV.int IntKind.i64 n, PV.str s, PV.slice (Dats.len ks) (Dats.cells ks)] = textD (.mk k n s ks) := txC_at (.mk k n s ks)
  have d1 : isTxt [PV.int IntKind.i64 k, PV.int IntKind.i64 n, PV.str s, PV.slice (Dats.len ks) (Dats.cells ks)] = true := isTxt_at (d := .mk k n s ks) hok hrng hm
  obtain ⟨x, hx⟩ : ∃ x, x = txC [PV.int IntKind.i64 k, PV.int IntKind.i64 n, PV.str s, PV.slice (Dats.len ks) (Dats.cells ks)] := ⟨_, rfl⟩
  have d2 : Nat.ble 1 (List.length x) = true := by rw [hx, tx, Nat.ble_eq]; exact h0
  have d3 : Nat.beq (List.length (bytesPL x)) (List.length x) = true := by rw [Nat.beq_eq, bytesPL_length]
  have d4 : Nat.ble (List.length x) 9223372036854775807 = true := by rw [hx, tx, Nat.ble_eq]; omega
  have d5 : isBytes8 (bytesPL x) = true := isBytes8_PL _
  rw [hx] at d2 d3 d4 d5
  refine Fn.enterB Tryd.func42 Tryd.ntmps42 rfl (Nat.le_of_ble_eq_true rfl) fun C fr fp hnt hnb hp hfr hfp => ?_
  refine SWP.runQ (ST [(14, [(7, true), (13, true)])]) 100 7 hnt [2] (e := .ret) (z := ⟨[(2, .str (strOf (bytesPL (txC [.int .i64 k, .int .i64 n, .str s, .slice (Dats.len ks) (Dats.cells ks)]))))], ⟨[⟨[.int .i64 k, .int .i64 n, .str s, .slice (Dats.len ks) (Dats.cells ks)], 25⟩, ⟨[.ptr 1 0, .own 0 (List.length (txC [.int .i64 k, .int .i64 n, .str s, .slice (Dats.len ks) (Dats.cells ks)]))], 84⟩], [none]⟩⟩) (o := [(isTxt [PV.int IntKind.i64 k, PV.int IntKind.i64 n, PV.str s, PV.slice (Dats.len ks) (Dats.cells ks)], true), (Nat.ble 1 (List.length (txC [PV.int IntKind.i64 k, PV.int IntKind.i64 n, PV.str s, PV.slice (Dats.len ks) (Dats.cells ks)])), true), (Nat.beq (List.length (txC [PV.int IntKind.i64 k, PV.int IntKind.i64 n, PV.str s, PV.slice (Dats.len ks) (Dats.cells ks)])) (List.length (txC [PV.int IntKind.i64 k, PV.int IntKind.i64 n, PV.str s, PV.slice (Dats.len ks) (Dats.cells ks)])), true), (Nat.beq (List.length (bytesPL (txC [PV.int IntKind.i64 k, PV.int IntKind.i64 n, PV.str s, PV.slice (Dats.len ks) (Dats.cells ks)]))) (List.length (txC [PV.int IntKind.i64 k, PV.int IntKind.i64 n, PV.str s, PV.slice (Dats.len ks) (Dats.cells ks)])), true), (Nat.ble 1 (List.length (txC [PV.int IntKind.i64 k, PV.int IntKind.i64 n, PV.str s, PV.slice (Dats.len ks) (Dats.cells ks)])), true), (Nat.ble (List.length (txC [PV.int IntKind.i64 k, PV.int IntKind.i64 n, PV.str s, PV.slice (Dats.len ks) (Dats.cells ks)])) 9223372036854775807, true), (isBytes8 (bytesPL (txC [PV.int IntKind.i64 k, PV.int IntKind.i64 n, PV.str s, PV.slice (Dats.len ks) (Dats.cells ks)])), true)]) (by kernel_rfl) (by ((repeat' (first | exact okO_nil | refine okN ?_ ?_)); all_goals first | assumption | rfl | exact same_of rfl | exact sameS_self _ | (simp only [decide_eq_true_eq, decide_eq_false_iff_not, Nat.ble_eq, Nat.beq_eq, beq_eq_false_iff_ne, beq_iff_eq, ne_eq] <;> omega))) (fun st hs => hfr st [2] ?_)
  rw [hs, tx]
  exact ⟨0, .str (strOf (bytesPL (textD (.mk k n s ks)))), Nat.le_refl _, Nat.zero_le _, rfl, rfl, rfl, rfl, _, rfl, congrArg PV.str (strOf_PV (mkS (textD (.mk k n s ks))))⟩
end Seat
end Go.Proofs.YtenpjkcclmmlhaaDoor
namespace Go.Proofs.YtenpjkcclmmlhaaDoor
open Go.AS Go.RowKit
set_option linter.unusedVariables false
set_option linter.unusedSimpArgs false
set_option maxRecDepth 100000
namespace Seat
theorem text_pos (d : Dat) (h : formedD d = true) : 0 < (textD d).length := by
  obtain ⟨k, n, s, ks⟩ := d
  rw [textD]
  split
  · rw [Go.Lib.itoa]
    split
    · simp
    · rw [Go.Lib.decDigits_length]; exact Go.Lib.nDigits_pos _
  · split
    · rename_i h1 h2
      subst h2
      simp only [formedD] at h
      have hs : symOk s = true := by
        have h' : (n = 0 ∧ symOk s = true) ∧ ks.len = 0 := by simpa using h
        exact h'.1.2
      rcases Nat.eq_zero_or_pos s.size with h0 | h0
      · simp [symOk, symBad, h0] at hs
      · exact h0
    · simp
mutual
theorem size_parts : ∀ d : Dat, d.size + 1 = 2 * parts d
  | .mk k n s ks => by simp only [Dat.size, parts]; have := size_partsL ks; omega
theorem size_partsL : ∀ ks : Dats, ks.size = 2 * partsL ks
  | .nil => rfl
  | .cons d ds => by simp only [Dats.size, partsL]; have := size_parts d; have := size_partsL ds; omega
end
theorem itoa_len (n : Int) (h0 : -9223372036854775808 ≤ n) (h1 : n ≤ 9223372036854775807) : (Go.Lib.itoa n).length ≤ 21 := by
  have h10 : ∀ u : Nat, u ≤ 9223372036854775808 → Go.Lib.nDigits u ≤ 20 := fun u hu => nd_le 19 u (by rw [show (10 : Nat) ^ (19 + 1) = 100000000000000000000 from rfl]; omega)
  rw [Go.Lib.itoa]
  split
  · simp only [List.length_cons, Go.Lib.decDigits_length]
    have := h10 n.natAbs (by omega)
    omega
  · rw [Go.Lib.decDigits_length]
    have := h10 n.toNat (by omega)
    omega
mutual
theorem text_len : ∀ d : Dat, d.rng → formedD d = true → (textD d).length ≤ 42 * d.size
  | .mk k n s ks, hr, hf => by
    simp only [formedD, Bool.or_eq_true, Bool.and_eq_true, decide_eq_true_eq] at hf
    simp only [Dat.size]
    rw [textD]
    split
    · have := itoa_len n hr.1.1 hr.1.2
      omega
    · split
      · rename_i h1 h2
        have hs : s.size ≤ 40 := by
          rcases hf with (h | h) | h
          · omega
          · have := h.1.2
            simp only [symOk, symBad, Bool.and_eq_true, Bool.not_eq_true', Bool.or_eq_false_iff, decide_eq_false_iff_not] at this
            omega
          · omega
        show s.size ≤ _
        omega
      · have hk : formedL ks = true := by
          rcases hf with (h | h) | h
          · omega
          · omega
          · exact h.2
        have := text_lenL ks true hr.2 hk
        simp only [List.length_cons, List.length_append, List.length_nil]
        omega
theorem text_lenL : ∀ (ks : Dats) (f : Bool), ks.rng → formedL ks = true → (textL f ks).length ≤ 42 * ks.size
  | .nil, f, hr, hf => by simp [textL]
  | .cons d ds, f, hr, hf => by
    simp only [formedL, Bool.and_eq_true] at hf
    have h1 := text_len d hr.1 hf.1
    have h2 := text_lenL ds false hr.2 hf.2
    simp only [textL, List.length_append, Dats.size]
    cases f <;> simp <;> omega
end
def Small (d : Dat) : Prop := d.ok ∧ d.rng ∧ parts d ≤ 400000
theorem deepN_parts : ∀ d : Dat, deepN d ≤ parts d := by
  have key : (∀ N, (∀ d : Dat, d.size < N → deepN d ≤ parts d) ∧ (∀ ks : Dats, ks.size < N → deepNL ks ≤ partsL ks)) := by
    intro N
    induction N with
    | zero => exact ⟨fun d h => by omega, fun d h => by omega⟩
    | succ N ih =>
      refine ⟨fun d hd => ?_, fun ks hk => ?_⟩
      · obtain ⟨k, n, s, ks⟩ := d
        simp only [Dat.size] at hd
        have := ih.2 ks (by omega)
        simp only [deepN, parts]
        omega
      · cases ks with
        | nil => exact Nat.le_refl _
        | cons d ds =>
          simp only [Dats.size] at hk
          have h1 := ih.1 d (by omega)
          have h2 := ih.2 ds (by omega)
          simp only [deepNL, partsL]
          omega
  exact fun d => (key (d.size + 1)).1 d (by omega)
theorem Small.good {d : Dat} (h : Small d) : Good d := ⟨h.1, by have := deepN_parts d; have := h.2.2; omega⟩
end Seat
end Go.Proofs.YtenpjkcclmmlhaaDoor
namespace Go.Proofs.YtenpjkcclmmlhaaDoor
open Go.AS Go.RowKit
set_option linter.unusedVariables false
set_option linter.unusedSimpArgs false
set_option maxRecDepth 100000
set_option maxHeartbeats 4000000
namespace Seat
theorem one_long {s : ByteArray} (h : s.size ≤ 20000) : oneR s = lnR s := by
  unfold oneR
  rw [if_neg (by omega)]; rfl
theorem one_big {s : ByteArray} (h : 20000 < s.size) : oneR s = (.zero, 0, 3) := by
  unfold oneR
  rw [if_pos h]
noncomputable def reS (f : Nat) (args : List PV) : Option (PV × Ob) := match f, args with
  | 58, [.str s] => some (.tup [.agg (ndJ (lnX s)), .agg (ndP (lnX s)), .int .i64 (lnA s), .int .i64 (lnE s)], [(Nat.ble s.size 1099511627776, true)])
  | 41, [.agg cs] => some (.int .i64 (ofCells chkD 0 cs), [(isGood cs, true)])
  | 42, [.agg cs] => some (.str (mkS (txC cs)), [(isTxt cs, true), (Nat.ble 1 (txC cs).length, true)])
  | _, _ => none
theorem reS_ok (f : Nat) (args : List PV) (r : PV) (o : Ob) (h : reS f args = some (r, o)) (ho : ∀ p ∈ o, p.1 = p.2) (_ : pureL args = true) : Pure G0 f args (fun x => x = r) := by
  unfold reS at h
  split at h
  · rename_i s _
    cases h
    exact long_ok s (Nat.le_of_ble_eq_true (ho _ (List.mem_singleton.2 rfl)))
  · cases h
    obtain ⟨d, rfl, h1⟩ := isGood_of (ho _ (List.mem_singleton.2 rfl))
    rw [ofCells_at]; exact dcheck_ok d h1
  · rename_i cs _
    cases h
    have h1 := ho (isTxt cs, true) (by simp)
    have h2 := ho (Nat.ble 1 (txC cs).length, true) (by simp)
    obtain ⟨d, rfl, g1, g2, g3⟩ := isTxt_of h1
    rw [txC_at] at h2 ⊢
    exact text_prog d g1 g2 (Nat.le_of_ble_eq_true h2) g3
  · cases h
noncomputable def SRe (l : List (Nat × List (Nat × Bool))) (v : List (Nat × List (Nat × PV))) : Cfg G0 := { F := F, hF := hF, S := reS, hS := reS_ok, orc := orcM l, val := valM v }
theorem readP (s : ByteArray) : Pure G0 37 [.str s] (fun r => r = .tup [.agg (ndJ (onX s)), .agg (ndP (onX s)), .int .i64 (onA s), .int .i64 (onE s)]) := by
  refine Pure.nz ?_
  refine Fn.enterB Tryd.func37 Tryd.ntmps37 rfl (Nat.le_of_ble_eq_true rfl) fun C fr fp hnt hnb hp hfr hfp => ?_
  by_cases hb : 20000 < s.size
  · have d1 : decide (20000 < (s.size : Int)) = true := by rw [decide_eq_true_eq]; omega
    exact SWP.runQ (SRe [(17, [(8, true)])] []) 100 17 hnt [2, 3, 4, 5] (e := .ret) (z := ⟨[(2, .ptr 0 0), (3, .ptr 1 0), (4, .int .i64 (0 : Int)), (5, .int .i64 (3 : Int))], ⟨[⟨[.int .i64 (0 : Int), .int .i64 (0 : Int), .str ⟨#[]⟩, PV.nil], 25⟩, ⟨[.int .i64 (0 : Int), PV.nil], 64⟩], []⟩⟩) (o := [(decide (20000 < (↑(ByteArray.size s) : Int)), true), (true, true)]) (by kernel_rfl) (by ((repeat' (first | exact okO_nil | refine okN ?_ ?_)); all_goals first | assumption | rfl | exact same_of rfl | exact sameS_self _ | (simp only [decide_eq_true_eq, decide_eq_false_iff_not, Nat.ble_eq, Nat.beq_eq, beq_eq_false_iff_ne, beq_iff_eq, ne_eq] <;> omega))) (fun st hst => hfr st [2, 3, 4, 5] (by
      rw [hst]
      refine ⟨0, .tup [.agg [.int .i64 0, .int .i64 0, .str ⟨#[]⟩, .nil], .agg [.int .i64 0, .nil], .int .i64 0, .int .i64 3], Nat.le_refl _, Nat.zero_le _, rfl, rfl, rfl, rfl, _, rfl, ?_⟩
      unfold onX onA onE
      rw [one_big hb]; rfl))
  · have d1 : decide (20000 < (s.size : Int)) = false := by rw [decide_eq_false_iff_not]; omega
    have d2 : Nat.ble s.size 1099511627776 = true := by rw [Nat.ble_eq]; omega
    exact SWP.runQ (SRe [(17, [(8, false)])] []) 100 17 hnt [2, 3, 4, 5] (e := .ret) (z := ⟨[(2, .ptr 0 0), (3, .ptr 1 0), (4, .int .i64 (lnA s)), (5, .int .i64 (lnE s))], ⟨[⟨[.int .i64 (ndK (lnX s)), .int .i64 (ndN (lnX s)), .str (ndT (lnX s)), .slice (Dats.len (Nds.dat (ndS (lnX s)))) (Dats.cells (Nds.dat (ndS (lnX s))))], 25⟩, ⟨[.int .i64 (ndA (lnX s)), .slice (Nds.len (ndS (lnX s))) (Nds.pl (ndS (lnX s)))], 64⟩], []⟩⟩) (o := [(decide (20000 < (↑(ByteArray.size s) : Int)), false), (false, false), (true, true), (Nat.ble (ByteArray.size s) 1099511627776, true)]) (by kernel_rfl) (by ((repeat' (first | exact okO_nil | refine okN ?_ ?_)); all_goals first | assumption | rfl | exact same_of rfl | exact sameS_self _ | (simp only [decide_eq_true_eq, decide_eq_false_iff_not, Nat.ble_eq, Nat.beq_eq, beq_eq_false_iff_ne, beq_iff_eq, ne_eq] <;> omega))) (fun st hst => hfr st [2, 3, 4, 5] (by
      rw [hst]
      refine ⟨0, .tup [.agg (ndJ (lnX s)), .agg (ndP (lnX s)), .int .i64 (lnA s), .int .i64 (lnE s)], Nat.le_refl _, Nat.zero_le _, rfl, rfl, rfl, rfl, _, rfl, ?_⟩
      show PV.tup [.agg (nzL (ndJ (lnX s))), .agg (nzL (ndP (lnX s))), .int .i64 (lnA s), .int .i64 (lnE s)] = _
      unfold onX onA onE
      rw [one_long (by omega), ndJ_eq, ndP_eq, Dat.nz, Nd.pl_nz, ← ndJ_eq, ← ndP_eq]; rfl))
def wrB (d : Dat) : ByteArray := if chkD d = 0 then (if (textD d).length ≤ 2000000 then mkS (textD d) else ⟨#[]⟩) else ⟨#[]⟩
def wrE (d : Dat) : Int := if chkD d = 0 then (if (textD d).length ≤ 2000000 then 0 else 3) else chkD d
theorem chk_formed {d : Dat} (h : chkD d = 0) : formedD d = true ∧ w64 (parts d) ≤ 100000 ∧ deepN d ≤ 1000 := by
  unfold chkD at h
  split at h
  · exact absurd h (by decide)
  · rename_i h1
    split at h
    · exact absurd h (by decide)
    · split at h
      · exact absurd h (by decide)
      · refine ⟨by simpa using h1, by omega, by omega⟩
theorem writeP (d : Dat) (hg : Good d) (hr : d.rng) (hp : parts d ≤ 1000000000) : Pure G0 20 [.agg d.cells] (fun r => r = .tup [.str (wrB d), .int .i64 (wrE d)]) := by
  obtain ⟨k, n, s, ks⟩ := d
  have eW : wrB (.mk k n s ks) = _ := rfl
  have eE : wrE (.mk k n s ks) = _ := rfl
  unfold wrB at eW
  unfold wrE at eE
  have ec : ofCells chkD 0 [PV.int IntKind.i64 k, PV.int IntKind.i64 n, PV.str s, PV.slice (Dats.len ks) (Dats.cells ks)] = chkD (.mk k n s ks) := ofCells_at chkD 0 (.mk k n s ks)
  have tx : txC [PV.int IntKind.i64 k, PV.int IntKind.i64 n, PV.str s, PV.slice (Dats.len ks) (Dats.cells ks)] = textD (.mk k n s ks) := txC_at (.mk k n s ks)
  have d0 : isGood [PV.int IntKind.i64 k, PV.int IntKind.i64 n, PV.str s, PV.slice (Dats.len ks) (Dats.cells ks)] = true := isGood_at (d := .mk k n s ks) hg
  refine Fn.enterB Tryd.func20 Tryd.ntmps20 rfl (Nat.le_of_ble_eq_true rfl) fun C fr fp hnt hnb hp' hfr hfp => ?_
  have fin : ∀ st b e, nrm [2, 3] st = ⟨[(2, .str b), (3, .int .i64 e)], ⟨[⟨[PV.int IntKind.i64 k, PV.int IntKind.i64 n, PV.str s, PV.slice (Dats.len ks) (Dats.cells ks)], 25⟩], []⟩⟩ → wrB (.mk k n s ks) = b → wrE (.mk k n s ks) = e → fr st := fun st b e hst h1 h2 => hfr st [2, 3] (by
    rw [hst, h1, h2]
    exact ⟨0, .tup [.str b, .int .i64 e], Nat.le_refl _, Nat.zero_le _, rfl, rfl, rfl, rfl, _, rfl, rfl⟩)
  by_cases h0 : chkD (.mk k n s ks) = 0
  · obtain ⟨hf, _, _⟩ := chk_formed h0
    have hpos := text_pos _ hf
    have hlen := text_len _ hr hf
    have hsz := size_parts (.mk k n s ks)
    have d1 : (!ofCells chkD 0 [PV.int IntKind.i64 k, PV.int IntKind.i64 n, PV.str s, PV.slice (Dats.len ks) (Dats.cells ks)] == (0 : Int)) = false := by rw [ec, h0]; rfl
    have d2 : isTxt [PV.int IntKind.i64 k, PV.int IntKind.i64 n, PV.str s, PV.slice (Dats.len ks) (Dats.cells ks)] = true := isTxt_at (d := .mk k n s ks) hg.1 hr (by omega)
    have d3 : Nat.ble 1 (txC [PV.int IntKind.i64 k, PV.int IntKind.i64 n, PV.str s, PV.slice (Dats.len ks) (Dats.cells ks)]).length = true := by rw [tx, Nat.ble_eq]; exact hpos
    have hsize : (ByteArray.size (mkS (txC [PV.int IntKind.i64 k, PV.int IntKind.i64 n, PV.str s, PV.slice (Dats.len ks) (Dats.cells ks)]))) = (textD (.mk k n s ks)).length := by rw [tx, mkS_size]
    by_cases hl : (textD (.mk k n s ks)).length ≤ 2000000
    · have d4 : decide ((2000000 : Int) < Int.ofNat (ByteArray.size (mkS (txC [PV.int IntKind.i64 k, PV.int IntKind.i64 n, PV.str s, PV.slice (Dats.len ks) (Dats.cells ks)])))) = false := by rw [hsize, decide_eq_false_iff_not, Int.ofNat_eq_natCast]; omega
      exact SWP.runQ (SRe [(17, [(9, false), (15, false)])] []) 100 17 hnt [2, 3] (e := .ret) (z := ⟨[(2, .str (mkS (txC [.int .i64 k, .int .i64 n, .str s, .slice (Dats.len ks) (Dats.cells ks)]))), (3, .int .i64 (0 : Int))], ⟨[⟨[.int .i64 k, .int .i64 n, .str s, .slice (Dats.len ks) (Dats.cells ks)], 25⟩], []⟩⟩) (o := [(true, true), (isGood [PV.int IntKind.i64 k, PV.int IntKind.i64 n, PV.str s, PV.slice (Dats.len ks) (Dats.cells ks)], true), (!ofCells chkD (0 : Int) [PV.int IntKind.i64 k, PV.int IntKind.i64 n, PV.str s, PV.slice (Dats.len ks) (Dats.cells ks)] == (0 : Int), false), (false, false), (true, true), (isTxt [PV.int IntKind.i64 k, PV.int IntKind.i64 n, PV.str s, PV.slice (Dats.len ks) (Dats.cells ks)], true), (Nat.ble 1 (List.length (txC [PV.int IntKind.i64 k, PV.int IntKind.i64 n, PV.str s, PV.slice (Dats.len ks) (Dats.cells ks)])), true), (decide ((2000000 : Int) < Int.ofNat (ByteArray.size (mkS (txC [PV.int IntKind.i64 k, PV.int IntKind.i64 n, PV.str s, PV.slice (Dats.len ks) (Dats.cells ks)])))), false), (false, false)]) (by kernel_rfl) (by ((repeat' (first | exact okO_nil | refine okN ?_ ?_)); all_goals first | assumption | rfl | exact same_of rfl | exact sameS_self _ | (simp only [decide_eq_true_eq, decide_eq_false_iff_not, Nat.ble_eq, Nat.beq_eq, beq_eq_false_iff_ne, beq_iff_eq, ne_eq] <;> omega))) (fun st hst => fin st _ _ hst (by rw [tx]; unfold wrB; rw [if_pos h0, if_pos hl]) (by unfold wrE; rw [if_pos h0, if_pos hl]))
    · have d4 : decide ((2000000 : Int) < Int.ofNat (ByteArray.size (mkS (txC [PV.int IntKind.i64 k, PV.int IntKind.i64 n, PV.str s, PV.slice (Dats.len ks) (Dats.cells ks)])))) = true := by rw [hsize, decide_eq_true_eq, Int.ofNat_eq_natCast]; omega
      exact SWP.runQ (SRe [(17, [(9, false), (15, true)])] []) 100 17 hnt [2, 3] (e := .ret) (z := ⟨[(2, .str ⟨#[]⟩), (3, .int .i64 (3 : Int))], ⟨[⟨[.int .i64 k, .int .i64 n, .str s, .slice (Dats.len ks) (Dats.cells ks)], 25⟩], []⟩⟩) (o := [(true, true), (isGood [PV.int IntKind.i64 k, PV.int IntKind.i64 n, PV.str s, PV.slice (Dats.len ks) (Dats.cells ks)], true), (!ofCells chkD (0 : Int) [PV.int IntKind.i64 k, PV.int IntKind.i64 n, PV.str s, PV.slice (Dats.len ks) (Dats.cells ks)] == (0 : Int), false), (false, false), (true, true), (isTxt [PV.int IntKind.i64 k, PV.int IntKind.i64 n, PV.str s, PV.slice (Dats.len ks) (Dats.cells ks)], true), (Nat.ble 1 (List.length (txC [PV.int IntKind.i64 k, PV.int IntKind.i64 n, PV.str s, PV.slice (Dats.len ks) (Dats.cells ks)])), true), (decide ((2000000 : Int) < Int.ofNat (ByteArray.size (mkS (txC [PV.int IntKind.i64 k, PV.int IntKind.i64 n, PV.str s, PV.slice (Dats.len ks) (Dats.cells ks)])))), true), (true, true)]) (by kernel_rfl) (by ((repeat' (first | exact okO_nil | refine okN ?_ ?_)); all_goals first | assumption | rfl | exact same_of rfl | exact sameS_self _ | (simp only [decide_eq_true_eq, decide_eq_false_iff_not, Nat.ble_eq, Nat.beq_eq, beq_eq_false_iff_ne, beq_iff_eq, ne_eq] <;> omega))) (fun st hst => fin st _ _ hst (by unfold wrB; rw [if_pos h0, if_neg hl]) (by unfold wrE; rw [if_pos h0, if_neg hl]))
  · have d1 : (!ofCells chkD 0 [PV.int IntKind.i64 k, PV.int IntKind.i64 n, PV.str s, PV.slice (Dats.len ks) (Dats.cells ks)] == (0 : Int)) = true := by rw [ec, beqF h0]; rfl
    exact SWP.runQ (SRe [(17, [(9, true)])] []) 100 17 hnt [2, 3] (e := .ret) (z := ⟨[(2, .str ⟨#[]⟩), (3, .int .i64 (ofCells chkD (0 : Int) [.int .i64 k, .int .i64 n, .str s, .slice (Dats.len ks) (Dats.cells ks)]))], ⟨[⟨[.int .i64 k, .int .i64 n, .str s, .slice (Dats.len ks) (Dats.cells ks)], 25⟩], []⟩⟩) (o := [(true, true), (isGood [PV.int IntKind.i64 k, PV.int IntKind.i64 n, PV.str s, PV.slice (Dats.len ks) (Dats.cells ks)], true), (!ofCells chkD (0 : Int) [PV.int IntKind.i64 k, PV.int IntKind.i64 n, PV.str s, PV.slice (Dats.len ks) (Dats.cells ks)] == (0 : Int), true), (true, true)]) (by kernel_rfl) (by ((repeat' (first | exact okO_nil | refine okN ?_ ?_)); all_goals first | assumption | rfl | exact same_of rfl | exact sameS_self _ | (simp only [decide_eq_true_eq, decide_eq_false_iff_not, Nat.ble_eq, Nat.beq_eq, beq_eq_false_iff_ne, beq_iff_eq, ne_eq] <;> omega))) (fun st hst => fin st _ _ hst (by unfold wrB; rw [if_neg h0]) (by rw [ec]; unfold wrE; rw [if_neg h0]))
end Seat
end Go.Proofs.YtenpjkcclmmlhaaDoor
namespace Go.Proofs.YtenpjkcclmmlhaaDoor
open Go.AS Go.RowKit
set_option linter.unusedVariables false
set_option linter.unusedSimpArgs false
set_option maxRecDepth 100000
set_option maxHeartbeats 4000000
namespace Seat
noncomputable def rfyS (f : Nat) (args : List PV) : Option (PV × Ob) := match f, args with
  | 37, [.str s] => some (.tup [.agg (ndJ (onX s)), .agg (ndP (onX s)), .int .i64 (onA s), .int .i64 (onE s)], [])
  | _, _ => none
theorem rfyS_ok (f : Nat) (args : List PV) (r : PV) (o : Ob) (h : rfyS f args = some (r, o)) (ho : ∀ p ∈ o, p.1 = p.2) (_ : pureL args = true) : Pure G0 f args (fun x => x = r) := by
  unfold rfyS at h
  split at h
  · cases h
    exact readP _
  · cases h
noncomputable def SRf (l : List (Nat × List (Nat × Bool))) (v : List (Nat × List (Nat × PV))) : Cfg G0 := { F := F, hF := hF, S := rfyS, hS := rfyS_ok, orc := orcM l, val := valM v }
def intL (l : List Int) : List PV := l.map (.int .i64)
theorem ReadP (s : ByteArray) : Pure G0 15 [.str s] (fun r => r = .tup [.agg (ndJ (onX s)), .int .i64 (onA s), .int .i64 (onE s)]) := by
  refine Fn.enterB Tryd.func15 Tryd.ntmps15 rfl (Nat.le_of_ble_eq_true rfl) fun C fr fp hnt hnb hp hfr hfp => ?_
  exact SWP.runQ (SRf [] []) 100 19 hnt [2, 3, 4] (e := .ret) (z := ⟨[(2, .ptr 0 0), (3, .int .i64 (onA s)), (4, .int .i64 (onE s))], ⟨[⟨[.int .i64 (ndK (onX s)), .int .i64 (ndN (onX s)), .str (ndT (onX s)), .slice (Dats.len (Nds.dat (ndS (onX s)))) (Dats.cells (Nds.dat (ndS (onX s))))], 25⟩, ⟨[.int .i64 (ndK (onX s)), .int .i64 (ndN (onX s)), .str (ndT (onX s)), .slice (Dats.len (Nds.dat (ndS (onX s)))) (Dats.cells (Nds.dat (ndS (onX s))))], 25⟩, ⟨[.int .i64 (ndA (onX s)), .slice (Nds.len (ndS (onX s))) (Nds.pl (ndS (onX s)))], 64⟩], []⟩⟩) (o := [(true, true)]) (by kernel_rfl) (by ((repeat' (first | exact okO_nil | refine okN ?_ ?_)); all_goals first | assumption | rfl | exact same_of rfl | exact sameS_self _ | (simp only [decide_eq_true_eq, decide_eq_false_iff_not, Nat.ble_eq, Nat.beq_eq, beq_eq_false_iff_ne, beq_iff_eq, ne_eq] <;> omega))) (fun st hst => hfr st [2, 3, 4] (by
    rw [hst]
    exact ⟨0, .tup [.agg (ndJ (onX s)), .int .i64 (onA s), .int .i64 (onE s)], Nat.le_refl _, Nat.zero_le _, rfl, rfl, rfl, rfl, _, rfl, rfl⟩))
theorem pl_len : ∀ ks : Nds, ks.pl.length = ks.len * 2
  | .nil => rfl
  | .cons (.mk k n t xs a) ds => by simp only [Nds.pl, Nd.pl, Nds.len, List.length_append, pl_len ds, List.length_cons, List.length_nil]; omega
theorem pl_get : ∀ (ds : Nds) (i : Nat), i < ds.len → (ds.pl.drop (i * 2)).take 2 = ndP (ds.get i)
  | .nil, i, h => by simp [Nds.len] at h
  | .cons (.mk k n t xs a) ds, 0, h => rfl
  | .cons (.mk k n t xs a) ds, i + 1, h => by
    have e : (i + 1) * 2 = i * 2 + 1 + 1 := by omega
    rw [e]
    exact pl_get ds i (by simp only [Nds.len] at h; omega)
def ofR : Nd → List Int → Int × Int
  | X, [] => (ndA X, 0)
  | X, i :: r => if i < 0 ∨ (Nds.len (ndS X) : Int) ≤ i then (0, 5) else ofR (Nds.get (ndS X) i.toNat) r
def offR (s : ByteArray) (l : List Int) : Int × Int := if onE s = 0 then ofR (onX s) l else (0, onE s)
theorem offsetP (s : ByteArray) (l : List Int) (hl : l.length ≤ 1099511627776) : Pure G0 24 [.str s, .slice l.length (intL l)] (fun r => r = .tup [.int .i64 (offR s l).1, .int .i64 (offR s l).2]) := by
  refine Fn.enterB Tryd.func24 Tryd.ntmps24 rfl (Nat.le_of_ble_eq_true rfl) fun C fr fp hnt hnb hp hfr hfp => ?_
  have fin : ∀ st a e bx, nrm [4, 5] st = ⟨[(4, .int .i64 a), (5, .int .i64 e)], ⟨bx, []⟩⟩ → offR s l = (a, e) → fr st := fun st a e bx hst h => hfr st [4, 5] (by
    rw [hst, h]
    exact ⟨0, .tup [.int .i64 a, .int .i64 e], Nat.le_refl _, Nat.zero_le _, rfl, rfl, rfl, rfl, _, rfl, rfl⟩)
  have hil : (intL l).length = l.length := by simp [intL]
  obtain ⟨cs, hcs⟩ : ∃ cs, cs = intL l := ⟨_, rfl⟩
  obtain ⟨m, hm⟩ : ∃ m, m = l.length := ⟨_, rfl⟩
  rw [← hcs, ← hm]
  refine Q.runSeq (SRf [] []) 100 45 hnt [0, 1, 4, 5] (z := ⟨[(0, .str s), (1, .slice m cs), (4, .int .i64 (0 : Int)), (5, .int .i64 (0 : Int))], ⟨[], []⟩⟩) (o := []) (by kernel_rfl) (by ((repeat' (first | exact okO_nil | refine okN ?_ ?_)); all_goals first | assumption | rfl | exact same_of rfl | exact sameS_self _ | (simp only [decide_eq_true_eq, decide_eq_false_iff_not, Nat.ble_eq, Nat.beq_eq, beq_eq_false_iff_ne, beq_iff_eq, ne_eq] <;> omega))) ?_
  refine Q.runSeq (SRf [] []) 100 45 hnt [1, 7, 9] (z := ⟨[(1, .slice m cs), (7, .ptr 1 0), (9, .int .i64 (onE s))], ⟨[⟨ndJ (onX s), 25⟩, ⟨ndP (onX s), 64⟩], []⟩⟩) (o := [(true, true)]) (by kernel_rfl) (by ((repeat' (first | exact okO_nil | refine okN ?_ ?_)); all_goals first | assumption | rfl | exact same_of rfl | exact sameS_self _ | (simp only [decide_eq_true_eq, decide_eq_false_iff_not, Nat.ble_eq, Nat.beq_eq, beq_eq_false_iff_ne, beq_iff_eq, ne_eq] <;> omega))) ?_
  have eq : offR s l = (if onE s = 0 then ofR (onX s) l else (0, onE s) : Int × Int) := rfl
  obtain ⟨e, he⟩ : ∃ e, e = onE s := ⟨_, rfl⟩
  obtain ⟨X, hX⟩ : ∃ e, e = onX s := ⟨_, rfl⟩
  rw [← he, ← hX] at eq ⊢
  by_cases h0 : e = 0
  · have d1 : (!e == (0 : Int)) = false := by rw [h0]; rfl
    rw [if_pos h0] at eq
    refine Q.runSeq (SRf [(45, [(20, false)])] []) 100 45 hnt [1, 7] (z := ⟨[(1, .slice m cs), (7, .ptr 1 0)], ⟨[⟨[.int .i64 (ndK X), .int .i64 (ndN X), .str (ndT X), .slice (Dats.len (Nds.dat (ndS X))) (Dats.cells (Nds.dat (ndS X)))], 25⟩, ⟨[.int .i64 (ndA X), .slice (Nds.len (ndS X)) (Nds.pl (ndS X))], 64⟩], []⟩⟩) (o := [(!e == (0 : Int), false), (false, false)]) (by kernel_rfl) (by ((repeat' (first | exact okO_nil | refine okN ?_ ?_)); all_goals first | assumption | rfl | exact same_of rfl | exact sameS_self _ | (simp only [decide_eq_true_eq, decide_eq_false_iff_not, Nat.ble_eq, Nat.beq_eq, beq_eq_false_iff_ne, beq_iff_eq, ne_eq] <;> omega))) ?_
    refine Q.seq fun K hK => ?_
    refine Q.runSeq (SRf [] []) 100 45 hnt [7, 22, 23, 24] (z := ⟨[(7, .ptr 1 0), (22, .slice m cs), (23, .int .i64 (Int.ofNat m)), (24, .int .i64 (0 : Int))], ⟨[⟨[.int .i64 (ndK X), .int .i64 (ndN X), .str (ndT X), .slice (Dats.len (Nds.dat (ndS X))) (Dats.cells (Nds.dat (ndS X)))], 25⟩, ⟨[.int .i64 (ndA X), .slice (Nds.len (ndS X)) (Nds.pl (ndS X))], 64⟩], []⟩⟩) (o := []) (by kernel_rfl) (by ((repeat' (first | exact okO_nil | refine okN ?_ ?_)); all_goals first | assumption | rfl | exact same_of rfl | exact sameS_self _ | (simp only [decide_eq_true_eq, decide_eq_false_iff_not, Nat.ble_eq, Nat.beq_eq, beq_eq_false_iff_ne, beq_iff_eq, ne_eq] <;> omega))) ?_
    obtain ⟨d, hd⟩ : ∃ d : Box, d = ⟨[.int .i64 (ndK X), .int .i64 (ndN X), .str (ndT X), .slice (Dats.len (Nds.dat (ndS X))) (Dats.cells (Nds.dat (ndS X)))], 25⟩ := ⟨_, rfl⟩
    refine Q.block ?_
    let T (j : Nat) (Y : Nd) : AS := ⟨[(7, .ptr 1 0), (22, .slice m cs), (23, .int .i64 m), (24, .int .i64 j)], ⟨[d, ⟨ndP Y, 64⟩], []⟩⟩
    refine Q.loopI (σ := { x : Nat × Nd // x.1 ≤ m ∧ ofR x.2 (l.drop x.1) = ofR X l }) [7, 22, 23, 24] (fun x => T x.1.1 x.1.2) (fun x => m - x.1.1) ⟨(0, X), Nat.zero_le _, rfl⟩ (by show _ = (⟨[(7, .ptr 1 0), (22, .slice m cs), (23, .int .i64 m), (24, .int .i64 (0 : Nat))], ⟨[d, ⟨ndP X, 64⟩], []⟩⟩ : AS); rw [hd]; rfl) fun ⟨(j, Y), hj, hk⟩ => ?_
    have hj : j ≤ m := hj
    have hk : ofR Y (l.drop j) = ofR X l := hk
    rw [← hk] at eq
    obtain ⟨k, n, t, xs, xa⟩ := Y
    show SWP G0 C _ _ ⟨[(7, .ptr 1 0), (22, .slice m cs), (23, .int .i64 m), (24, .int .i64 j)], ⟨[d, ⟨[.int .i64 xa, .slice xs.len xs.pl], 64⟩], []⟩⟩
    rcases Nat.lt_or_ge j m with hlt | hge
    · have b1 := lt_at hlt
      have b2 := in_at hlt
      obtain ⟨i, hi⟩ : ∃ i, l[j]? = some i := ⟨_, List.getElem?_eq_getElem (by omega)⟩
      have hdr : l.drop j = i :: l.drop (j + 1) := by
        have := (List.getElem?_eq_some_iff.1 hi)
        obtain ⟨h1, h2⟩ := this
        rw [List.drop_eq_getElem_cons h1, h2]
      have hcj : cs.drop j = .int .i64 i :: cs.drop (j + 1) := by rw [hcs, intL, ← List.map_drop, hdr]; simp [List.map_drop]
      have b3 : decide (1 ≤ List.length (List.drop (Int.toNat (j : Int) * 1) cs)) = true := by rw [Int.toNat_natCast, Nat.mul_one, hcj]; simp
      have b4 : same (List.headD (List.drop (Int.toNat (j : Int) * 1) cs) .junk) (.int .i64 i) = true := same_of (by rw [Int.toNat_natCast, Nat.mul_one, hcj]; rfl)
      rw [hdr, ofR] at eq
      have wj : IntKind.wrap IntKind.i64 (Int.ofNat (j + 1)) = ((j + 1 : Nat) : Int) := wrapI (j + 1) (by omega)
      by_cases hneg : i < 0
      · have b6 := decide_eq_true hneg
        rw [if_pos (.inl hneg)] at eq
        exact SWP.runQ (SRf [(45, [(25, true), (26, true), (27, true), (29, true)])] [(45, [(27, .int .i64 i)])]) 100 45 hnt [4, 5] (e := .ret) (z := ⟨[(4, .int .i64 (0 : Int)), (5, .int .i64 (5 : Int))], ⟨[d, ⟨[.int .i64 xa, .slice (Nds.len xs) (Nds.pl xs)], 64⟩], []⟩⟩) (o := [(decide ((j : Int) < (m : Int)), true), (true, true), (decide (0 ≤ (j : Int) ∧ (j : Int) < (m : Int)), true), (decide (1 ≤ List.length (List.drop (Int.toNat (j : Int) * 1) cs)), true), (same (List.headD (List.drop (Int.toNat (j : Int) * 1) cs) .junk) (.int .i64 i), true), (decide (i < 0), true)]) (by kernel_rfl) (by ((repeat' (first | exact okO_nil | refine okN ?_ ?_)); all_goals first | assumption | rfl | exact same_of rfl | exact sameS_self _ | (simp only [decide_eq_true_eq, decide_eq_false_iff_not, Nat.ble_eq, Nat.beq_eq, beq_eq_false_iff_ne, beq_iff_eq, ne_eq] <;> omega))) (fun st hst => fin st 0 5 _ hst eq)
      · have b6 := decide_eq_false hneg
        by_cases hbig : (xs.len : Int) ≤ i
        · have b7 := decide_eq_true hbig
          rw [if_pos (.inr hbig)] at eq
          exact SWP.runQ (SRf [(45, [(25, true), (26, true), (27, true), (29, false), (35, true)])] [(45, [(27, .int .i64 i)])]) 100 45 hnt [4, 5] (e := .ret) (z := ⟨[(4, .int .i64 (0 : Int)), (5, .int .i64 (5 : Int))], ⟨[d, ⟨[.int .i64 xa, .slice (Nds.len xs) (Nds.pl xs)], 64⟩], []⟩⟩) (o := [(decide ((j : Int) < (m : Int)), true), (true, true), (decide (0 ≤ (j : Int) ∧ (j : Int) < (m : Int)), true), (decide (1 ≤ List.length (List.drop (Int.toNat (j : Int) * 1) cs)), true), (same (List.headD (List.drop (Int.toNat (j : Int) * 1) cs) .junk) (.int .i64 i), true), (decide (i < 0), false), (decide ((Nds.len xs : Int) ≤ i), true)]) (by kernel_rfl) (by ((repeat' (first | exact okO_nil | refine okN ?_ ?_)); all_goals first | assumption | rfl | exact same_of rfl | exact sameS_self _ | (simp only [decide_eq_true_eq, decide_eq_false_iff_not, Nat.ble_eq, Nat.beq_eq, beq_eq_false_iff_ne, beq_iff_eq, ne_eq] <;> omega))) (fun st hst => fin st 0 5 _ hst eq)
        · have b7 := decide_eq_false hbig
          rw [if_neg (by intro g; rcases g with g | g; exact hneg g; exact hbig g)] at eq
          have hit : i.toNat < xs.len := by omega
          have b8 : decide (0 ≤ i ∧ i < (xs.len : Int)) = true := by rw [decide_eq_true_eq]; omega
          have hpg := pl_get xs i.toNat hit
          rcases hY : xs.get i.toNat with ⟨k', n', t', ys, ya⟩
          rw [hY] at hpg
          have b9 : decide (2 ≤ (xs.pl.drop (i.toNat * 2)).length) = true := by simp only [List.length_drop, pl_len, decide_eq_true_eq]; omega
          have b10 : same (.agg ((xs.pl.drop (i.toNat * 2)).take 2)) (.agg [.int .i64 ya, .slice ys.len ys.pl]) = true := same_of (by rw [hpg]; rfl)
          exact SWP.runQ (SRf [(45, [(25, true), (26, true), (27, true), (29, false), (35, false), (40, true), (41, true)])] [(45, [(27, .int .i64 i), (41, .agg [.int .i64 ya, .slice ys.len ys.pl])])]) 100 45 hnt [7, 22, 23, 24] (e := .normal) (z := ⟨[(7, .ptr 1 0), (22, .slice m cs), (23, .int .i64 (Int.ofNat m)), (24, .int .i64 (IntKind.wrap IntKind.i64 (Int.ofNat (j + 1))))], ⟨[d, ⟨[.int .i64 ya, .slice (Nds.len ys) (Nds.pl ys)], 64⟩], []⟩⟩) (o := [(decide ((j : Int) < (m : Int)), true), (true, true), (decide (0 ≤ (j : Int) ∧ (j : Int) < (m : Int)), true), (decide (1 ≤ List.length (List.drop (Int.toNat (j : Int) * 1) cs)), true), (same (List.headD (List.drop (Int.toNat (j : Int) * 1) cs) .junk) (.int .i64 i), true), (decide (i < 0), false), (decide ((Nds.len xs : Int) ≤ i), false), (decide (0 ≤ i ∧ i < (Nds.len xs : Int)), true), (decide (2 ≤ List.length (List.drop (Int.toNat i * 2) (Nds.pl xs))), true), (same (.agg (List.take 2 (List.drop (Int.toNat i * 2) (Nds.pl xs)))) (.agg [.int .i64 ya, .slice (Nds.len ys) (Nds.pl ys)]), true)]) (by kernel_rfl) (by ((repeat' (first | exact okO_nil | refine okN ?_ ?_)); all_goals first | assumption | rfl | exact same_of rfl | exact sameS_self _ | (simp only [decide_eq_true_eq, decide_eq_false_iff_not, Nat.ble_eq, Nat.beq_eq, beq_eq_false_iff_ne, beq_iff_eq, ne_eq] <;> omega))) (fun st hst => ⟨⟨(j + 1, xs.get i.toNat), hlt, by rw [← hk, hdr, ofR, if_neg (by intro g; rcases g with g | g; exact hneg g; exact hbig g)]; rfl⟩, Nat.sub_lt_sub_left hlt (Nat.lt_succ_self j), by rw [hst, wj]; show _ = (⟨[(7, .ptr 1 0), (22, .slice m cs), (23, .int .i64 m), (24, .int .i64 (j + 1 : Nat))], ⟨[d, ⟨ndP (xs.get i.toNat), 64⟩], []⟩⟩ : AS); rw [hY]; rfl⟩)
    · have hjm : j = m := by omega
      have b1 := ge_at hge
      rw [List.drop_of_length_le (by omega)] at eq
      refine SWP.runQ (SRf [(45, [(25, false)])] []) 100 45 hnt [7] (e := .exit 0) (z := ⟨[(7, .ptr 1 0)], ⟨[d, ⟨[.int .i64 xa, .slice (Nds.len xs) (Nds.pl xs)], 64⟩], []⟩⟩) (o := [(decide ((↑j : Int) < (↑m : Int)), false), (false, false)]) (by kernel_rfl) (by ((repeat' (first | exact okO_nil | refine okN ?_ ?_)); all_goals first | assumption | rfl | exact same_of rfl | exact sameS_self _ | (simp only [decide_eq_true_eq, decide_eq_false_iff_not, Nat.ble_eq, Nat.beq_eq, beq_eq_false_iff_ne, beq_iff_eq, ne_eq] <;> omega))) (fun st hst => hK st (.norm [7] ?_))
      rw [hst]
      exact SWP.runQ (SRf [] []) 100 45 hnt [4, 5] (e := .ret) (z := ⟨[(4, .int .i64 xa), (5, .int .i64 (0 : Int))], ⟨[d, ⟨[.int .i64 xa, .slice (Nds.len xs) (Nds.pl xs)], 64⟩], []⟩⟩) (o := []) (by kernel_rfl) (by ((repeat' (first | exact okO_nil | refine okN ?_ ?_)); all_goals first | assumption | rfl | exact same_of rfl | exact sameS_self _ | (simp only [decide_eq_true_eq, decide_eq_false_iff_not, Nat.ble_eq, Nat.beq_eq, beq_eq_false_iff_ne, beq_iff_eq, ne_eq] <;> omega))) (fun st hst => fin st xa 0 _ hst eq)
  · have d1 : (!e == (0 : Int)) = true := by rw [beqF h0]; rfl
    rw [if_neg h0] at eq
    refine Q.seq fun K hK => ?_
    exact SWP.runQ (SRf [(45, [(20, true)])] []) 100 45 hnt [4, 5] (e := .ret) (z := ⟨[(4, .int .i64 (0 : Int)), (5, .int .i64 e)], ⟨[⟨[.int .i64 (ndK X), .int .i64 (ndN X), .str (ndT X), .slice (Dats.len (Nds.dat (ndS X))) (Dats.cells (Nds.dat (ndS X)))], 25⟩, ⟨[.int .i64 (ndA X), .slice (Nds.len (ndS X)) (Nds.pl (ndS X))], 64⟩], []⟩⟩) (o := [(!e == (0 : Int), true), (true, true)]) (by kernel_rfl) (by ((repeat' (first | exact okO_nil | refine okN ?_ ?_)); all_goals first | assumption | rfl | exact same_of rfl | exact sameS_self _ | (simp only [decide_eq_true_eq, decide_eq_false_iff_not, Nat.ble_eq, Nat.beq_eq, beq_eq_false_iff_ne, beq_iff_eq, ne_eq] <;> omega))) (fun st hst => fin st 0 e _ hst eq)
end Seat
end Go.Proofs.YtenpjkcclmmlhaaDoor
namespace Go.Proofs.YtenpjkcclmmlhaaDoor
open Go.AS
set_option linter.unusedVariables false
set_option linter.unusedSimpArgs false
set_option maxRecDepth 10000
namespace Seat
theorem cut_bt {s : ByteArray} {b i : Nat} (hb : b ≤ s.size) (h : i < b) : bt (s.extract 0 b) (i : Int) = bt s (i : Int) := by
  have hs : (s.extract 0 b).size = b := by rw [ByteArray.size_extract]; omega
  obtain ⟨c, h1, h2⟩ := bt_drop0 s i (by omega)
  obtain ⟨d, h3, h4⟩ := bt_drop0 (s.extract 0 b) i (by omega)
  rw [h2, h4]
  have e := congrArg List.head? h3
  rw [ext_list, List.drop_zero, Nat.sub_zero, List.drop_take, h1, show b - i = (b - i - 1) + 1 by omega, List.take_succ_cons, List.head?_cons, List.head?_cons, Option.some.injEq] at e
  rw [e]
theorem cut_size {s : ByteArray} {b : Nat} (hb : b ≤ s.size) : (s.extract 0 b).size = b := by rw [ByteArray.size_extract]; omega
theorem rem_cut {s : ByteArray} {b : Nat} (hb : b ≤ s.size) : ∀ k a, b - a ≤ k → a ≤ b → remE (s.extract 0 b) a = min (remE s a) b
  | 0, a, hk, ha => by
    have := remE_ge s a
    rw [remE_eq, if_neg (by rw [cut_size hb]; omega)]; omega
  | k + 1, a, hk, ha => by
    rcases Nat.lt_or_ge a b with hl | hl
    · rw [remE_eq, remE_eq s, cut_size hb, cut_bt hb hl]
      by_cases h : bt s (a : Int) ≠ 10
      · rw [if_pos ⟨hl, h⟩, if_pos ⟨by omega, h⟩]; exact rem_cut hb k (a + 1) (by omega) hl
      · rw [if_neg (fun g => h g.2), if_neg (fun g => h g.2)]; omega
    · have := remE_ge s a
      rw [remE_eq, if_neg (by rw [cut_size hb]; omega)]; omega
theorem let_cut {s : ByteArray} {b : Nat} (hb : b ≤ s.size) : ∀ k a, b - a ≤ k → a ≤ b → letE (s.extract 0 b) a = min (letE s a) b
  | 0, a, hk, ha => by
    have := letE_ge s a
    rw [letE_eq, if_neg (by rw [cut_size hb]; omega)]; omega
  | k + 1, a, hk, ha => by
    rcases Nat.lt_or_ge a b with hl | hl
    · rw [letE_eq, letE_eq s, cut_size hb, cut_bt hb hl]
      by_cases h : letC (bt s (a : Int)) = true
      · rw [if_pos ⟨hl, h⟩, if_pos ⟨by omega, h⟩]; exact let_cut hb k (a + 1) (by omega) hl
      · rw [if_neg (fun g => h g.2), if_neg (fun g => h g.2)]; omega
    · have := letE_ge s a
      rw [letE_eq, if_neg (by rw [cut_size hb]; omega)]; omega
theorem skp_cut {s : ByteArray} {b : Nat} (hb : b ≤ s.size) : ∀ k a, b - a ≤ k → a ≤ b → skp (s.extract 0 b) a = min (skp s a) b
  | 0, a, hk, ha => by
    have := skp_ge s a
    rw [skp_eq, if_neg (by rw [cut_size hb]; omega)]; omega
  | k + 1, a, hk, ha => by
    rcases Nat.lt_or_ge a b with hl | hl
    · have e1 := skp_eq (s.extract 0 b) a
      have e2 := skp_eq s a
      rw [cut_size hb, cut_bt hb hl, if_pos hl] at e1
      rw [if_pos (by omega)] at e2
      rw [e1, e2]
      clear e1 e2
      by_cases h : blank (bt s (a : Int)) = true
      · rw [if_pos h, if_pos h]; exact skp_cut hb k (a + 1) (by omega) hl
      · rw [if_neg h, if_neg h]
        by_cases h9 : bt s (a : Int) = 59
        · rw [if_pos h9, if_pos h9, rem_cut hb _ a (Nat.le_refl _) ha]
          have h1 := remE_59 (by omega : a < s.size) h9
          rcases Nat.lt_or_ge b (remE s a) with h2 | h2
          · have h3 := skp_ge s (remE s a)
            rw [Nat.min_eq_right (by omega), skp_out _ b (by rw [cut_size hb]; exact Nat.le_refl _)]; omega
          · rw [Nat.min_eq_left h2]; exact skp_cut hb k _ (by omega) h2
        · rw [if_neg h9, if_neg h9]; omega
    · have := skp_ge s a
      rw [skp_eq, if_neg (by rw [cut_size hb]; omega)]; omega
theorem ext_cut {s : ByteArray} {a b c : Nat} (hb : b ≤ s.size) (h : c ≤ b) : (s.extract 0 b).extract a c = s.extract a c := by
  rw [ByteArray.extract_extract, Nat.zero_add, Nat.zero_add, Nat.min_eq_left h]
theorem atom_cut {s : ByteArray} {b a : Nat} (hb : b ≤ s.size) (ha : a ≤ b) (h : letE s a ≤ b) : atomR (s.extract 0 b) a = atomR s a := by
  unfold atomR
  rw [let_cut hb _ a (Nat.le_refl _) ha, Nat.min_eq_left h, ext_cut hb h]
theorem goes_cut {s : ByteArray} {b : Nat} {r : RS} (hb : b ≤ s.size) (h : r.a < b) : goes (s.extract 0 b) r = goes s r := by
  unfold goes
  rw [cut_size hb, cut_bt hb h, decide_eq_true h, decide_eq_true (by omega : r.a < s.size)]
theorem rdL_cut {s : ByteArray} {b n : Nat} (hb : b ≤ s.size) (ih : ∀ a, a ≤ b → (rdD s n a).2.e = 0 → (rdD s n a).2.a ≤ b → rdD (s.extract 0 b) n a = rdD s n a) :
    ∀ k k' x l, x ≤ b → s.size + 1 - x ≤ k → b + 1 - x ≤ k' → (rdL (rdD s n) s k ⟨x, 0, 0⟩ l).2.e = 0 → (rdL (rdD s n) s k ⟨x, 0, 0⟩ l).2.a < b → rdL (rdD (s.extract 0 b) n) (s.extract 0 b) k' ⟨x, 0, 0⟩ l = rdL (rdD s n) s k ⟨x, 0, 0⟩ l := by
  intro k
  induction k with
  | zero => intro k' x l hx hk; omega
  | succ k ihk =>
    intro k' x l hx hk hk' he hlt
    obtain ⟨k', rfl⟩ : ∃ j, k' = j + 1 := ⟨k' - 1, by omega⟩
    have hst := rdL_steps (rdD_steps s n) (k + 1) ⟨x, 0, 0⟩ l (In0 (by omega)) (fun _ => hk)
    have hxb : x < b := Nat.lt_of_le_of_lt (hst.2.2.1 he) hlt
    have hg := goes_cut (r := ⟨x, 0, 0⟩) hb hxb
    rw [rdL] at he hlt ⊢
    rw [rdL, hg]
    by_cases hg' : goes s ⟨x, 0, 0⟩ = true
    · rw [if_pos hg'] at he hlt ⊢
      rw [if_pos hg']
      have hsx := rdD_steps s n x (by omega)
      by_cases h0 : (rdD s n x).2.e = 0
      · have h1 := hsx.2 h0
        have h2 := hsx.1.ok h0
        have h3 := skp_ge s (rdD s n x).2.a
        simp only [] at he hlt ⊢
        rw [h0, h2.2] at he hlt
        have hst2 := rdL_steps (rdD_steps s n) k ⟨skp s (rdD s n x).2.a, 0, 0⟩ (l.snoc (rdD s n x).1) (In0 (skp_le s _ h2.1)) (fun _ => by show s.size + 1 - skp s (rdD s n x).2.a ≤ k; omega)
        have h4 : skp s (rdD s n x).2.a ≤ _ := hst2.2.2.1 he
        have h5 := ih x hx h0 (by omega)
        rw [h5, skp_cut hb _ _ (Nat.le_refl _) (by omega), Nat.min_eq_left (by omega), h0, h2.2]
        exact ihk k' _ _ (by omega) (by omega) (by omega) he hlt
      · have : goes s ⟨skp s (rdD s n x).2.a, (rdD s n x).2.e, (rdD s n x).2.b⟩ = false := goes_err h0
        rw [rdL_stop this] at he
        exact absurd he h0
    · rw [if_neg hg', if_neg hg']
theorem rdD_cut {s : ByteArray} {b : Nat} (hb : b ≤ s.size) : ∀ n a, a ≤ b → (rdD s n a).2.e = 0 → (rdD s n a).2.a ≤ b → rdD (s.extract 0 b) n a = rdD s n a := by
  intro n
  induction n with
  | zero =>
    intro a ha he _
    rw [rdD_eq] at he
    split at he
    · exact absurd he n4
    · split at he
      · exact absurd he n4
      · exact absurd he n3
  | succ n ih =>
    intro a ha he hle
    have hlt : a < b := Nat.lt_of_lt_of_le ((rdD_steps s (n + 1) a (by omega)).2 he) hle
    have eq := rdD_eq s (n + 1) a
    have eq' := rdD_eq (s.extract 0 b) (n + 1) a
    rw [cut_size hb, if_neg (by omega), cut_bt hb hlt] at eq'
    rw [if_neg (by omega)] at eq
    by_cases hbad : bt s (a : Int) ≠ 40 ∧ bt s (a : Int) ≠ 39 ∧ letC (bt s (a : Int)) = false
    · rw [if_pos hbad] at eq; rw [eq] at he; exact absurd he n4
    · rw [if_neg hbad] at eq eq'
      simp only [] at eq eq'
      by_cases h3 : bt s (a : Int) = 39 ∧ n = 0
      · rw [if_pos h3] at eq; rw [eq] at he; exact absurd he n3
      · rw [if_neg h3] at eq eq'
        by_cases hl : letC (bt s (a : Int)) = true
        · rw [if_pos hl] at eq eq'
          rw [eq, eq']
          rw [eq] at hle
          have h1 : (atomR s a).2.a = letE s a := by unfold atomR; split; rfl; split <;> rfl
          exact atom_cut hb ha (by omega)
        · rw [if_neg hl] at eq eq'
          have hsg := skp_ge s (a + 1)
          have hsl := skp_le s (a + 1) (by omega)
          by_cases h39 : bt s (a : Int) = 39
          · rw [if_pos h39] at eq eq'
            rw [eq] at he hle
            simp only [] at he hle
            have h1 := (rdD_steps s n _ hsl).2 he
            have h2 := skp_cut hb _ (a + 1) (Nat.le_refl _) (by omega)
            rw [Nat.min_eq_left (by omega)] at h2
            rw [eq, eq', h2, ih _ (by omega) he hle]
          · rw [if_neg h39] at eq eq'
            rw [eq] at he hle
            simp only [] at he hle
            have h1 := (rdL_steps (rdD_steps s n) (s.size + 1) ⟨skp s (a + 1), 0, 0⟩ .nil (In0 hsl) (fun _ => by omega)).2.2.1 he
            have h1 : skp s (a + 1) ≤ _ := h1
            have h2 := skp_cut hb _ (a + 1) (Nat.le_refl _) (by omega)
            rw [Nat.min_eq_left (by omega)] at h2
            have h5 := rdL_cut hb ih (s.size + 1) (b + 1) (skp s (a + 1)) .nil (by omega) (by omega) (by omega) he (by omega)
            rw [eq, eq', h2, h5]
theorem toks_cut (s : ByteArray) (a b : Nat) : toks (s.extract a b) 0 = toks (s.extract 0 b) a := by
  unfold toks
  rw [ext_list, ext_list, List.drop_zero, List.drop_zero, Nat.sub_zero, List.drop_take]
theorem prL_more {f g : List Tok → Option (Dat × List Tok)} (hf : ∀ ts x, f ts = some x → g ts = some x) : ∀ k ts l x, prL f k ts l = some x → prL g k ts l = some x
  | 0, ts, l, x, h => by cases h
  | k + 1, [], l, x, h => by cases h
  | k + 1, t :: r, l, x, h => by
    rw [prL] at h ⊢
    split at h
    · rename_i h41; rw [if_pos h41]; exact h
    · rename_i h41
      rw [if_neg h41]
      split at h
      · rename_i d r' hd
        rw [hf _ _ hd]
        exact prL_more hf k _ _ x h
      · cases h
theorem prD_more : ∀ n m ts x, n ≤ m → prD n ts = some x → prD m ts = some x
  | 0, m, ts, x, _, h => by cases h
  | n + 1, m, [], x, _, h => by cases h
  | n + 1, m, t :: r, x, hm, h => by
    obtain ⟨m, rfl⟩ : ∃ j, m = j + 1 := ⟨m - 1, by omega⟩
    have ih := fun ts x => prD_more n m ts x (by omega)
    rw [prD] at h ⊢
    by_cases hl : letC (hd0 t) = true
    · rw [if_pos hl] at h ⊢; exact h
    · rw [if_neg hl] at h ⊢
      by_cases h39 : hd0 t = 39
      · rw [if_pos h39] at h ⊢
        split at h
        · cases h
        · rw [if_neg (by omega)]
          split at h
          · rename_i d r' hd
            rw [ih _ _ hd]; exact h
          · cases h
      · rw [if_neg h39] at h ⊢
        split at h
        · rename_i h40
          rw [if_pos h40]
          split at h
          · rename_i d r' hd
            rw [prL_more ih _ _ _ _ hd]; exact h
          · cases h
        · cases h
theorem piece_read {s : ByteArray} {n a : Nat} (hs : s.size ≤ 20000) (hn : n ≤ 1000) (ha : a ≤ s.size) (hc : Clean s a) (he : (rdD s n a).2.e = 0) :
    onE (s.extract a (rdD s n a).2.a) = 0 ∧ (onX (s.extract a (rdD s n a).2.a)).dat = (rdD s n a).1.dat := by
  have hst := rdD_steps s n a ha
  have hb := (hst.1.ok he).1
  have hab := hst.2 he
  obtain ⟨b, hbe⟩ : ∃ b, b = (rdD s n a).2.a := ⟨_, rfl⟩
  rw [← hbe] at hb hab ⊢
  have hcut := rdD_cut hb n a (by omega) he (by omega)
  have hcl : Clean (s.extract 0 b) a := fun h => by rw [cut_bt hb hab]; exact hc (by omega)
  have h1 := prD_rd (s.extract 0 b) n a (by rw [cut_size hb]; omega) hcl
  rw [hcut, if_pos he, ← hbe, toks_out _ b (by rw [cut_size hb]; exact Nat.le_refl _), ← toks_cut] at h1
  obtain ⟨v, hv⟩ : ∃ v, v = s.extract a b := ⟨_, rfl⟩
  rw [← hv] at h1 ⊢
  have hvs : v.size = b - a := by rw [hv, ByteArray.size_extract]; omega
  have h2 := toks_skp v _ 0 (Nat.le_refl _)
  have h3 := prD_rd v 1000 (skp v 0) (skp_le v 0 (Nat.zero_le _)) (clean_skp v 0)
  rw [h2.1, prD_more n 1000 _ _ hn h1] at h3
  have h4 : (rdD v 1000 (skp v 0)).2.e = 0 := by
    by_cases h : (rdD v 1000 (skp v 0)).2.e = 0
    · exact h
    · rw [if_neg h] at h3; cases h3
  rw [if_pos h4] at h3
  simp only [Option.some.injEq, Prod.mk.injEq] at h3
  have h5 : ¬ skp v (rdD v 1000 (skp v 0)).2.a < v.size := fun h => by
    obtain ⟨t, r, ht⟩ := toks_more h (clean_skp v _)
    rw [(toks_skp v _ _ (Nat.le_refl _)).1, ← h3.2] at ht
    cases ht
  have h6 : oneR v = (rdX v 1000 (skp v 0), 0, 0) := by
    rw [oneR_eq, if_neg (by omega), if_pos (show rdE v 1000 (skp v 0) = 0 from h4), if_neg (show ¬ skp v (rdA v 1000 (skp v 0)) < v.size from h5)]
  unfold onE onX
  rw [h6]
  exact ⟨rfl, h3.1.symm⟩
mutual
def Nd.all (P : Nd → Prop) : Nd → Prop
  | .mk k n t ks a => P (.mk k n t ks a) ∧ ks.all P
def Nds.all (P : Nd → Prop) : Nds → Prop
  | .nil => True
  | .cons d ds => d.all P ∧ ds.all P
end
theorem Nds.all_snoc {P : Nd → Prop} : ∀ (l : Nds) (x : Nd), l.all P → x.all P → (l.snoc x).all P
  | .nil, x, _, hx => ⟨hx, trivial⟩
  | .cons d ds, x, h, hx => ⟨h.1, Nds.all_snoc ds x h.2 hx⟩
theorem Nds.all_get {P : Nd → Prop} : ∀ (ds : Nds) (i : Nat), i < ds.len → ds.all P → (ds.get i).all P
  | .nil, i, h, _ => by simp [Nds.len] at h
  | .cons d ds, 0, _, h => h.1
  | .cons d ds, i + 1, h, g => Nds.all_get ds i (by simp only [Nds.len] at h; omega) g.2
def Piece (s : ByteArray) (N : Nd) : Prop := ∃ a : Nat, ndA N = (a : Int) ∧ a < s.size ∧ ((bt s (a : Int) = 39 ∧ N.dat = .mk 2 0 wQuote .nil) ∨ ∃ b : Nat, a < b ∧ b ≤ s.size ∧ onE (s.extract a b) = 0 ∧ (onX (s.extract a b)).dat = N.dat)
theorem rdL_all {f : Nat → Nd × RS} {s : ByteArray} {P : Nd → Prop} (hf : ∀ a, a ≤ s.size → Clean s a → (f a).2.e = 0 → (f a).1.all P ∧ (f a).2.a ≤ s.size) : ∀ k r l, r.a ≤ s.size → Clean s r.a → l.all P → (rdL f s k r l).2.e = 0 → (rdL f s k r l).1.all P
  | 0, r, l, _, _, hl, _ => hl
  | k + 1, r, l, hr, hc, hl, he => by
    rw [rdL] at he ⊢
    by_cases hg : goes s r = true
    · rw [if_pos hg] at he ⊢
      by_cases h0 : (f r.a).2.e = 0
      · obtain ⟨h1, h2⟩ := hf r.a hr hc h0
        exact rdL_all hf k _ _ (skp_le s _ h2) (clean_skp s _) (Nds.all_snoc _ _ hl h1) he
      · rw [rdL_stop (goes_err (r := ⟨Seat.skp s (f r.a).2.a, (f r.a).2.e, (f r.a).2.b⟩) h0)] at he
        exact absurd he h0
    · rw [if_neg hg]; exact hl
theorem rdD_all {s : ByteArray} (hs : s.size ≤ 20000) : ∀ n a, n ≤ 1000 → a ≤ s.size → Clean s a → (rdD s n a).2.e = 0 → (rdD s n a).1.all (Piece s) := by
  intro n
  induction n with
  | zero =>
    intro a _ ha hc he
    rw [rdD_eq] at he
    split at he
    · exact absurd he n4
    · split at he
      · exact absurd he n4
      · exact absurd he n3
  | succ n ih =>
    intro a hn ha hc he
    have hst := rdD_steps s (n + 1) a ha
    have hgt := hst.2 he
    have hle := (hst.1.ok he).1
    have hp := piece_read hs hn ha hc he
    have self : ∀ N b, (rdD s (n + 1) a).1 = N → (rdD s (n + 1) a).2.a = b → ndA N = (a : Int) → Piece s N := fun N b h1 h2 h3 => ⟨a, h3, by omega, .inr ⟨b, by omega, by omega, by rw [← h2]; exact hp.1, by rw [← h2, ← h1]; exact hp.2⟩⟩
    have eq := rdD_eq s (n + 1) a
    rw [if_neg (by omega)] at eq
    by_cases hbad : bt s (a : Int) ≠ 40 ∧ bt s (a : Int) ≠ 39 ∧ letC (bt s (a : Int)) = false
    · rw [if_pos hbad] at eq; rw [eq] at he; exact absurd he n4
    · rw [if_neg hbad] at eq
      simp only [] at eq
      by_cases h3 : bt s (a : Int) = 39 ∧ n = 0
      · rw [if_pos h3] at eq; rw [eq] at he; exact absurd he n3
      · rw [if_neg h3] at eq
        by_cases hl : letC (bt s (a : Int)) = true
        · rw [if_pos hl] at eq
          rw [eq] at he ⊢
          by_cases g1 : (numV (s.extract a (letE s a))).2 = true
          · have e1 : atomR s a = (.mk 1 (numV (s.extract a (letE s a))).1 ⟨#[]⟩ .nil a, ⟨letE s a, 0, 0⟩) := by unfold atomR; rw [if_pos g1]
            rw [e1]
            exact ⟨self _ _ (by rw [eq, e1]) rfl rfl, trivial⟩
          · by_cases g2 : symOk (s.extract a (letE s a)) = true
            · have e1 : atomR s a = (.mk 2 0 (s.extract a (letE s a)) .nil a, ⟨letE s a, 0, 0⟩) := by unfold atomR; rw [if_neg g1, if_pos g2]
              rw [e1]
              exact ⟨self _ _ (by rw [eq, e1]) rfl rfl, trivial⟩
            · have e1 : atomR s a = (.zero, ⟨letE s a, 4, a⟩) := by unfold atomR; rw [if_neg g1, if_neg g2]
              rw [e1] at he; exact absurd he n4
        · rw [if_neg hl] at eq
          have hsl := skp_le s (a + 1) (by omega)
          by_cases h39 : bt s (a : Int) = 39
          · rw [if_pos h39] at eq
            rw [eq] at he ⊢
            simp only [] at he ⊢
            exact ⟨self _ _ (by rw [eq]) rfl rfl, ⟨⟨a, rfl, by omega, .inl ⟨h39, rfl⟩⟩, trivial⟩, ih _ (by omega) hsl (clean_skp s _) he, trivial⟩
          · rw [if_neg h39] at eq
            rw [eq] at he ⊢
            simp only [] at he ⊢
            exact ⟨self _ _ (by rw [eq]) rfl rfl, rdL_all (fun x hx hcx hex => ⟨ih x (by omega) hx hcx hex, ((rdD_steps s n x hx).1.ok hex).1⟩) _ _ _ hsl (clean_skp s _) trivial he⟩
theorem onX_all {s : ByteArray} (h : onE s = 0) : (onX s).all (Piece s) := by
  unfold onE at h
  unfold onX
  rw [oneR_eq] at h ⊢
  by_cases h1 : 20000 < s.size
  · rw [if_pos h1] at h; exact absurd h n3
  · rw [if_neg h1] at h ⊢
    by_cases h2 : rdE s 1000 (skp s 0) = 0
    · rw [if_pos h2] at h ⊢
      by_cases h3 : skp s (rdA s 1000 (skp s 0)) < s.size
      · rw [if_pos h3] at h; exact absurd h n4
      · rw [if_neg h3]
        exact rdD_all (by omega) 1000 _ (Nat.le_refl _) (skp_le s 0 (Nat.zero_le _)) (clean_skp s 0) h2
    · rw [if_neg h2] at h; exact absurd h h2
def subN : Nd → List Int → Nd
  | X, [] => X
  | X, i :: r => subN (Nds.get (ndS X) i.toNat) r
def vldN : Nd → List Int → Prop
  | X, [] => True
  | X, i :: r => (0 ≤ i ∧ i < (Nds.len (ndS X) : Int)) ∧ vldN (Nds.get (ndS X) i.toNat) r
theorem ofR_vld : ∀ (X : Nd) (r : List Int), vldN X r → ofR X r = (ndA (subN X r), 0)
  | X, [], _ => rfl
  | X, i :: r, h => by
    rw [ofR, if_neg (by have := h.1; omega)]
    exact ofR_vld _ r h.2
theorem all_sub {P : Nd → Prop} : ∀ (X : Nd) (r : List Int), X.all P → vldN X r → P (subN X r)
  | .mk k n t ks a, [], h, _ => h.1
  | .mk k n t ks a, i :: r, h, hv => all_sub _ r (Nds.all_get ks i.toNat (by have : 0 ≤ i ∧ i < (ks.len : Int) := hv.1; omega) h.2) hv.2
end Seat
end Go.Proofs.YtenpjkcclmmlhaaDoor
namespace Go.AS
open Go.RowKit
set_option linter.unusedVariables false
set_option linter.unusedSimpArgs false
structure MNd where
  l : Array Bool
  st : AS
  ob : List (Nat × Ob)
def insO (i : Nat) (o : Ob) : List (Nat × Ob) → List (Nat × Ob)
  | [] => [(i, o)]
  | (j, p) :: r => match Nat.ble i j with
    | true => (i, o) :: (j, p) :: r
    | false => (j, p) :: insO i o r
def flatO : List (Nat × Ob) → Ob
  | [] => []
  | (_, o) :: r => o ++ flatO r
theorem insO_ok {i : Nat} {o : Ob} : ∀ {l : List (Nat × Ob)}, okO (flatO (insO i o l)) → okO o ∧ okO (flatO l)
  | [], h => ⟨fun p hp => h p (by simp only [insO, flatO, List.append_nil]; exact hp), fun p hp => by cases hp⟩
  | (j, q) :: r, h => by
    unfold insO at h
    split at h
    · exact ⟨fun p hp => h p (List.mem_append_left _ hp), fun p hp => h p (List.mem_append_right _ hp)⟩
    · obtain ⟨h1, h2⟩ := insO_ok (l := r) (fun p hp => h p (List.mem_append_right _ hp))
      exact ⟨h1, fun p hp => (List.mem_append.1 hp).elim (fun g => h p (List.mem_append_left _ g)) (h2 p)⟩
inductive Leaf where
  | i (n : Int)
  | n (n : Nat)
  | b (b : Bool)
  | s (s : ByteArray)
  | l (cs : List PV)
  | v (x : PV)
  | x (b : List Box)
  | r (r : Option Row)
abbrev Lfs := List (Leaf × Leaf)
def okL (l : Lfs) : Prop := l.map Prod.fst = l.map Prod.snd
theorem okL_cons {p : Leaf × Leaf} {l : Lfs} (h : okL (p :: l)) : p.1 = p.2 ∧ okL l := by
  unfold okL at h ⊢
  simp only [List.map_cons, List.cons.injEq] at h
  exact h
theorem okL_app : ∀ {a b : Lfs}, okL (a ++ b) → okL a ∧ okL b
  | [], b, h => ⟨rfl, h⟩
  | p :: a, b, h => by
    obtain ⟨h1, h2⟩ := okL_cons h
    obtain ⟨h3, h4⟩ := okL_app h2
    refine ⟨?_, h4⟩
    unfold okL at h3 ⊢
    simp only [List.map_cons, h1, h3]
def lit (i j : Nat) (r : Lfs) : Lfs := match Nat.beq i j with
  | true => r
  | false => [(.b true, .b false)]
theorem lit_ok {i j : Nat} {r : Lfs} (h : okL (lit i j r)) : i = j ∧ okL r := by
  unfold lit at h
  split at h
  · rename_i e
    exact ⟨Nat.eq_of_beq_eq_true e, h⟩
  · obtain ⟨h1, _⟩ := okL_cons h; cases h1
def PV.lf : PV → PV → Lfs
  | .int .i64 a, .int .i64 b => [(.i a, .i b)]
  | .int .u8 a, .int .u8 b => [(.i a, .i b)]
  | .int .u64 a, .int .u64 b => [(.i a, .i b)]
  | .bool a, .bool b => [(.b a, .b b)]
  | .str a, .str b => [(.s a, .s b)]
  | .slice n cs, .slice m ds => [(.n n, .n m), (.l cs, .l ds)]
  | .own r n, .own q m => lit r q [(.n n, .n m)]
  | .ptr r n, .ptr q m => lit r q [(.n n, .n m)]
  | .rpos r n, .rpos q m => lit r q [(.n n, .n m)]
  | .bsl r n k, .bsl q m l => lit r q [(.n n, .n m), (.n k, .n l)]
  | .agg cs, .agg ds => [(.l cs, .l ds)]
  | .tup cs, .tup ds => [(.l cs, .l ds)]
  | .epos cs, .epos ds => [(.l cs, .l ds)]
  | .func f cs, .func g ds => [(.v (.func f cs), .v (.func g ds))]
  | .iface t x, .iface u y => [(.v (.iface t x), .v (.iface u y))]
  | .int k a, .int q b => [(.v (.int k a), .v (.int q b))]
  | .junk, .junk => []
  | .nil, .nil => []
  | .nilptr, .nilptr => []
  | .nilfunc, .nilfunc => []
  | .niliface, .niliface => []
  | _, _ => [(.b true, .b false)]
theorem PV.lf_eq {x y : PV} (h : okL (PV.lf x y)) : x = y := by
  unfold PV.lf at h
  split at h
  all_goals first
    | rfl
    | (obtain ⟨h1, _⟩ := okL_cons h; cases h1; done)
    | (obtain ⟨h1, _⟩ := okL_cons h; cases h1; rfl)
    | (obtain ⟨h1, h2⟩ := okL_cons h; obtain ⟨h2, _⟩ := okL_cons h2; cases h1; cases h2; rfl)
    | (obtain ⟨h1, h2⟩ := lit_ok h; obtain ⟨h2, _⟩ := okL_cons h2; cases h1; cases h2; rfl)
    | (obtain ⟨h1, h2⟩ := lit_ok h; obtain ⟨h2, h3⟩ := okL_cons h2; obtain ⟨h3, _⟩ := okL_cons h3; cases h1; cases h2; cases h3; rfl)
theorem okL_no {x : Lfs} (h : okL x) (hx : x = [(.b true, .b false)]) : False := by
  subst hx
  obtain ⟨h1, _⟩ := okL_cons h
  cases h1
def lfN : Nat → List PV → List PV → Lfs
  | 0, cs, ds => [(.l cs, .l ds)]
  | n + 1, x :: a, y :: b => PV.lf x y ++ lfN n a b
  | _ + 1, _, _ => [(.b true, .b false)]
theorem lfN_eq : ∀ {n : Nat} {a b : List PV}, okL (lfN n a b) → a = b
  | 0, a, b, h => by obtain ⟨h1, _⟩ := okL_cons h; cases h1; rfl
  | n + 1, x :: a, y :: b, h => by
    obtain ⟨h1, h2⟩ := okL_app h
    rw [PV.lf_eq h1, lfN_eq h2]
  | n + 1, [], [], _ => rfl
  | n + 1, [], _ :: _, h => (okL_no h rfl).elim
  | n + 1, _ :: _, [], h => (okL_no h rfl).elim
def PV.lfh : Option Nat → PV → PV → Lfs
  | none, x, y => PV.lf x y
  | some k, .slice n cs, .slice m ds => (.n n, .n m) :: lfN k cs ds
  | some k, .agg cs, .agg ds => lfN k cs ds
  | some _, x, y => PV.lf x y
theorem PV.lfh_eq {o : Option Nat} {x y : PV} (h : okL (PV.lfh o x y)) : x = y := by
  unfold PV.lfh at h
  split at h
  · exact PV.lf_eq h
  · obtain ⟨h1, h2⟩ := okL_cons h
    have h3 := lfN_eq h2
    cases h1; cases h3; rfl
  · have h3 := lfN_eq h
    cases h3; rfl
  · exact PV.lf_eq h
def lfT (hs : List (Nat × Nat)) : List (Nat × PV) → List (Nat × PV) → Lfs
  | [], [] => []
  | (i, x) :: t, (j, y) :: u => lit i j (PV.lfh (hs.lookup i) x y ++ lfT hs t u)
  | _, _ => [(.b true, .b false)]
theorem lfT_eq {hs : List (Nat × Nat)} : ∀ {t u : List (Nat × PV)}, okL (lfT hs t u) → t = u
  | [], [], _ => rfl
  | (i, x) :: t, (j, y) :: u, h => by
    obtain ⟨h1, h2⟩ := lit_ok h
    obtain ⟨h2, h3⟩ := okL_app h2
    cases h1
    rw [PV.lfh_eq h2, lfT_eq h3]
  | [], _ :: _, h => by obtain ⟨h1, _⟩ := okL_cons h; cases h1
  | _ :: _, [], h => by obtain ⟨h1, _⟩ := okL_cons h; cases h1
def lfB : List Box → List Box → Lfs
  | [], [] => []
  | ⟨cs, t⟩ :: a, ⟨ds, u⟩ :: b => lit t u ((.l cs, .l ds) :: lfB a b)
  | _, _ => [(.b true, .b false)]
theorem lfB_eq : ∀ {a b : List Box}, okL (lfB a b) → a = b
  | [], [], _ => rfl
  | ⟨cs, t⟩ :: a, ⟨ds, u⟩ :: b, h => by
    obtain ⟨h1, h2⟩ := lit_ok h
    obtain ⟨h2, h3⟩ := okL_cons h2
    cases h1; cases h2
    rw [lfB_eq h3]
  | [], _ :: _, h => by obtain ⟨h1, _⟩ := okL_cons h; cases h1
  | _ :: _, [], h => by obtain ⟨h1, _⟩ := okL_cons h; cases h1
def lfR : List (Option Row) → List (Option Row) → Lfs
  | [], [] => []
  | none :: a, none :: b => lfR a b
  | some ⟨cs, n, t, z⟩ :: a, some ⟨ds, m, u, y⟩ :: b => lit t u (lit z y ((.l cs, .l ds) :: (.n n, .n m) :: lfR a b))
  | _, _ => [(.b true, .b false)]
theorem lfR_eq : ∀ (a b : List (Option Row)), okL (lfR a b) → a = b
  | [], [], _ => rfl
  | none :: a, none :: b, h => by rw [lfR_eq a b h]
  | some ⟨cs, n, t, z⟩ :: a, some ⟨ds, m, u, y⟩ :: b, h => by
    obtain ⟨h1, g1⟩ := lit_ok h
    obtain ⟨h2, g2⟩ := lit_ok g1
    obtain ⟨h3, g3⟩ := okL_cons g2
    obtain ⟨h4, g4⟩ := okL_cons g3
    have h5 := lfR_eq a b g4
    cases h1; cases h2; cases h3; cases h4; cases h5
    rfl
  | [], none :: _, h => (okL_no h rfl).elim
  | [], some ⟨_, _, _, _⟩ :: _, h => (okL_no h rfl).elim
  | none :: _, [], h => (okL_no h rfl).elim
  | some ⟨_, _, _, _⟩ :: _, [], h => (okL_no h rfl).elim
  | none :: _, some ⟨_, _, _, _⟩ :: _, h => (okL_no h rfl).elim
  | some ⟨_, _, _, _⟩ :: _, none :: _, h => (okL_no h rfl).elim
def lfP : Ob → Ob → Lfs
  | [], [] => []
  | (x, y) :: a, (z, w) :: b => (.b x, .b z) :: (.b y, .b w) :: lfP a b
  | _, _ => [(.b true, .b false)]
theorem lfP_eq : ∀ (a b : Ob), okL (lfP a b) → a = b
  | [], [], _ => rfl
  | (x, y) :: a, (z, w) :: b, h => by
    obtain ⟨h1, g1⟩ := okL_cons h
    obtain ⟨h2, g2⟩ := okL_cons g1
    have h3 := lfP_eq a b g2
    cases h1; cases h2; cases h3
    rfl
  | [], (_, _) :: _, h => (okL_no h rfl).elim
  | (_, _) :: _, [], h => (okL_no h rfl).elim
def lfO : List (Nat × Ob) → List (Nat × Ob) → Lfs
  | [], [] => []
  | (i, o) :: a, (j, q) :: b => lit i j (lfP o q ++ lfO a b)
  | _, _ => [(.b true, .b false)]
theorem lfO_eq : ∀ (a b : List (Nat × Ob)), okL (lfO a b) → a = b
  | [], [], _ => rfl
  | (i, o) :: a, (j, q) :: b, h => by
    obtain ⟨h1, g1⟩ := lit_ok h
    obtain ⟨h2, g2⟩ := okL_app g1
    have h3 := lfO_eq a b g2
    have h4 := lfP_eq _ _ h2
    cases h1; cases h3; cases h4
    rfl
  | [], (_, _) :: _, h => (okL_no h rfl).elim
  | (_, _) :: _, [], h => (okL_no h rfl).elim
def frcB : List Box → List Box
  | [] => []
  | ⟨cs, t⟩ :: r => ⟨cs, t⟩ :: frcB r
theorem frcB_eq : ∀ l, frcB l = l
  | [] => rfl
  | ⟨cs, t⟩ :: r => by rw [frcB, frcB_eq r]
def frcR : List (Option Row) → List (Option Row)
  | [] => []
  | none :: r => none :: frcR r
  | some ⟨cs, n, t, z⟩ :: r => some ⟨cs, n, t, z⟩ :: frcR r
theorem frcR_eq : ∀ l, frcR l = l
  | [] => rfl
  | none :: r => by rw [frcR, frcR_eq r]
  | some ⟨cs, n, t, z⟩ :: r => by rw [frcR, frcR_eq r]
def frc : AS → AS
  | ⟨t, ⟨bx, rw'⟩⟩ => ⟨t, ⟨frcB bx, frcR rw'⟩⟩
theorem frc_eq (s : AS) : frc s = s := by
  obtain ⟨t, ⟨bx, rw'⟩⟩ := s
  rw [frc, frcB_eq, frcR_eq]
def MNd.lf (hs : List (Nat × Nat)) (a b : MNd) : Lfs := lfT hs a.st.t b.st.t ++ (lfB a.st.h.bx b.st.h.bx ++ (lfR a.st.h.rw b.st.h.rw ++ lfO a.ob b.ob))
theorem MNd.lf_eq {hs : List (Nat × Nat)} {a b : MNd} (hl : a.l = b.l) (h : okL (MNd.lf hs a b)) : a = b := by
  obtain ⟨l, ⟨t, ⟨bx, rw'⟩⟩, ob⟩ := a
  obtain ⟨l', ⟨t', ⟨bx', rw''⟩⟩, ob'⟩ := b
  obtain ⟨h1, h⟩ := okL_app h
  obtain ⟨h2, h⟩ := okL_app h
  obtain ⟨h3, h⟩ := okL_app h
  have := lfT_eq h1
  have := lfB_eq h2
  have := lfR_eq _ _ h3
  have := lfO_eq _ _ h
  simp only [] at *
  subst_vars
  rfl
def pickI {α : Type} (f : Nat → Option α) : List Nat → Option (Nat × α)
  | [] => none
  | i :: is => match f i with
    | some a => some (i, a)
    | none => pickI f is
theorem pickI_some {α : Type} {f : Nat → Option α} : ∀ {is : List Nat} {i : Nat} {a : α}, pickI f is = some (i, a) → f i = some a
  | j :: is, i, a, h => by
    unfold pickI at h
    split at h
    · cases h; assumption
    · exact pickI_some h
def mEach {α : Type} (f : Nat → Option α) : List Nat → Option (List α)
  | [] => some []
  | i :: is => match f i, mEach f is with
    | some a, some b => some (a :: b)
    | _, _ => none
theorem mEach_some {α : Type} {f : Nat → Option α} : ∀ {is : List Nat} {l : List α}, mEach f is = some l → ∀ i ∈ is, ∃ a, f i = some a ∧ a ∈ l
  | j :: is, l, h, i, hi => by
    unfold mEach at h
    split at h
    · rename_i a b ha hb
      cases h
      rcases List.mem_cons.1 hi with rfl | hi
      · exact ⟨a, ha, List.mem_cons_self ..⟩
      · obtain ⟨c, h1, h2⟩ := mEach_some hb i hi
        exact ⟨c, h1, List.mem_cons_of_mem _ h2⟩
    · cases h
section
variable {G : Prg}
noncomputable def mNext (S : Cfg G) (rec : Rec) (nt : Nat) (ops : Array Oper) (ds : List Nat) (sl : List Nat) (N : MNd) : Option (List MNd) := match Region.ready .any ops N.l with
  | [] => some [N]
  | i :: is => match pickI (fun j => pick1 G S.orc S.val nt ops ds N.l N.st [j]) (i :: is) with
    | some (j, l', s, o) => some [⟨l', frc (nrm sl s), insO j o N.ob⟩]
    | none => match pickF G nt ops N.l N.st (i :: is) with
      | some (l', s) => some [⟨l', frc (nrm sl s), N.ob⟩]
      | none => mEach (fun j => match anyOne S rec nt ops ds N.l N.st j with
        | some (l', s, o) => some ⟨l', frc (nrm sl s), insO j o N.ob⟩
        | none => none) (i :: is)
def mIns (hs : List (Nat × Nat)) (N : MNd) : List MNd → List MNd × Lfs
  | [] => ([N], [])
  | M :: r => match M.l == N.l with
    | true => (M :: r, MNd.lf hs M N)
    | false => match mIns hs N r with
      | (r', p) => (M :: r', p)
theorem mIns_ok {hs : List (Nat × Nat)} {N : MNd} : ∀ {r r' : List MNd} {p : Lfs}, mIns hs N r = (r', p) → okL p → N ∈ r' ∧ ∀ M ∈ r, M ∈ r'
  | [], r', p, h, _ => by cases h; exact ⟨List.mem_cons_self .., fun M hM => by cases hM⟩
  | M :: r, r', p, h, hp => by
    unfold mIns at h
    split at h
    · rename_i hl
      cases h
      have e := MNd.lf_eq (eq_of_beq hl) hp
      subst e
      exact ⟨List.mem_cons_self .., fun M hM => hM⟩
    · split at h
      rename_i r2 p2 h2
      cases h
      obtain ⟨g1, g2⟩ := mIns_ok h2 hp
      exact ⟨List.mem_cons_of_mem _ g1, fun K hK => (List.mem_cons.1 hK).elim (fun e => by subst e; exact List.mem_cons_self ..) (fun g => List.mem_cons_of_mem _ (g2 K g))⟩
def mAll (hs : List (Nat × Nat)) : List MNd → List MNd × Lfs
  | [] => ([], [])
  | N :: r => match mAll hs r with
    | (ms, ps) => match mIns hs N ms with
      | (ms', qs) => (ms', qs ++ ps)
theorem mAll_ok {hs : List (Nat × Nat)} : ∀ {r ms : List MNd} {p : Lfs}, mAll hs r = (ms, p) → okL p → ∀ M ∈ r, M ∈ ms
  | [], ms, p, h, _, M, hM => by cases hM
  | N :: r, ms, p, h, hp, M, hM => by
    unfold mAll at h
    split at h
    rename_i ms1 ps h1
    split at h
    rename_i ms2 qs h2
    cases h
    obtain ⟨g1, g2⟩ := okL_app hp
    obtain ⟨g3, g4⟩ := mIns_ok h2 g1
    rcases List.mem_cons.1 hM with rfl | hM
    · exact g3
    · exact g4 M (mAll_ok h1 g2 M hM)
noncomputable def mLevel (S : Cfg G) (rec : Rec) (nt : Nat) (ops : Array Oper) (ds : List Nat) (sl : List Nat) : List MNd → Option (List MNd)
  | [] => some []
  | N :: r => match mNext S rec nt ops ds sl N, mLevel S rec nt ops ds sl r with
    | some a, some b => some (a ++ b)
    | _, _ => none
noncomputable def runM (S : Cfg G) (rec : Rec) (nt : Nat) (ops : Array Oper) (ds : List Nat) (sl : List Nat) (hs : List (Nat × Nat)) : Nat → List MNd → Option (List MNd × Lfs)
  | 0, ns => match ns.all fun N => (Region.ready .any ops N.l).isEmpty with
    | true => some (ns, [])
    | false => none
  | n + 1, ns => match mLevel S rec nt ops ds sl ns with
    | some ms => match mAll hs ms with
      | (ks, ps) => match runM S rec nt ops ds sl hs n ks with
        | some (es, qs) => some (es, ps ++ qs)
        | none => none
    | none => none
variable {C : Ctx} {Q : AEx → AS → Prop} {ops : Array Oper} {ds : List Nat}
theorem wpG_fin {P : Program} {Q : Exit → Act → World → Prop} {n : Nat} {l : Array Bool} {a : Act} {w : World} (hri : Region.ready .any ops l = []) (h : wpG P ops Q ds n l a w) : wpG P ops Q ds (n + 1) l a w := by
  have hq : Q .normal a w := by
    cases n with
    | zero => exact h.2
    | succ n => exact h.1 hri
  exact ⟨fun _ => hq, fun i hi => by rw [hri] at hi; cases hi⟩
theorem mLevel_some {S : Cfg G} {rec : Rec} {nt : Nat} {sl : List Nat} : ∀ {ns ms : List MNd}, mLevel S rec nt ops ds sl ns = some ms → ∀ N ∈ ns, ∃ a, mNext S rec nt ops ds sl N = some a ∧ ∀ M ∈ a, M ∈ ms
  | N :: r, ms, h, K, hK => by
    unfold mLevel at h
    split at h
    · rename_i a b ha hb
      cases h
      rcases List.mem_cons.1 hK with rfl | hK
      · exact ⟨a, ha, fun M hM => List.mem_append_left _ hM⟩
      · obtain ⟨c, h1, h2⟩ := mLevel_some hb K hK
        exact ⟨c, h1, fun M hM => List.mem_append_right _ (h2 M hM)⟩
    · cases h
theorem anyOne_l {S : Cfg G} {rec : Rec} {nt : Nat} {l l' : Array Bool} {st s : AS} {i : Nat} {o : Ob} (hone : anyOne S rec nt ops ds l st i = some (l', s, o)) : l' = l.setIfInBounds i true := by
  unfold anyOne at hone
  split at hone
  · split at hone
    · split at hone
      · split at hone
        · cases hone; rfl
        · cases hone
      · cases hone
    · split at hone
      · cases hone; rfl
      · cases hone
    · cases hone
  · cases hone
theorem runM_ok {S : Cfg G} {rec : Rec} (hr : Snd G rec) (hQ : PanicT Q) {sl : List Nat} {hs : List (Nat × Nat)} : ∀ (n : Nat) (ns es : List MNd) (ps : Lfs), runM S rec C.nt ops ds sl hs n ns = some (es, ps) → okL ps → (∀ N ∈ es, okO (flatO N.ob) ∧ Q .normal N.st) → ∀ N ∈ ns, okO (flatO N.ob) ∧ SAny G C ops Q ds n N.l N.st := by
  intro n
  induction n with
  | zero =>
    intro ns es ps h hp hE N hN
    unfold runM at h
    split at h
    · rename_i hall
      cases h
      have h1 := List.all_eq_true.1 hall N hN
      have h2 : Region.ready .any ops N.l = [] := by simpa using h1
      exact ⟨(hE N hN).1, .done (by rw [h2]; rfl) (hE N hN).2⟩
    · cases h
  | succ n ih =>
    intro ns es ps h hp hE N hN
    unfold runM at h
    split at h
    · rename_i ms hlev
      split at h
      rename_i ks ps1 hall
      split at h
      · rename_i es2 qs hrun
        cases h
        obtain ⟨hp1, hp2⟩ := okL_app hp
        have hk := ih ks es qs hrun hp2 hE
        have hm := mAll_ok hall hp1
        obtain ⟨a, hnext, ha⟩ := mLevel_some hlev N hN
        have hA : ∀ M ∈ a, okO (flatO M.ob) ∧ SAny G C ops Q ds n M.l M.st := fun M hM => hk M (hm M (ha M hM))
        unfold mNext at hnext
        split at hnext
        · rename_i hri
          cases hnext
          have hN2 := hA N (List.mem_singleton.2 rfl)
          refine ⟨hN2.1, ?_⟩
          have hd := hN2.2
          intro E act w hrel
          have h3 := hd E act w hrel
          exact wpG_fin hri h3
        · rename_i i is hri
          split at hnext
          · rename_i j l' s o hp1
            cases hnext
            obtain ⟨g1, g2⟩ := hA _ (List.mem_singleton.2 rfl)
            rw [frc_eq] at g2
            obtain ⟨g3, g4⟩ := insO_ok g1
            exact ⟨g4, pick1_ok hQ g3 _ (pickI_some hp1) (.norm sl g2)⟩
          · split at hnext
            · rename_i l' s hpf
              cases hnext
              obtain ⟨g1, g2⟩ := hA _ (List.mem_singleton.2 rfl)
              rw [frc_eq] at g2
              exact ⟨g1, pickF_ok hQ _ hpf (.norm sl g2)⟩
            · have hAll := mEach_some hnext
              have hob : okO (flatO N.ob) := by
                obtain ⟨b, h1, h2⟩ := hAll i (List.mem_cons_self ..)
                split at h1
                · cases h1
                  exact (insO_ok (hA _ h2).1).2
                · cases h1
              refine ⟨hob, .all (by rw [hri]; exact List.cons_ne_nil _ _) fun j hj => ?_⟩
              rw [hri] at hj
              obtain ⟨b, h1, h2⟩ := hAll j hj
              split at h1
              · rename_i l' s o hone
                cases h1
                obtain ⟨g1, g2⟩ := hA _ h2
                rw [frc_eq] at g2
                obtain ⟨g3, g4⟩ := insO_ok g1
                have hl := anyOne_l hone
                exact anyOne_ok hr hone g3 (.norm sl g2)
              · cases h1
      · cases h
    · cases h
noncomputable def runMs (S : Cfg G) (k nt : Nat) (ops : Array Oper) (st : AS) (hs : List (Nat × Nat)) : Option (List MNd × Lfs) := runM S (run S k) nt ops (dsOf S.D ops) (slotsOf ops st) hs ops.size [⟨Array.replicate ops.size false, nrm (slotsOf ops st) st, []⟩]
noncomputable def runPM (S : Cfg G) (k nt : Nat) (ops : Array Oper) (st : AS) (hs : List (Nat × Nat)) (sl : List Nat) : Option (AS × Ob) := match runMs S k nt ops st hs with
  | some ([N], _) => some (nrm sl N.st, flatO N.ob)
  | _ => none
noncomputable def runPMl (S : Cfg G) (k nt : Nat) (ops : Array Oper) (st : AS) (hs : List (Nat × Nat)) : List Leaf := match runMs S k nt ops st hs with
  | some (_, ps) => ps.map Prod.fst
  | none => []
noncomputable def runPMr (S : Cfg G) (k nt : Nat) (ops : Array Oper) (st : AS) (hs : List (Nat × Nat)) : List Leaf := match runMs S k nt ops st hs with
  | some (_, ps) => ps.map Prod.snd
  | none => []
theorem SWP.runMQ {id : Nat} {st : AS} (S : Cfg G) (k nt : Nat) (hnt : C.nt = nt) (hs : List (Nat × Nat)) (sl : List Nat) {z : AS} {o : Ob} (h : runPM S k nt ops st hs sl = some (z, o)) (he : runPMl S k nt ops st hs = runPMr S k nt ops st hs) (ho : okO o) (hK : ∀ s, nrm sl s = z → Q .normal s) : SWP G C (.region id ops true) Q st := by
  unfold runPM at h
  unfold runPMl runPMr at he
  split at h
  · rename_i N ps hr
    cases h
    subst hnt
    rw [hr] at he
    refine SWP.norm (slotsOf ops st) ?_
    have h1 : SWP G C (.region id ops true) (fun e s => e = .normal ∧ s = N.st) (nrm (slotsOf ops st) st) := .draw _ _ rfl ((runM_ok (run_ok S k) (fun x t ⟨h, _⟩ => by cases h) _ _ _ _ hr he (fun M hM => by
      obtain rfl := List.mem_singleton.1 hM
      exact ⟨ho, rfl, rfl⟩) _ (List.mem_singleton.2 rfl)).2)
    exact h1.mono fun e s ⟨he, hs⟩ => by subst he; subst hs; exact hK _ rfl
  · cases h
end
end Go.AS
namespace Go.Proofs.YtenpjkcclmmlhaaDoor
open Go.AS Go.RowKit
set_option linter.unusedVariables false
set_option linter.unusedSimpArgs false
set_option maxRecDepth 100000
set_option maxHeartbeats 4000000
namespace Seat
mutual
def pthD : Dat → List Int → List (List Int)
  | .mk _ _ _ ks, p => p :: pthK ks p 0
def pthK : Dats → List Int → Nat → List (List Int)
  | .nil, _, _ => []
  | .cons d ds, p, i => pthD d (p ++ [(i : Int)]) ++ pthK ds p (i + 1)
end
def pvP (L : List (List Int)) : List PV := L.map fun p => .slice p.length (intL p)
def unZ : PV → Int
  | .int _ n => n
  | _ => 0
open Classical in
noncomputable def isPt (N m : Nat) (cs : List PV) (q : Nat) (pc : List PV) : Bool := decide (∃ (ks : Dats) (p : List Int), ks.cells = cs ∧ ks.len = m ∧ ks.size < N ∧ pc = intL p ∧ q = p.length ∧ p.length + ks.size ≤ 200000)
theorem isPt_at {N : Nat} {ks : Dats} {p : List Int} (h1 : ks.size < N) (h2 : p.length + ks.size ≤ 200000) : isPt N ks.len ks.cells p.length (intL p) = true := by
  unfold isPt
  classical exact decide_eq_true ⟨ks, p, rfl, rfl, h1, rfl, rfl, h2⟩
theorem isPt_of {N m : Nat} {cs : List PV} {q : Nat} {pc : List PV} (h : isPt N m cs q pc = true) : ∃ (ks : Dats) (p : List Int), ks.cells = cs ∧ ks.len = m ∧ ks.size < N ∧ pc = intL p ∧ q = p.length ∧ p.length + ks.size ≤ 200000 := by
  unfold isPt at h
  classical exact of_decide_eq_true h
theorem unZ_intL (l : List Int) : (intL l).map unZ = l := by
  unfold intL
  rw [List.map_map]
  exact List.map_id'' (fun _ => rfl) l
noncomputable def ptL (cs pc : List PV) : List (List Int) := ofCellsL (fun ks => pc.map unZ :: pthK ks (pc.map unZ) 0) [] cs
def PtAt (N : Nat) : Prop := ∀ (k n : Int) (s : ByteArray) (ks : Dats) (p : List Int), ks.size < N → p.length + ks.size ≤ 200000 → Pure G0 47 [.agg [.int .i64 k, .int .i64 n, .str s, .slice ks.len ks.cells], .slice p.length (intL p)] (fun r => r = .slice (p :: pthK ks p 0).length (pvP (p :: pthK ks p 0)))
noncomputable def ptS (N : Nat) (f : Nat) (args : List PV) : Option (PV × Ob) := match f, args with
  | 47, [.agg [.int .i64 k, .int .i64 n, .str t, .slice m cs], .slice q pc] => some (.slice (ptL cs pc).length (pvP (ptL cs pc)), [(isPt N m cs q pc, true)])
  | _, _ => none
theorem ptS_ok {N : Nat} (ih : PtAt N) (f : Nat) (args : List PV) (r : PV) (o : Ob) (h : ptS N f args = some (r, o)) (ho : ∀ p ∈ o, p.1 = p.2) (_ : pureL args = true) : Pure G0 f args (fun x => x = r) := by
  unfold ptS at h
  split at h
  · rename_i k n t m cs q pc _
    cases h
    obtain ⟨ks, p, rfl, rfl, h1, rfl, rfl, h2⟩ := isPt_of (ho (isPt N m cs q pc, true) (List.mem_singleton.2 rfl))
    unfold ptL
    rw [ofCellsL_at, unZ_intL]
    exact ih k n t ks p h1 h2
  · cases h
noncomputable def SPt {N : Nat} (ih : PtAt N) (l : List (Nat × List (Nat × Bool))) (v : List (Nat × List (Nat × PV))) : Cfg G0 := { F := F, hF := hF, S := ptS N, hS := ptS_ok ih, orc := orcM l, val := valM v }
def dB (k n : Int) (s : ByteArray) (ks : Dats) : Box := ⟨[.int .i64 k, .int .i64 n, .str s, .slice ks.len ks.cells], 25⟩
def rwP (rc : List PV) (m : Nat) : Row := ⟨rc, m, 40, 1⟩
noncomputable def pzS (f : Nat) (args : List PV) : Option (PV × Ob) := match f, args with
  | 47, [.agg [.int .i64 k, .int .i64 n, .str t, .slice m cs], .nil] => some (.slice (ptL cs []).length (pvP (ptL cs [])), [(isPt 200001 m cs 0 [], true)])
  | _, _ => none
theorem swp_cutR {C : Ctx} {c : Code} {Q : AEx → AS → Prop} {st : AS} (n : Nat) (h2 : n ≤ st.h.rw.length) (h3 : (st.h.bx.all fun b => scPL (belowN st.h.bx.length) (belowN n) b.cs) = true) (h4 : (st.t.all fun p => p.2.scP (belowN st.h.bx.length) (belowN n)) = true)
    (h : SWP G0 C c Q ⟨st.t, ⟨st.h.bx, st.h.rw.take n⟩⟩) : SWP G0 C c Q st := fun E a w hr => by
  have hc := closeH hr (m := st.h.bx.length) (n := n) (Nat.le_refl _) h2 (by simp only [Hp.scB, Hp.take, List.take_length]; exact h3)
  simp only [Hp.take, List.take_length] at hc
  have hlk : ∀ s, (lk st.t s).scP (belowN st.h.bx.length) (belowN n) = true := by
    intro s
    revert h4
    generalize st.t = t
    intro h4
    induction t with
    | nil => rfl
    | cons p t ih =>
      obtain ⟨i, x⟩ := p
      simp only [List.all_cons, Bool.and_eq_true] at h4
      simp only [lk]
      split
      · exact h4.1
      · exact ih h4.2
  refine h { E with nb := st.h.bx.length, nr := n } a w ⟨hr.defers, hr.size, fun s => (hr.fr s).sc2 (hlk s) (Nat.le_refl _) (Nat.le_refl _) (fun _ _ => rfl) (fun _ _ => rfl) (fun _ h => h), hc, hr.lo, by rw [← hr.hp.nb]; exact hr.nb, hr.β, fun i hi hj => hr.own i hi (by have := hr.hp.nb; simp only [] at hj; omega), hr.up, hr.dn, hr.keep, hr.os, hr.tape, hr.out, hr.sz, fun j s k hj hk => hr.rows j s k (by
    rw [List.getElem?_take] at hj
    split at hj
    · exact hj
    · cases hj) hk⟩
theorem intL_len (l : List Int) : (intL l).length = l.length := by simp [intL]
theorem intL_snoc (l : List Int) (i : Int) : intL (l ++ [i]) = intL l ++ [.int .i64 i] := by simp [intL]
theorem pvP_app (a b : List (List Int)) : pvP (a ++ b) = pvP a ++ pvP b := by simp [pvP]
theorem pthK_take : ∀ (ks : Dats) (p : List Int) (i j : Nat), j < ks.len → pthK (ks.take (j + 1)) p i = pthK (ks.take j) p i ++ pthD (ks.get j) (p ++ [((i + j : Nat) : Int)])
  | .nil, p, i, j, h => by simp [Dats.len] at h
  | .cons d ds, p, i, 0, h => by cases ds <;> simp [Dats.take, pthK, Dats.get]
  | .cons d ds, p, i, j + 1, h => by
    have := pthK_take ds p (i + 1) j (by simp only [Dats.len] at h; omega)
    show pthD d _ ++ pthK (ds.take (j + 1)) p (i + 1) = (pthD d _ ++ pthK (ds.take j) p (i + 1)) ++ pthD (ds.get j) _
    rw [this, List.append_assoc, show i + 1 + j = i + (j + 1) by omega]
mutual
theorem pthD_len : ∀ (d : Dat) (p : List Int), (pthD d p).length ≤ d.size + 1
  | .mk k n s ks, p => by
    have := pthK_len ks p 0
    simp only [pthD, Dat.size, List.length_cons]; omega
theorem pthK_len : ∀ (ks : Dats) (p : List Int) (i : Nat), (pthK ks p i).length ≤ ks.size
  | .nil, p, i => Nat.zero_le _
  | .cons d ds, p, i => by
    have h1 := pthD_len d (p ++ [(i : Int)])
    have h2 := pthK_len ds p (i + 1)
    simp only [pthK, Dats.size, List.length_append]; omega
end
theorem Dats.take_size : ∀ (ds : Dats) (j : Nat), (ds.take j).size ≤ ds.size
  | .nil, 0 => Nat.le_refl _
  | .nil, j + 1 => Nat.le_refl _
  | .cons d ds, 0 => Nat.zero_le _
  | .cons d ds, j + 1 => by
    have := Dats.take_size ds j
    show d.size + (ds.take j).size + 1 ≤ d.size + ds.size + 1
    omega
theorem len_size : ∀ ds : Dats, ds.len ≤ ds.size
  | .nil => Nat.le_refl _
  | .cons d ds => by
    have := len_size ds
    simp only [Dats.len, Dats.size]; omega
theorem ptL_at (ks : Dats) (p : List Int) : ptL ks.cells (intL p) = p :: pthK ks p 0 := by unfold ptL; rw [ofCellsL_at, unZ_intL]
theorem tkAll : ∀ ds : Dats, ds.take ds.len = ds
  | .nil => rfl
  | .cons d ds => by show Dats.cons d (ds.take ds.len) = _; rw [tkAll ds]
theorem pt_at (N : Nat) : PtAt N := by
  induction N with
  | zero => intro k n s ks p h; omega
  | succ N ih =>
    intro k n s ks p hN hl
    refine Fn.enterB Tryd.func47 Tryd.ntmps47 rfl (Nat.le_of_ble_eq_true rfl) fun C fr fp hnt hnb hp hfr hfp => ?_
    have fin : ∀ st m rc bx rw', m = (p :: pthK ks p 0).length → rc = pvP (p :: pthK ks p 0) → nrm [4] st = ⟨[(4, .slice m rc)], ⟨bx, rw'⟩⟩ → fr st := fun st m rc bx rw' h1 h2 hst => hfr st [4] (by
      rw [hst, ← h1, ← h2]
      exact ⟨0, .slice m rc, Nat.le_refl _, Nat.zero_le _, rfl, rfl, rfl, rfl, _, rfl, rfl⟩)
    obtain ⟨pc, hpc⟩ : ∃ pc, pc = intL p := ⟨_, rfl⟩
    obtain ⟨q, hq⟩ : ∃ q, q = p.length := ⟨_, rfl⟩
    have hpl : pc.length = q := by rw [hpc, hq, intL_len]
    rw [← hpc, ← hq]
    have c1 : Nat.beq (List.length pc) (q * 1) = true := by rw [hpl, Nat.mul_one]; exact Nat.beq_refl q
    have c2 : Nat.ble ((0 + q) * 8) 140737488355328 = true := Nat.ble_eq_true_of_le (by omega)
    have c3 : Nat.ble (0 + q) 9223372036854775807 = true := Nat.ble_eq_true_of_le (by omega)
    refine Q.runSeq (SPt ih [] []) 100 33 hnt [1, 2] (z := ⟨[(1, .slice q pc), (2, .ptr 0 0)], ⟨[⟨[.int .i64 k, .int .i64 n, .str s, .slice (Dats.len ks) (Dats.cells ks)], 25⟩], []⟩⟩) (o := []) (by kernel_rfl) (by ((repeat' (first | exact okO_nil | refine okN ?_ ?_)); all_goals first | assumption | rfl | exact same_of rfl | exact sameS_self _ | (simp only [decide_eq_true_eq, decide_eq_false_iff_not, Nat.ble_eq, Nat.beq_eq, beq_eq_false_iff_ne, beq_iff_eq, ne_eq] <;> omega))) ?_
    refine Q.runSeq (SPt ih [(33, [(9, true), (10, true)])] []) 100 33 hnt [1, 2, 5] (z := ⟨[(1, .slice q pc), (2, .ptr 0 0), (5, .own 1 1)], ⟨[⟨[.int .i64 k, .int .i64 n, .str s, .slice (Dats.len ks) (Dats.cells ks)], 25⟩], [none, some ⟨[.slice (0 + q) ([] ++ pc)], 1, 40, 1⟩]⟩⟩) (o := [(Nat.beq (List.length pc) (q * 1), true), (Nat.ble ((0 + q) * 8) 140737488355328, true), (Nat.ble (0 + q) 9223372036854775807, true)]) (by kernel_rfl) (by ((repeat' (first | exact okO_nil | refine okN ?_ ?_)); all_goals first | assumption | rfl | exact same_of rfl | exact sameS_self _ | (simp only [decide_eq_true_eq, decide_eq_false_iff_not, Nat.ble_eq, Nat.beq_eq, beq_eq_false_iff_ne, beq_iff_eq, ne_eq] <;> omega))) ?_
    refine Q.seq fun K hK => ?_
    let L (j : Nat) : List (List Int) := p :: pthK (ks.take j) p 0
    have e0 : pvP (L 0) = [.slice (0 + q) ([] ++ pc)] := by
      show pvP (p :: pthK (ks.take 0) p 0) = _
      rw [show ks.take 0 = .nil by cases ks <;> rfl, hpc, hq, Nat.zero_add]; rfl
    have e1 : (L 0).length = 1 := by
      show (p :: pthK (ks.take 0) p 0).length = 1
      rw [show ks.take 0 = .nil by cases ks <;> rfl]; rfl
    refine swp_st (st' := ⟨[(1, .slice q pc), (2, .ptr 0 0), (5, .own 1 (L 0).length)], ⟨[dB k n s ks], [none, some (rwP (pvP (L 0)) (L 0).length)]⟩⟩) (by rw [e0, e1]; rfl) ?_
    obtain ⟨m, hm⟩ : ∃ m, m = (L 0).length := ⟨_, rfl⟩
    obtain ⟨rc, hrc⟩ : ∃ rc, rc = pvP (L 0) := ⟨_, rfl⟩
    rw [← hm, ← hrc]
    refine Q.runSeq (SPt ih [] []) 100 33 hnt [1, 2, 5, 6] (z := ⟨[(1, .slice q pc), (2, .ptr 0 0), (5, .own 1 m), (6, .int .i64 (0 : Int))], ⟨[⟨[.int .i64 k, .int .i64 n, .str s, .slice (Dats.len ks) (Dats.cells ks)], 25⟩], [none, some ⟨rc, m, 40, 1⟩]⟩⟩) (o := []) (by kernel_rfl) (by ((repeat' (first | exact okO_nil | refine okN ?_ ?_)); all_goals first | assumption | rfl | exact same_of rfl | exact sameS_self _ | (simp only [decide_eq_true_eq, decide_eq_false_iff_not, Nat.ble_eq, Nat.beq_eq, beq_eq_false_iff_ne, beq_iff_eq, ne_eq] <;> omega))) ?_
    refine Q.block ?_
    let T (j : Nat) : AS := ⟨[(1, .slice q pc), (2, .ptr 0 0), (5, .own 1 (L j).length), (6, .int .i64 j)], ⟨[dB k n s ks], [none, some (rwP (pvP (L j)) (L j).length)]⟩⟩
    refine Q.loopI (σ := { j : Nat // j ≤ ks.len }) [1, 2, 5, 6] (fun j => T j.1) (fun j => ks.len - j.1) ⟨0, Nat.zero_le _⟩ (by rw [hm, hrc]; rfl) fun ⟨j, hj⟩ => ?_
    clear hm hrc m rc e0 e1
    have hLl : (L j).length ≤ ks.size + 1 := by
      have h1 := pthK_len (ks.take j) p 0
      have h2 := Dats.take_size ks j
      show (p :: pthK (ks.take j) p 0).length ≤ _
      rw [List.length_cons]; omega
    obtain ⟨m, hm⟩ : ∃ m, m = (L j).length := ⟨_, rfl⟩
    obtain ⟨rc, hrc⟩ : ∃ rc, rc = pvP (L j) := ⟨_, rfl⟩
    refine swp_st (st' := ⟨[(1, .slice q pc), (2, .ptr 0 0), (5, .own 1 m), (6, .int .i64 j)], ⟨[dB k n s ks], [none, some (rwP rc m)]⟩⟩) (by rw [hm, hrc]) ?_
    rcases Nat.lt_or_ge j ks.len with hlt | hge
    · have d1 := lt_at hlt
      have d2 := in_at hlt
      refine Q.runSeq (SPt ih [(33, [(15, true)])] []) 100 33 hnt [1, 2, 5, 6] (z := ⟨[(1, .slice q pc), (2, .ptr 0 0), (5, .own 1 m), (6, .int .i64 (Int.ofNat j))], ⟨[⟨[.int .i64 k, .int .i64 n, .str s, .slice (Dats.len ks) (Dats.cells ks)], 25⟩], [none, some ⟨rc, m, 40, 1⟩]⟩⟩) (o := [(decide ((↑j : Int) < (↑(Dats.len ks) : Int)), true), (true, true)]) (by kernel_rfl) (by ((repeat' (first | exact okO_nil | refine okN ?_ ?_)); all_goals first | assumption | rfl | exact same_of rfl | exact sameS_self _ | (simp only [decide_eq_true_eq, decide_eq_false_iff_not, Nat.ble_eq, Nat.beq_eq, beq_eq_false_iff_ne, beq_iff_eq, ne_eq] <;> omega))) ?_
      obtain ⟨k', n', s', ks', hget⟩ := Dats.get_mk ks j
      have hsz := Dats.get_size ks j hlt
      rw [hget] at hsz
      simp only [Dat.size] at hsz
      have d3 : decide (TD.size d25 ≤ List.length (List.drop (Int.toNat (j : Int) * TD.size d25) (Dats.cells ks))) = true := by
        show decide (4 ≤ List.length (List.drop (Int.toNat (j : Int) * 4) (Dats.cells ks))) = true
        simp only [Int.toNat_natCast, List.length_drop, Dats.cells_len, decide_eq_true_eq]; omega
      have d4 : same (PV.agg (List.take 4 (List.drop (Int.toNat (Int.ofNat j) * 4) (Dats.cells ks)))) (PV.agg [PV.int IntKind.i64 k', PV.int IntKind.i64 n', PV.str s', PV.slice (Dats.len ks') (Dats.cells ks')]) = true := same_of (by
        show PV.agg (List.take 4 (List.drop (j * 4) (Dats.cells ks))) = _
        rw [Dats.get_cells ks j hlt, hget]; rfl)
      have hI : intL (p ++ [(j : Int)]) = [] ++ pc ++ [PV.int IntKind.i64 (Int.ofNat j)] := by rw [intL_snoc, hpc]; rfl
      obtain ⟨D, hD⟩ : ∃ D, D = ptL (Dats.cells ks') ([] ++ pc ++ [PV.int IntKind.i64 (Int.ofNat j)]) := ⟨_, rfl⟩
      have hD1 : D = pthD (ks.get j) (p ++ [(j : Int)]) := by rw [hD, ← hI, ptL_at, hget]; rfl
      have hDl : D.length ≤ ks.size + 1 := by
        have := pthD_len (ks.get j) (p ++ [(j : Int)])
        have := Dats.get_size ks j hlt
        rw [hD1]; omega
      have hpv : (pvP D).length = D.length := by simp [pvP]
      have d5 : Nat.ble ((0 + q + 1) * 8) 140737488355328 = true := Nat.ble_eq_true_of_le (by omega)
      have d6 : Nat.ble (0 + q + 1) 9223372036854775807 = true := Nat.ble_eq_true_of_le (by omega)
      have hq1 : (p ++ [(j : Int)]).length = 0 + q + 1 := by rw [List.length_append, ← hq, Nat.zero_add]; rfl
      have d7 : isPt N ks'.len ks'.cells (0 + q + 1) ([] ++ pc ++ [PV.int IntKind.i64 (Int.ofNat j)]) = true := by
        rw [← hI, ← hq1]
        exact isPt_at (by omega) (by rw [hq1]; omega)
      have d8 : Nat.beq (List.length (pvP D)) (D.length * 1) = true := by rw [hpv, Nat.mul_one]; exact Nat.beq_refl _
      have d9 : Nat.ble ((m + D.length) * 24) 140737488355328 = true := Nat.ble_eq_true_of_le (by omega)
      have d10 : Nat.ble (m + D.length) 9223372036854775807 = true := Nat.ble_eq_true_of_le (by omega)
      rw [hD] at d8 d9 d10
      have hls := len_size ks
      have wj : IntKind.wrap IntKind.i64 (Int.ofNat (j + 1)) = ((j + 1 : Nat) : Int) := wrapI (j + 1) (by omega)
      refine Q.seq fun K3 hK3 => ?_
      refine Q.block ?_
      refine SWP.runMQ (SPt ih [(33, [(22, true), (23, true), (26, true), (29, true), (31, true)])] [(33, [(23, .agg [.int .i64 k', .int .i64 n', .str s', .slice ks'.len ks'.cells])])]) 100 33 hnt [(28, 1)] [1, 2, 5, 6] (z := ⟨[(1, .slice q pc), (2, .ptr 0 0), (5, .own 1 (m + List.length (ptL (Dats.cells ks') ([] ++ pc ++ [.int .i64 (Int.ofNat j)])))), (6, .int .i64 (Int.ofNat j))], ⟨[⟨[.int .i64 k, .int .i64 n, .str s, .slice (Dats.len ks) (Dats.cells ks)], 25⟩], [none, some ⟨rc ++ pvP (ptL (Dats.cells ks') ([] ++ pc ++ [.int .i64 (Int.ofNat j)])), m + List.length (ptL (Dats.cells ks') ([] ++ pc ++ [.int .i64 (Int.ofNat j)])), 40, 1⟩, none]⟩⟩) (o := [(decide (0 ≤ (↑j : Int) ∧ (↑j : Int) < (↑(Dats.len ks) : Int)), true), (decide (TD.size d25 ≤ List.length (List.drop (Int.toNat (↑j : Int) * TD.size d25) (Dats.cells ks))), true), (same (PV.agg (List.take 4 (List.drop (Int.toNat (Int.ofNat j) * 4) (Dats.cells ks)))) (PV.agg [PV.int IntKind.i64 k', PV.int IntKind.i64 n', PV.str s', PV.slice (Dats.len ks') (Dats.cells ks')]), true), (Nat.beq (List.length pc) (q * 1), true), (Nat.ble ((0 + q) * 8) 140737488355328, true), (Nat.ble (0 + q) 9223372036854775807, true), (true, true), (Nat.ble ((0 + q + 1) * 8) 140737488355328, true), (Nat.ble (0 + q + 1) 9223372036854775807, true), (isPt N (Dats.len ks') (Dats.cells ks') (0 + q + 1) ([] ++ pc ++ [PV.int IntKind.i64 (Int.ofNat j)]), true), (Nat.beq (List.length (pvP (ptL (Dats.cells ks') ([] ++ pc ++ [PV.int IntKind.i64 (Int.ofNat j)])))) (List.length (ptL (Dats.cells ks') ([] ++ pc ++ [PV.int IntKind.i64 (Int.ofNat j)])) * 1), true), (Nat.ble ((m + List.length (ptL (Dats.cells ks') ([] ++ pc ++ [PV.int IntKind.i64 (Int.ofNat j)]))) * 24) 140737488355328, true), (Nat.ble (m + List.length (ptL (Dats.cells ks') ([] ++ pc ++ [PV.int IntKind.i64 (Int.ofNat j)]))) 9223372036854775807, true)]) (by kernel_rfl) (by kernel_rfl) (by ((repeat' (first | exact okO_nil | refine okN ?_ ?_)); all_goals first | assumption | rfl | exact same_of rfl | exact sameS_self _ | (simp only [decide_eq_true_eq, decide_eq_false_iff_not, Nat.ble_eq, Nat.beq_eq, beq_eq_false_iff_ne, beq_iff_eq, ne_eq] <;> omega))) (fun st hst => hK3 st (.norm [1, 2, 5, 6] ?_))
      rw [hst]
      refine swp_cutR 2 (Nat.le_of_ble_eq_true rfl) rfl rfl ?_
      have hLj : L (j + 1) = L j ++ D := by
        show p :: pthK (ks.take (j + 1)) p 0 = (p :: pthK (ks.take j) p 0) ++ D
        rw [pthK_take ks p 0 j hlt, hD1, Nat.zero_add]; rfl
      refine swp_st (st' := ⟨[(1, .slice q pc), (2, .ptr 0 0), (5, .own 1 (L (j + 1)).length), (6, .int .i64 j)], ⟨[dB k n s ks], [none, some (rwP (pvP (L (j + 1))) (L (j + 1)).length)]⟩⟩) (by
        rw [hLj, pvP_app, List.length_append, ← hm, ← hrc, hD]; rfl) ?_
      obtain ⟨m', hm'⟩ : ∃ m, m = (L (j + 1)).length := ⟨_, rfl⟩
      obtain ⟨rc', hrc'⟩ : ∃ rc, rc = pvP (L (j + 1)) := ⟨_, rfl⟩
      rw [← hm', ← hrc']
      clear hm hrc m rc d9 d10 hst
      obtain ⟨m, hm⟩ : ∃ m, m = m' := ⟨_, rfl⟩
      obtain ⟨rc, hrc⟩ : ∃ rc, rc = rc' := ⟨_, rfl⟩
      rw [← hm, ← hrc]
      exact SWP.runQ (SPt ih [] []) 100 33 hnt [1, 2, 5, 6] (e := .normal) (z := ⟨[(1, .slice q pc), (2, .ptr 0 0), (5, .own 1 m), (6, .int .i64 (IntKind.wrap IntKind.i64 (Int.ofNat (j + 1))))], ⟨[⟨[.int .i64 k, .int .i64 n, .str s, .slice (Dats.len ks) (Dats.cells ks)], 25⟩], [none, some ⟨rc, m, 40, 1⟩]⟩⟩) (o := []) (by kernel_rfl) (by ((repeat' (first | exact okO_nil | refine okN ?_ ?_)); all_goals first | assumption | rfl | exact same_of rfl | exact sameS_self _ | (simp only [decide_eq_true_eq, decide_eq_false_iff_not, Nat.ble_eq, Nat.beq_eq, beq_eq_false_iff_ne, beq_iff_eq, ne_eq] <;> omega))) (fun st hst => ⟨⟨j + 1, hlt⟩, Nat.sub_lt_sub_left hlt (Nat.lt_succ_self j), by rw [hst, wj, hm, hrc, hm', hrc']; rfl⟩)
    · have d1 := ge_at hge
      have hje : j = ks.len := by omega
      have hLj : L j = p :: pthK ks p 0 := by show p :: pthK (ks.take j) p 0 = _; rw [hje, tkAll]
      refine SWP.runQ (SPt ih [(33, [(15, false)])] []) 100 33 hnt [5] (e := .exit 0) (z := ⟨[(5, .own 1 m)], ⟨[⟨[.int .i64 k, .int .i64 n, .str s, .slice (Dats.len ks) (Dats.cells ks)], 25⟩], [none, some ⟨rc, m, 40, 1⟩]⟩⟩) (o := [(decide ((↑j : Int) < (↑(Dats.len ks) : Int)), false), (false, false)]) (by kernel_rfl) (by ((repeat' (first | exact okO_nil | refine okN ?_ ?_)); all_goals first | assumption | rfl | exact same_of rfl | exact sameS_self _ | (simp only [decide_eq_true_eq, decide_eq_false_iff_not, Nat.ble_eq, Nat.beq_eq, beq_eq_false_iff_ne, beq_iff_eq, ne_eq] <;> omega))) (fun st hst => hK st (.norm [5] ?_))
      rw [hst]
      refine SWP.frz [1] ?_
      exact SWP.runQ (SPt ih [] []) 100 33 hnt [4] (e := .ret) (z := ⟨[(4, .slice m rc)], ⟨[⟨[.int .i64 k, .int .i64 n, .str s, .slice (Dats.len ks) (Dats.cells ks)], 25⟩], [none, none]⟩⟩) (o := []) (by kernel_rfl) (by ((repeat' (first | exact okO_nil | refine okN ?_ ?_)); all_goals first | assumption | rfl | exact same_of rfl | exact sameS_self _ | (simp only [decide_eq_true_eq, decide_eq_false_iff_not, Nat.ble_eq, Nat.beq_eq, beq_eq_false_iff_ne, beq_iff_eq, ne_eq] <;> omega))) (fun st hst => fin st m rc _ _ (by rw [hm, hLj]) (by rw [hrc, hLj]) hst)
theorem pzS_ok (f : Nat) (args : List PV) (r : PV) (o : Ob) (h : pzS f args = some (r, o)) (ho : ∀ p ∈ o, p.1 = p.2) (_ : pureL args = true) : Pure G0 f args (fun x => x = r) := by
  unfold pzS at h
  split at h
  · rename_i k n t m cs _
    cases h
    obtain ⟨ks, p, rfl, rfl, h1, h2, h3, h4⟩ := isPt_of (ho _ (List.mem_singleton.2 rfl))
    obtain rfl : p = [] := List.eq_nil_of_length_eq_zero h3.symm
    rw [show ([] : List PV) = intL [] from rfl, ptL_at]
    have := pt_at (ks.size + 1) k n t ks [] (Nat.lt_succ_self _) (by simpa using h4)
    intro E w vs hh hv
    obtain ⟨v1, vs, rfl, g1, g⟩ := hv.cons_inv
    obtain ⟨v2, vs, rfl, g2, g⟩ := g.cons_inv
    obtain rfl := g.nil_inv
    exact this E w _ hh (.cons g1 (.cons g2.nil_slice (.nil _ _)))
  · cases h
noncomputable def SPz (l : List (Nat × List (Nat × Bool))) (v : List (Nat × List (Nat × PV))) : Cfg G0 := { F := F, hF := hF, S := pzS, hS := pzS_ok, orc := orcM l, val := valM v }
theorem paths_ok (k n : Int) (s : ByteArray) (ks : Dats) (h : ks.size ≤ 200000) : Pure G0 26 [.agg [.int .i64 k, .int .i64 n, .str s, .slice ks.len ks.cells]] (fun r => r = .slice ([] :: pthK ks [] 0).length (pvP ([] :: pthK ks [] 0))) := by
  have a1 : isPt 200001 ks.len ks.cells 0 [] = true := isPt_at (p := []) (by omega) (by simpa using h)
  have e1 : ptL ks.cells [] = [] :: pthK ks [] 0 := ptL_at ks []
  refine Fn.enterB Tryd.func26 Tryd.ntmps26 rfl (Nat.le_of_ble_eq_true rfl) fun C fr fp hnt hnb hp hfr hfp => ?_
  exact SWP.runQ (SPz [] []) 100 5 hnt [2] (e := .ret) (z := ⟨[(2, .slice (List.length (ptL (Dats.cells ks) [])) (pvP (ptL (Dats.cells ks) [])))], ⟨[⟨[.int .i64 k, .int .i64 n, .str s, .slice (Dats.len ks) (Dats.cells ks)], 25⟩], []⟩⟩) (o := [(true, true), (isPt 200001 (Dats.len ks) (Dats.cells ks) 0 [], true)]) (by kernel_rfl) (by ((repeat' (first | exact okO_nil | refine okN ?_ ?_)); all_goals first | assumption | rfl | exact same_of rfl | exact sameS_self _ | (simp only [decide_eq_true_eq, decide_eq_false_iff_not, Nat.ble_eq, Nat.beq_eq, beq_eq_false_iff_ne, beq_iff_eq, ne_eq] <;> omega))) (fun st hst => hfr st [2] (by
    rw [hst, ← e1]
    exact ⟨0, .slice (ptL ks.cells []).length (pvP (ptL ks.cells [])), Nat.le_refl _, Nat.zero_le _, rfl, rfl, rfl, rfl, _, rfl, rfl⟩))
end Seat
end Go.Proofs.YtenpjkcclmmlhaaDoor
namespace Go.Proofs.YtenpjkcclmmlhaaDoor
open Go.AS Go.RowKit
set_option linter.unusedVariables false
set_option linter.unusedSimpArgs false
set_option maxRecDepth 100000
set_option maxHeartbeats 4000000
namespace Seat
noncomputable def S0o (l : List (Nat × List (Nat × Bool))) (v : List (Nat × List (Nat × PV))) : Cfg G0 := { S0 with orc := orcM l, val := valM v }
def subD : Dat → List Int → Dat
  | d, [] => d
  | .mk _ _ _ ks, i :: r => subD (Dats.get ks i.toNat) r
def vldD : Dat → List Int → Prop
  | d, [] => True
  | .mk _ _ _ ks, i :: r => (0 ≤ i ∧ i < (ks.len : Int)) ∧ vldD (Dats.get ks i.toNat) r
theorem at_ok (d : Dat) (l : List Int) (hl : l.length ≤ 9223372036854775807) (hv : vldD d l) : Pure G0 27 [.agg d.cells, .slice l.length (intL l)] (fun r => r = .tup [.agg (subD d l).cells, .bool true]) := by
  obtain ⟨k0, n0, s0, ks0⟩ := d
  show Pure G0 _ [.agg [.int .i64 k0, .int .i64 n0, .str s0, .slice ks0.len ks0.cells], _] _
  refine Fn.enterB Tryd.func27 Tryd.ntmps27 rfl (Nat.le_of_ble_eq_true rfl) fun C fr fp hnt hnb hp hfr hfp => ?_
  have fin : ∀ st (Y : Dat) bx0 bx rw', Y = subD (.mk k0 n0 s0 ks0) l → nrm [4, 5] st = ⟨[(4, .ptr 1 0), (5, .bool true)], ⟨bx0 :: ⟨Y.cells, 25⟩ :: bx, rw'⟩⟩ → fr st := fun st Y bx0 bx rw' h hst => hfr st [4, 5] (by
    rw [hst, ← h]
    obtain ⟨k, n, s, ks⟩ := Y
    exact ⟨0, .tup [.agg [.int .i64 k, .int .i64 n, .str s, .slice ks.len ks.cells], .bool true], Nat.le_refl _, Nat.zero_le _, rfl, rfl, rfl, rfl, _, rfl, rfl⟩)
  obtain ⟨cs, hcs⟩ : ∃ cs, cs = intL l := ⟨_, rfl⟩
  obtain ⟨m, hm⟩ : ∃ m, m = l.length := ⟨_, rfl⟩
  rw [← hcs, ← hm]
  refine Q.runSeq (S0o [] []) 100 38 hnt [1, 2, 4] (z := ⟨[(1, .slice m cs), (2, .ptr 0 0), (4, .ptr 1 0)], ⟨[dB k0 n0 s0 ks0, dZ], []⟩⟩) (o := []) (by kernel_rfl) (by ((repeat' (first | exact okO_nil | refine okN ?_ ?_)); all_goals first | assumption | rfl | exact same_of rfl | exact sameS_self _ | (simp only [decide_eq_true_eq, decide_eq_false_iff_not, Nat.ble_eq, Nat.beq_eq, beq_eq_false_iff_ne, beq_iff_eq, ne_eq] <;> omega))) ?_
  refine Q.seq fun K hK => ?_
  refine Q.runSeq (S0o [] []) 100 38 hnt [1, 2, 4, 6] (z := ⟨[(1, .slice m cs), (2, .ptr 0 0), (4, .ptr 1 0), (6, .int .i64 (0 : Nat))], ⟨[dB k0 n0 s0 ks0, dZ], []⟩⟩) (o := []) (by kernel_rfl) (by ((repeat' (first | exact okO_nil | refine okN ?_ ?_)); all_goals first | assumption | rfl | exact same_of rfl | exact sameS_self _ | (simp only [decide_eq_true_eq, decide_eq_false_iff_not, Nat.ble_eq, Nat.beq_eq, beq_eq_false_iff_ne, beq_iff_eq, ne_eq] <;> omega))) ?_
  refine Q.block ?_
  let T (j : Nat) (Y : Dat) : AS := ⟨[(1, .slice m cs), (2, .ptr 0 0), (4, .ptr 1 0), (6, .int .i64 j)], ⟨[⟨Y.cells, 25⟩, dZ], []⟩⟩
  refine Q.loopI (σ := { x : Nat × Dat // x.1 ≤ m ∧ subD x.2 (l.drop x.1) = subD (.mk k0 n0 s0 ks0) l ∧ vldD x.2 (l.drop x.1) }) [1, 2, 4, 6] (fun x => T x.1.1 x.1.2) (fun x => m - x.1.1) ⟨(0, .mk k0 n0 s0 ks0), Nat.zero_le _, rfl, hv⟩ rfl fun ⟨(j, Y), hj, hk, hw⟩ => ?_
  have hj : j ≤ m := hj
  have hk : subD Y (l.drop j) = subD (.mk k0 n0 s0 ks0) l := hk
  have hw : vldD Y (l.drop j) := hw
  obtain ⟨k, n, s, ks⟩ := Y
  show SWP G0 C _ _ ⟨[(1, .slice m cs), (2, .ptr 0 0), (4, .ptr 1 0), (6, .int .i64 j)], ⟨[dB k n s ks, dZ], []⟩⟩
  refine Q.seq fun K2 hK2 => ?_
  rcases Nat.lt_or_ge j m with hlt | hge
  · have b1 := lt_at hlt
    have b2 := in_at hlt
    obtain ⟨i, hi⟩ : ∃ i, l[j]? = some i := ⟨_, List.getElem?_eq_getElem (by omega)⟩
    have hdr : l.drop j = i :: l.drop (j + 1) := by
      have := (List.getElem?_eq_some_iff.1 hi)
      obtain ⟨h1, h2⟩ := this
      rw [List.drop_eq_getElem_cons h1, h2]
    have hcj : cs.drop j = .int .i64 i :: cs.drop (j + 1) := by rw [hcs, intL, ← List.map_drop, hdr]; simp [List.map_drop]
    have b3 : decide (1 ≤ List.length (List.drop (Int.toNat (j : Int) * 1) cs)) = true := by rw [Int.toNat_natCast, Nat.mul_one, hcj]; simp
    have b4 : same (List.headD (List.drop (Int.toNat (j : Int) * 1) cs) .junk) (.int .i64 i) = true := same_of (by rw [Int.toNat_natCast, Nat.mul_one, hcj]; rfl)
    rw [hdr] at hw
    obtain ⟨⟨w1, w2⟩, w3⟩ := hw
    rw [hdr, subD] at hk
    have wj : IntKind.wrap IntKind.i64 (Int.ofNat (j + 1)) = ((j + 1 : Nat) : Int) := wrapI (j + 1) (by omega)
    refine SWP.runQ (S0o [(38, [(10, true)])] []) 100 38 hnt [1, 2, 4, 6] (e := .normal) (z := ⟨[(1, .slice m cs), (2, .ptr 0 0), (4, .ptr 1 0), (6, .int .i64 (Int.ofNat j))], ⟨[⟨[.int .i64 k, .int .i64 n, .str s, .slice (Dats.len ks) (Dats.cells ks)], 25⟩, ⟨[.int .i64 (0 : Int), .int .i64 (0 : Int), .str ⟨#[]⟩, PV.nil], 25⟩], []⟩⟩) (o := [(decide ((↑j : Int) < (↑m : Int)), true), (true, true)]) (by kernel_rfl) (by ((repeat' (first | exact okO_nil | refine okN ?_ ?_)); all_goals first | assumption | rfl | exact same_of rfl | exact sameS_self _ | (simp only [decide_eq_true_eq, decide_eq_false_iff_not, Nat.ble_eq, Nat.beq_eq, beq_eq_false_iff_ne, beq_iff_eq, ne_eq] <;> omega))) (fun st hst => hK2 st (.norm [1, 2, 4, 6] ?_))
    rw [hst]
    clear hst hK2
    have hit : i.toNat < ks.len := by omega
    have b6 : same (.bool (decide (i < 0))) (.bool false) = true := sameB (decide_eq_false (by omega))
    have b7 : same (.bool (decide ((ks.len : Int) ≤ i))) (.bool false) = true := sameB (decide_eq_false (by omega))
    have b8 : decide (0 ≤ i ∧ i < (ks.len : Int)) = true := by rw [decide_eq_true_eq]; omega
    obtain ⟨k', n', s', ks', hY⟩ := Dats.get_mk ks i.toNat
    have b9 : decide (4 ≤ List.length (List.drop (Int.toNat i * 4) (Dats.cells ks))) = true := by simp only [List.length_drop, Dats.cells_len, decide_eq_true_eq]; omega
    have b10 : same (.agg (List.take 4 (List.drop (Int.toNat i * 4) (Dats.cells ks)))) (.agg [.int .i64 k', .int .i64 n', .str s', .slice ks'.len ks'.cells]) = true := same_of (by rw [Dats.get_cells ks i.toNat hit, hY]; rfl)
    refine Q.seq fun K3 hK3 => ?_
    refine Q.block ?_
    refine Q.seq fun K4 hK4 => ?_
    refine Q.seq fun K5 hK5 => ?_
    refine SWP.runMQ (S0o [(38, [(15, true), (16, true), (21, true), (22, true)])] [(38, [(16, .int .i64 i), (17, .bool false), (22, .int .i64 i), (26, .bool false)])]) 100 38 hnt [] [1, 2, 4, 6, 27] (z := ⟨[(1, .slice m cs), (2, .ptr 0 0), (4, .ptr 1 0), (6, .int .i64 j), (27, .bool false)], ⟨[dB k n s ks, dZ], []⟩⟩) (o := [(decide (0 ≤ (j : Int) ∧ (j : Int) < (m : Int)), true), (decide (1 ≤ List.length (List.drop (Int.toNat (j : Int) * 1) cs)), true), (same (List.headD (List.drop (Int.toNat (j : Int) * 1) cs) .junk) (.int .i64 i), true), (same (.bool (decide (i < 0))) (.bool false), true), (decide (0 ≤ (j : Int) ∧ (j : Int) < (m : Int)), true), (decide (1 ≤ List.length (List.drop (Int.toNat (j : Int) * 1) cs)), true), (same (List.headD (List.drop (Int.toNat (j : Int) * 1) cs) .junk) (.int .i64 i), true), (same (.bool (decide ((ks.len : Int) ≤ i))) (.bool false), true)]) (by kernel_rfl) (by kernel_rfl) (by ((repeat' (first | exact okO_nil | refine okN ?_ ?_)); all_goals first | assumption | rfl | exact same_of rfl | exact sameS_self _ | (simp only [decide_eq_true_eq, decide_eq_false_iff_not, Nat.ble_eq, Nat.beq_eq, beq_eq_false_iff_ne, beq_iff_eq, ne_eq] <;> omega))) (fun st hst => hK5 st (.norm [1, 2, 4, 6, 27] ?_))
    rw [hst]
    refine Q.cond (b := false) rfl (fun h => by cases h) (fun _ => ?_)
    refine .skip (hK4 _ (.norm [1, 2, 4, 6] ?_))
    refine SWP.runMQ (S0o [(38, [(33, true), (34, true), (35, true), (36, true)])] [(38, [(34, .int .i64 i), (36, .agg [.int .i64 k', .int .i64 n', .str s', .slice ks'.len ks'.cells])])]) 100 38 hnt [] [1, 2, 4, 6] (z := ⟨[(1, .slice m cs), (2, .ptr 0 0), (4, .ptr 1 0), (6, .int .i64 j)], ⟨[dB k' n' s' ks', dZ], []⟩⟩) (o := [(decide (0 ≤ (j : Int) ∧ (j : Int) < (m : Int)), true), (decide (1 ≤ List.length (List.drop (Int.toNat (j : Int) * 1) cs)), true), (same (List.headD (List.drop (Int.toNat (j : Int) * 1) cs) .junk) (.int .i64 i), true), (decide (0 ≤ i ∧ i < (ks.len : Int)), true), (decide (4 ≤ List.length (List.drop (Int.toNat i * 4) (Dats.cells ks))), true), (same (.agg (List.take 4 (List.drop (Int.toNat i * 4) (Dats.cells ks)))) (.agg [.int .i64 k', .int .i64 n', .str s', .slice ks'.len ks'.cells]), true)]) (by kernel_rfl) (by kernel_rfl) (by ((repeat' (first | exact okO_nil | refine okN ?_ ?_)); all_goals first | assumption | rfl | exact same_of rfl | exact sameS_self _ | (simp only [decide_eq_true_eq, decide_eq_false_iff_not, Nat.ble_eq, Nat.beq_eq, beq_eq_false_iff_ne, beq_iff_eq, ne_eq] <;> omega))) (fun st hst => hK3 st (.norm [1, 2, 4, 6] ?_))
    rw [hst]
    exact SWP.runQ (S0o [] []) 100 38 hnt [1, 2, 4, 6] (e := .normal) (z := ⟨[(1, .slice m cs), (2, .ptr 0 0), (4, .ptr 1 0), (6, .int .i64 (IntKind.wrap IntKind.i64 (Int.ofNat (j + 1))))], ⟨[dB k' n' s' ks', dZ], []⟩⟩) (o := []) (by kernel_rfl) (by ((repeat' (first | exact okO_nil | refine okN ?_ ?_)); all_goals first | assumption | rfl | exact same_of rfl | exact sameS_self _ | (simp only [decide_eq_true_eq, decide_eq_false_iff_not, Nat.ble_eq, Nat.beq_eq, beq_eq_false_iff_ne, beq_iff_eq, ne_eq] <;> omega))) (fun st hst => ⟨⟨(j + 1, ks.get i.toNat), hlt, hk, w3⟩, Nat.sub_lt_sub_left hlt (Nat.lt_succ_self j), by rw [hst, wj]; show _ = (⟨[(1, .slice m cs), (2, .ptr 0 0), (4, .ptr 1 0), (6, .int .i64 (j + 1 : Nat))], ⟨[⟨(ks.get i.toNat).cells, 25⟩, dZ], []⟩⟩ : AS); rw [hY]; rfl⟩)
  · have hjm : j = m := by omega
    have b1 := ge_at hge
    rw [List.drop_of_length_le (by omega)] at hk
    refine SWP.runQ (S0o [(38, [(10, false)])] []) 100 38 hnt [2, 4] (e := .exit 0) (z := ⟨[(2, .ptr 0 0), (4, .ptr 1 0)], ⟨[⟨[.int .i64 k, .int .i64 n, .str s, .slice (Dats.len ks) (Dats.cells ks)], 25⟩, ⟨[.int .i64 (0 : Int), .int .i64 (0 : Int), .str ⟨#[]⟩, PV.nil], 25⟩], []⟩⟩) (o := [(decide ((↑j : Int) < (↑m : Int)), false), (false, false)]) (by kernel_rfl) (by ((repeat' (first | exact okO_nil | refine okN ?_ ?_)); all_goals first | assumption | rfl | exact same_of rfl | exact sameS_self _ | (simp only [decide_eq_true_eq, decide_eq_false_iff_not, Nat.ble_eq, Nat.beq_eq, beq_eq_false_iff_ne, beq_iff_eq, ne_eq] <;> omega))) (fun st hst => hK st (.norm [2, 4] ?_))
    rw [hst]
    exact SWP.runQ (S0o [] []) 100 38 hnt [4, 5] (e := .ret) (z := ⟨[(4, .ptr 1 0), (5, .bool true)], ⟨[⟨[.int .i64 k, .int .i64 n, .str s, .slice (Dats.len ks) (Dats.cells ks)], 25⟩, ⟨[.int .i64 k, .int .i64 n, .str s, .slice (Dats.len ks) (Dats.cells ks)], 25⟩], []⟩⟩) (o := []) (by kernel_rfl) (by ((repeat' (first | exact okO_nil | refine okN ?_ ?_)); all_goals first | assumption | rfl | exact same_of rfl | exact sameS_self _ | (simp only [decide_eq_true_eq, decide_eq_false_iff_not, Nat.ble_eq, Nat.beq_eq, beq_eq_false_iff_ne, beq_iff_eq, ne_eq] <;> omega))) (fun st hst => fin st (.mk k n s ks) _ _ _ hk hst)
end Seat
end Go.Proofs.YtenpjkcclmmlhaaDoor
namespace Go.Proofs.YtenpjkcclmmlhaaDoor
open Go.AS Go.RowKit
set_option linter.unusedVariables false
set_option linter.unusedSimpArgs false
set_option maxRecDepth 100000
set_option maxHeartbeats 4000000
namespace Seat
open Classical in
noncomputable def isSml (cs : List PV) : Bool := decide (∃ d : Dat, d.cells = cs ∧ Small d)
theorem isSml_at {d : Dat} (h : Small d) : isSml d.cells = true := by
  unfold isSml
  classical exact decide_eq_true ⟨d, rfl, h⟩
theorem isSml_of {cs : List PV} (h : isSml cs = true) : ∃ d : Dat, d.cells = cs ∧ Small d := by
  unfold isSml at h
  classical exact of_decide_eq_true h
noncomputable def wrBC (cs : List PV) : ByteArray := ofCells wrB ⟨#[]⟩ cs
noncomputable def wrEC (cs : List PV) : Int := ofCells wrE 0 cs
def ofA (s : ByteArray) : Int := (offR s [1, 1, 0]).1
def ofE (s : ByteArray) : Int := (offR s [1, 1, 0]).2
noncomputable def avS (f : Nat) (args : List PV) : Option (PV × Ob) := match f, args with
  | 15, [.str s] => some (.tup [.agg [.int .i64 (ndK (onX s)), .int .i64 (ndN (onX s)), .str (ndT (onX s)), .slice (Dats.len (Nds.dat (ndS (onX s)))) (Dats.cells (Nds.dat (ndS (onX s))))], .int .i64 (onA s), .int .i64 (onE s)], [])
  | 24, [.str s, .slice 3 [.int .i64 1, .int .i64 1, .int .i64 0]] => some (.tup [.int .i64 (ofA s), .int .i64 (ofE s)], [])
  | 20, [.agg cs] => some (.tup [.str (wrBC cs), .int .i64 (wrEC cs)], [(isSml cs, true)])
  | _, _ => none
theorem avS_ok (f : Nat) (args : List PV) (r : PV) (o : Ob) (h : avS f args = some (r, o)) (ho : ∀ p ∈ o, p.1 = p.2) (_ : pureL args = true) : Pure G0 f args (fun x => x = r) := by
  unfold avS at h
  split at h
  · cases h
    exact ReadP _
  · cases h
    exact offsetP _ [1, 1, 0] (by decide)
  · rename_i cs _
    cases h
    obtain ⟨d, rfl, h1⟩ := isSml_of (ho (isSml cs, true) (List.mem_singleton.2 rfl))
    unfold wrBC wrEC
    rw [ofCells_at, ofCells_at]
    exact writeP d h1.good h1.2.1 (by have := h1.2.2; omega)
  · cases h
noncomputable def SAv (l : List (Nat × List (Nat × Bool))) (v : List (Nat × List (Nat × PV))) : Cfg G0 := { F := F, hF := hF, S := avS, hS := avS_ok, orc := orcM l, val := valM v }
def xA : ByteArray := ⟨#[40, 97, 32, 39, 40, 49, 32, 98, 41, 41, 32, 59, 32, 99]⟩
def xB : ByteArray := ⟨#[40, 97, 32, 48, 49, 41]⟩
def xC : ByteArray := ⟨#[40, 97]⟩
def xD : ByteArray := ⟨#[97, 32, 98]⟩
def xW : ByteArray := ⟨#[40, 97, 32, 40, 113, 117, 111, 116, 101, 32, 40, 49, 32, 98, 41, 41, 41]⟩
def yA : Dat := .mk 2 0 ⟨#[97]⟩ .nil
def yK : Dats := .cons yA (.cons (.mk 3 0 ⟨#[]⟩ (.cons (.mk 2 0 ⟨#[113, 117, 111, 116, 101]⟩ .nil) (.cons (.mk 3 0 ⟨#[]⟩ (.cons (.mk 1 1 ⟨#[]⟩ .nil) (.cons (.mk 2 0 ⟨#[98]⟩ .nil) .nil))) .nil))) .nil)
def yD : Dat := .mk 3 0 ⟨#[]⟩ yK
theorem x1 : (onX xA).dat = yD ∧ onE xA = 0 := ⟨by kernel_rfl, by kernel_rfl⟩
theorem x2 : ofE xA = 0 ∧ ofA xA = 5 := ⟨by kernel_rfl, by kernel_rfl⟩
theorem x3 : onE xB = 4 ∧ onA xB = 3 := ⟨by kernel_rfl, by kernel_rfl⟩
theorem x4 : onE xC = 4 ∧ onA xC = 2 := ⟨by kernel_rfl, by kernel_rfl⟩
theorem x5 : onE xD = 4 ∧ onA xD = 2 := ⟨by kernel_rfl, by kernel_rfl⟩
theorem x6 : wrE yD = 0 ∧ wrB yD = xW := ⟨by kernel_rfl, by kernel_rfl⟩
theorem y_small : Small yD := by
  refine ⟨?_, ?_, Nat.le_of_ble_eq_true (by kernel_rfl)⟩
  · simp [yD, yK, yA, Dat.ok, Dats.ok, Dats.len]
  · simp [yD, yK, yA, Dat.rng, Dats.rng]
theorem bq {a b : Int} (h : a = b) : (a == b) = true := by rw [h]; exact beq_self_eq_true b
theorem alive_ok : Pure G0 18 [] (fun r => r = .bool true) := by
  have hc : ndJ (onX xA) = yD.cells := by rw [ndJ_eq, x1.1]
  have c1 := bq x1.2
  have c2 := bq x2.1
  have c3 := bq x2.2
  have c4 := bq x3.1
  have c5 := bq x3.2
  have c6 := bq x4.1
  have c7 := bq x4.2
  have c8 := bq x5.1
  have c9 := bq x5.2
  have d1 : isSml (ndJ (onX xA)) = true := by rw [hc]; exact isSml_at y_small
  have d2 : (wrEC (ndJ (onX xA)) == (0 : Int)) = true := by rw [hc]; unfold wrEC; rw [ofCells_at, x6.1]; rfl
  have d3 : (ByteArray.toList (wrBC (ndJ (onX xA))) == ByteArray.toList xW) = true := by rw [hc]; unfold wrBC; rw [ofCells_at, x6.2, beq_self_eq_true]
  refine Fn.enterB Tryd.func18 Tryd.ntmps18 rfl (Nat.le_of_ble_eq_true rfl) fun C fr fp hnt hnb hp hfr hfp => ?_
  refine SWP.runQ (SAv [(89, [(48, true), (51, true), (55, true), (59, true), (63, true), (67, true), (71, true), (75, true), (79, true), (83, true), (87, true)])] []) 100 89 hnt [0] (e := .ret) (z := ⟨[(0, .bool true)], ⟨[⟨ndJ (onX xA), 25⟩, ⟨ndJ (onX xB), 25⟩, ⟨ndJ (onX xC), 25⟩, ⟨ndJ (onX xD), 25⟩], []⟩⟩) (o := [(true, true), (true, true), (true, true), (true, true), (true, true), (true, true), (isSml (ndJ (onX xA)), true), (true, true), (true, true), (true, true), (true, true), (true, true), (true, true), (true, true), (true, true), (true, true), (wrEC (ndJ (onX xA)) == (0 : Int), true), (ByteArray.toList (wrBC (ndJ (onX xA))) == ByteArray.toList xW, true)]) (by kernel_rfl) (by ((repeat' (first | exact okO_nil | refine okN ?_ ?_)); all_goals first | assumption | rfl | exact same_of rfl | exact sameS_self _ | (simp only [decide_eq_true_eq, decide_eq_false_iff_not, Nat.ble_eq, Nat.beq_eq, beq_eq_false_iff_ne, beq_iff_eq, ne_eq] <;> omega))) (fun st hs => hfr st [0] ?_)
  rw [hs]
  exact ⟨0, .bool true, Nat.le_refl _, Nat.zero_le _, rfl, rfl, rfl, rfl, _, rfl, rfl⟩
end Seat
end Go.Proofs.YtenpjkcclmmlhaaDoor
namespace Go.Proofs.YtenpjkcclmmlhaaDoor
open Go.AS Go.RowKit
set_option linter.unusedVariables false
set_option linter.unusedSimpArgs false
set_option maxRecDepth 100000
set_option maxHeartbeats 4000000
namespace Seat
noncomputable def eqC (cs ds : List PV) : Bool := ofCells (fun d => ofCells (fun e => eqD d e) false ds) false cs
theorem eqC_at (d e : Dat) : eqC d.cells e.cells = eqD d e := by unfold eqC; rw [ofCells_at, ofCells_at]
end Seat
end Go.Proofs.YtenpjkcclmmlhaaDoor
