/- Texts of this session, packed: Rng0, LawC, Back0, LawD. -/
import Derived.Test.YtenpjkcclmmlhaaDoorRa6
/- What a reading gives: its numbers are a machine's, it is formed, and not large (plain Lean). -/
namespace Go.Proofs.YtenpjkcclmmlhaaDoor
open Go.AS
set_option linter.unusedVariables false
set_option linter.unusedSimpArgs false
set_option maxRecDepth 10000
namespace Seat
theorem wrap_rng (n : Int) : -9223372036854775808 ≤ IntKind.wrap IntKind.i64 n ∧ IntKind.wrap IntKind.i64 n ≤ 9223372036854775807 := by rw [IntKind.wrap_i64]; omega
theorem numT_rng (t : ByteArray) (b : Bool) : -9223372036854775808 ≤ (numT t b).1 ∧ (numT t b).1 ≤ 9223372036854775807 := by
  unfold numT
  split
  · decide
  · split
    · decide
    · split
      · exact wrap_rng _
      · exact wrap_rng _
theorem numV_rng (w : ByteArray) : -9223372036854775808 ≤ (numV w).1 ∧ (numV w).1 ≤ 9223372036854775807 := by
  unfold numV
  split
  · exact numT_rng _ _
  · exact numT_rng _ _
theorem Dats.snoc_rng : ∀ (l : Dats) (x : Dat), l.rng → x.rng → (Dats.snoc l x).rng
  | .nil, x, _, hx => ⟨hx, trivial⟩
  | .cons d ds, x, h, hx => ⟨h.1, Dats.snoc_rng ds x h.2 hx⟩
theorem formedL_snoc : ∀ (l : Dats) (x : Dat), formedL l = true → formedD x = true → formedL (Dats.snoc l x) = true
  | .nil, x, _, hx => by simp only [Dats.snoc, formedL, hx, Bool.and_true]
  | .cons d ds, x, h, hx => by
    simp only [formedL, Bool.and_eq_true] at h
    simp only [Dats.snoc, formedL, Bool.and_eq_true]
    exact ⟨h.1, formedL_snoc ds x h.2 hx⟩
theorem textL_snoc : ∀ (l : Dats) (x : Dat), textL false (Dats.snoc l x) = textL false l ++ 32 :: textD x
  | .nil, x => by simp [Dats.snoc, textL]
  | .cons d ds, x => by simp only [Dats.snoc, textL, textL_snoc ds x]; simp
theorem textL_first : ∀ l : Dats, (textL true l).length ≤ (textL false l).length
  | .nil => Nat.le_refl _
  | .cons d ds => by simp [textL]
theorem parts_snoc : ∀ (l : Dats) (x : Dat), partsL (Dats.snoc l x) = partsL l + parts x
  | .nil, x => by simp [Dats.snoc, partsL]
  | .cons d ds, x => by simp only [Dats.snoc, partsL, parts_snoc ds x]; omega
theorem deep_snoc : ∀ (l : Dats) (x : Dat), deepNL (Dats.snoc l x) = max (deepNL l) (deepN x)
  | .nil, x => by simp [Dats.snoc, deepNL]
  | .cons d ds, x => by simp only [Dats.snoc, deepNL, deep_snoc ds x]; omega
/-- What is said of a datum that takes c bytes and may be n deep. -/
structure Fit (n c : Nat) (d : Dat) : Prop where
  form : formedD d = true
  rng : d.rng
  text : (textD d).length + 1 ≤ 32 * c
  deep : deepN d ≤ n
  part : parts d ≤ 2 * c
theorem rng_zero : Nd.zero.dat.rng := ⟨by decide, trivial⟩
theorem rdL_fit {s : ByteArray} {n : Nat} (ih : ∀ a, a ≤ s.size → (rdD s n a).2.e = 0 → Fit n ((rdD s n a).2.a - a) (rdD s n a).1.dat) :
    ∀ k x l, x ≤ s.size → (rdL (rdD s n) s k ⟨x, 0, 0⟩ l).2.e = 0 → formedL l.dat = true → l.dat.rng →
      formedL (rdL (rdD s n) s k ⟨x, 0, 0⟩ l).1.dat = true ∧ (rdL (rdD s n) s k ⟨x, 0, 0⟩ l).1.dat.rng ∧ x ≤ (rdL (rdD s n) s k ⟨x, 0, 0⟩ l).2.a ∧
      (textL false (rdL (rdD s n) s k ⟨x, 0, 0⟩ l).1.dat).length ≤ (textL false l.dat).length + 32 * ((rdL (rdD s n) s k ⟨x, 0, 0⟩ l).2.a - x) ∧
      deepNL (rdL (rdD s n) s k ⟨x, 0, 0⟩ l).1.dat ≤ max (deepNL l.dat) n ∧
      partsL (rdL (rdD s n) s k ⟨x, 0, 0⟩ l).1.dat ≤ partsL l.dat + 2 * ((rdL (rdD s n) s k ⟨x, 0, 0⟩ l).2.a - x) := by
  intro k
  induction k with
  | zero => intro x l hx he hf hr; exact ⟨hf, hr, Nat.le_refl _, by show (textL false l.dat).length ≤ (textL false l.dat).length + 32 * (x - x); omega, by show deepNL l.dat ≤ max (deepNL l.dat) n; omega, by show partsL l.dat ≤ partsL l.dat + 2 * (x - x); omega⟩
  | succ k ihk =>
    intro x l hx he hf hr
    rw [rdL] at he ⊢
    by_cases hg : goes s ⟨x, 0, 0⟩ = true
    · rw [if_pos hg] at he ⊢
      have hs := rdD_steps s n x hx
      simp only [] at he ⊢
      by_cases h0 : (rdD s n x).2.e = 0
      · have hfit := ih x hx h0
        have h1 := hs.1.ok h0
        have h2 := hs.2 h0
        have h3 := skp_ge s (rdD s n x).2.a
        have h4 := skp_le s (rdD s n x).2.a h1.1
        rw [h0, h1.2] at he ⊢
        obtain ⟨g1, g2, g3, g4, g5, g6⟩ := ihk (skp s (rdD s n x).2.a) (l.snoc (rdD s n x).1) h4 he (by rw [Nds.dat_snoc]; exact formedL_snoc _ _ hf hfit.form) (by rw [Nds.dat_snoc]; exact Dats.snoc_rng _ _ hr hfit.rng)
        have hsz : (textL false (l.snoc (rdD s n x).1).dat).length = (textL false l.dat).length + ((textD (rdD s n x).1.dat).length + 1) := by
          rw [Nds.dat_snoc, textL_snoc, List.length_append, List.length_cons]
        have hpp : partsL (l.snoc (rdD s n x).1).dat = partsL l.dat + parts (rdD s n x).1.dat := by rw [Nds.dat_snoc, parts_snoc]
        have hdd : deepNL (l.snoc (rdD s n x).1).dat = max (deepNL l.dat) (deepN (rdD s n x).1.dat) := by rw [Nds.dat_snoc, deep_snoc]
        have t1 := hfit.text
        have t2 := hfit.part
        have t3 := hfit.deep
        exact ⟨g1, g2, by omega, by omega, by omega, by omega⟩
      · have : goes s ⟨skp s (rdD s n x).2.a, (rdD s n x).2.e, (rdD s n x).2.b⟩ = false := goes_err h0
        rw [rdL_stop this] at he
        exact absurd he h0
    · rw [if_neg hg] at he ⊢
      exact ⟨hf, hr, Nat.le_refl _, by show (textL false l.dat).length ≤ (textL false l.dat).length + 32 * (x - x); omega, by show deepNL l.dat ≤ max (deepNL l.dat) n; omega, by show partsL l.dat ≤ partsL l.dat + 2 * (x - x); omega⟩
theorem itoa_len' (n : Int) (h : -9223372036854775808 ≤ n ∧ n ≤ 9223372036854775807) : (Go.Lib.itoa n).length ≤ 21 := itoa_len n h.1 h.2
theorem rdD_fit (s : ByteArray) : ∀ n a, a ≤ s.size → (rdD s n a).2.e = 0 → Fit n ((rdD s n a).2.a - a) (rdD s n a).1.dat := by
  intro n
  induction n with
  | zero =>
    intro a ha he
    rw [rdD_eq] at he
    split at he
    · exact absurd he n4
    · split at he
      · exact absurd he n4
      · exact absurd he n3
  | succ n ih =>
    intro a ha he
    have eq := rdD_eq s (n + 1) a
    rcases Nat.lt_or_ge a s.size with hlt | hge
    · rw [if_neg (by omega)] at eq
      by_cases hb : bt s (a : Int) ≠ 40 ∧ bt s (a : Int) ≠ 39 ∧ letC (bt s (a : Int)) = false
      · rw [if_pos hb] at eq; rw [eq] at he; exact absurd he n4
      · rw [if_neg hb] at eq
        simp only [] at eq
        by_cases h3 : bt s (a : Int) = 39 ∧ n = 0
        · rw [if_pos h3] at eq; rw [eq] at he; exact absurd he n3
        · rw [if_neg h3] at eq
          cases hl : letC (bt s (a : Int)) with
          | true =>
            rw [if_pos hl] at eq
            have hgt := letE_gt hlt hl
            have hle := letE_le s a ha
            have hsz : (s.extract a (letE s a)).size = letE s a - a := by rw [ByteArray.size_extract]; omega
            rw [eq] at he ⊢
            unfold atomR at he ⊢
            split at he
            · rename_i h
              rw [if_pos h]
              have hnr := numV_rng (s.extract a (letE s a))
              have := itoa_len' _ hnr
              exact ⟨rfl, ⟨hnr, trivial⟩, by
                show (Go.Lib.itoa _).length + 1 ≤ 32 * (letE s a - a); omega, by show 0 + 1 ≤ n + 1; omega, by show 0 + 1 ≤ 2 * (letE s a - a); omega⟩
            · rename_i h
              split at he
              · rename_i h2
                rw [if_neg h, if_pos h2]
                refine ⟨?_, ⟨by show -9223372036854775808 ≤ (0 : Int) ∧ (0 : Int) ≤ 9223372036854775807; decide, trivial⟩, ?_, by show 0 + 1 ≤ n + 1; omega, by show 0 + 1 ≤ 2 * (letE s a - a); omega⟩
                · simp only [Nd.dat, formedD, h2, Nds.dat, Dats.len]; rfl
                · show (s.extract a (letE s a)).data.toList.length + 1 ≤ 32 * (letE s a - a)
                  have hlen : (s.extract a (letE s a)).data.toList.length = (s.extract a (letE s a)).size := Array.length_toList
                  omega
              · exact absurd he n4
          | false =>
            rw [if_neg (by rw [hl]; decide)] at eq
            have h8 := skp_le s (a + 1) (by omega)
            have h9 := skp_ge s (a + 1)
            by_cases h39 : bt s (a : Int) = 39
            · rw [if_pos h39] at eq
              rw [eq] at he ⊢
              have hf := ih _ h8 he
              have hg := (rdD_steps s n _ h8).2 he
              have hn : n ≠ 0 := fun h => h3 ⟨h39, h⟩
              have hy : symOk wQuote = true := by decide
              refine ⟨?_, ⟨by decide, ⟨by decide, trivial⟩, hf.rng, trivial⟩, ?_, ?_, ?_⟩
              · simp only [Nd.dat, Nds.dat, formedD, formedL, hf.form, hy, Dats.len]; rfl
              · have t := hf.text
                have e : (textD (Dat.mk 3 0 ⟨#[]⟩ (.cons (.mk 2 0 wQuote .nil) (.cons (rdD s n (skp s (a + 1))).1.dat .nil)))).length = (textD (rdD s n (skp s (a + 1))).1.dat).length + 8 := by
                  simp only [textD, textL, List.length_cons, List.length_append, List.length_nil]
                  simp only [show ¬ (3 : Int) = 1 by decide, show ¬ (3 : Int) = 2 by decide, show ¬ (2 : Int) = 1 by decide, if_false, if_true]
                  simp only [List.length_cons, List.length_append, List.length_nil, show wQuote.data.toList.length = 5 from rfl]
                  simp
                  omega
                show (textD (Dat.mk 3 0 ⟨#[]⟩ (.cons (.mk 2 0 wQuote .nil) (.cons (rdD s n (skp s (a + 1))).1.dat .nil)))).length + 1 ≤ 32 * ((rdD s n (skp s (a + 1))).2.a - a)
                rw [e]
                omega
              · have t := hf.deep
                show max (0 + 1) (max (deepN (rdD s n (skp s (a + 1))).1.dat) 0) + 1 ≤ n + 1
                omega
              · have t := hf.part
                show (0 + 1) + (parts (rdD s n (skp s (a + 1))).1.dat + 0) + 1 ≤ 2 * ((rdD s n (skp s (a + 1))).2.a - a)
                omega
            · rw [if_neg h39] at eq
              rw [eq] at he ⊢
              obtain ⟨g1, g2, g3, g4, g5, g6⟩ := rdL_fit ih (s.size + 1) (skp s (a + 1)) .nil h8 he rfl trivial
              have g4' : (textL false (rdL (rdD s n) s (s.size + 1) ⟨skp s (a + 1), 0, 0⟩ .nil).1.dat).length ≤ 0 + 32 * ((rdL (rdD s n) s (s.size + 1) ⟨skp s (a + 1), 0, 0⟩ .nil).2.a - skp s (a + 1)) := g4
              have g5' : deepNL (rdL (rdD s n) s (s.size + 1) ⟨skp s (a + 1), 0, 0⟩ .nil).1.dat ≤ max 0 n := g5
              have g6' : partsL (rdL (rdD s n) s (s.size + 1) ⟨skp s (a + 1), 0, 0⟩ .nil).1.dat ≤ 0 + 2 * ((rdL (rdD s n) s (s.size + 1) ⟨skp s (a + 1), 0, 0⟩ .nil).2.a - skp s (a + 1)) := g6
              have hfirst := textL_first (rdL (rdD s n) s (s.size + 1) ⟨skp s (a + 1), 0, 0⟩ .nil).1.dat
              refine ⟨?_, ⟨by decide, g2⟩, ?_, ?_, ?_⟩
              · simp only [Nd.dat, formedD, g1]; rfl
              · show (textD (Dat.mk 3 0 ⟨#[]⟩ (rdL (rdD s n) s (s.size + 1) ⟨skp s (a + 1), 0, 0⟩ .nil).1.dat)).length + 1 ≤ 32 * ((rdL (rdD s n) s (s.size + 1) ⟨skp s (a + 1), 0, 0⟩ .nil).2.a + 1 - a)
                rw [textD]
                simp only [show ¬ (3 : Int) = 1 by decide, show ¬ (3 : Int) = 2 by decide, if_false, List.length_cons, List.length_append, List.length_nil]
                omega
              · show deepNL (rdL (rdD s n) s (s.size + 1) ⟨skp s (a + 1), 0, 0⟩ .nil).1.dat + 1 ≤ n + 1
                omega
              · show partsL (rdL (rdD s n) s (s.size + 1) ⟨skp s (a + 1), 0, 0⟩ .nil).1.dat + 1 ≤ 2 * ((rdL (rdD s n) s (s.size + 1) ⟨skp s (a + 1), 0, 0⟩ .nil).2.a + 1 - a)
                omega
    · rw [if_pos hge] at eq; rw [eq] at he; exact absurd he n4
/-- What Read gives is right. -/
theorem onX_fit (s : ByteArray) (h : onE s = 0) : s.size ≤ 20000 ∧ Fit 1000 s.size (onX s).dat := by
  unfold onE oneR at h
  unfold onX oneR
  split at h
  · exact absurd h n3
  · rename_i h1
    rw [if_neg h1]
    split at h
    · rename_i h2
      rw [if_pos h2]
      split at h
      · exact absurd h n4
      · rename_i h3
        rw [if_neg h3]
        have hf := rdD_fit s 1000 (skp s 0) (skp_le s 0 (Nat.zero_le _)) h2
        have ha : (rdD s 1000 (skp s 0)).2.a ≤ s.size := ((rdD_steps s 1000 (skp s 0) (skp_le s 0 (Nat.zero_le _))).1.ok h2).1
        have t := hf.text
        have t2 := hf.part
        exact ⟨by omega, hf.form, hf.rng, by show (textD (rdD s 1000 (skp s 0)).1.dat).length + 1 ≤ _; omega, hf.deep, by show parts (rdD s 1000 (skp s 0)).1.dat ≤ _; omega⟩
    · rename_i h2
      exact absurd h h2
theorem onX_chk (s : ByteArray) (h : onE s = 0) : chkD (onX s).dat = 0 ∧ (onX s).dat.rng ∧ parts (onX s).dat ≤ 40000 := by
  obtain ⟨h1, hf⟩ := onX_fit s h
  have hp := hf.part
  have hd := hf.deep
  refine ⟨?_, hf.rng, by omega⟩
  unfold chkD
  rw [if_neg (by rw [hf.form]; decide), if_neg (by rw [wrap_in _ (by omega)]; omega), if_neg (by omega)]
end Seat
end Go.Proofs.YtenpjkcclmmlhaaDoor
/- The law of ReaderWritten; IsWritten, Written. Printed by dev/lwc.py and dev/nfsub.py (this session's). -/
namespace Go.Proofs.YtenpjkcclmmlhaaDoor
open Go.AS Go.RowKit
set_option linter.unusedVariables false
set_option linter.unusedSimpArgs false
set_option maxRecDepth 100000
set_option maxHeartbeats 4000000
namespace Seat
noncomputable def wtn (s : ByteArray) : Bool := (onE s == 0) && (ByteArray.toList (mkS (txC (ndJ (onX s)))) == ByteArray.toList s)
noncomputable def lcS (f : Nat) (args : List PV) : Option (PV × Ob) := match f, args with
  | 14, [.str s] => some (.str (shortS s), [(Nat.ble s.size 9223372036854775807, true)])
  | 15, [.str s] => some (.tup [.agg [.int .i64 (ndK (onX s)), .int .i64 (ndN (onX s)), .str (ndT (onX s)), .slice (Dats.len (Nds.dat (ndS (onX s)))) (Dats.cells (Nds.dat (ndS (onX s))))], .int .i64 (onA s), .int .i64 (onE s)], [])
  | 16, [.str s] => some (.tup [.agg [.int .i64 (ndK (onX s)), .int .i64 (ndN (onX s)), .str (ndT (onX s)), .slice (Dats.len (Nds.dat (ndS (onX s)))) (Dats.cells (Nds.dat (ndS (onX s))))], .int .i64 (onA s), .int .i64 (onE s)], [])
  | 42, [.agg cs] => some (.str (mkS (txC cs)), [(isTxt cs, true), (Nat.ble 1 (txC cs).length, true)])
  | 22, [.agg cs] => some (.str (mkS (txC cs)), [(isTxt cs, true)])
  | 18, [] => some (.bool true, [])
  | _, _ => none
theorem lcS_ok (f : Nat) (args : List PV) (r : PV) (o : Ob) (h : lcS f args = some (r, o)) (ho : ∀ p ∈ o, p.1 = p.2) (_ : pureL args = true) : Pure G0 f args (fun x => x = r) := by
  unfold lcS at h
  split at h
  · rename_i s _
    cases h
    exact short_ok s (Nat.le_of_ble_eq_true (ho _ (List.mem_singleton.2 rfl)))
  · cases h
    exact ReadP _
  · rename_i s _
    cases h
    have := read_ok s
    rw [readD_on] at this
    exact this
  · rename_i cs _
    cases h
    have h1 := ho (isTxt cs, true) (by simp)
    have h2 := ho (Nat.ble 1 (txC cs).length, true) (by simp)
    obtain ⟨d, rfl, g1, g2, g3⟩ := isTxt_of h1
    rw [txC_at] at h2 ⊢
    exact text_prog d g1 g2 (Nat.le_of_ble_eq_true h2) g3
  · rename_i cs _
    cases h
    obtain ⟨d, rfl, h1, h2, h3⟩ := isTxt_of (ho (isTxt cs, true) (List.mem_singleton.2 rfl))
    rw [txC_at]
    exact text_ref d h1 h2 h3
  · cases h
    exact alive_ok
  · cases h
noncomputable def SLc (l : List (Nat × List (Nat × Bool))) (v : List (Nat × List (Nat × PV))) : Cfg G0 := { F := F, hF := hF, S := lcS, hS := lcS_ok, orc := orcM l, val := valM v }
theorem onX_small (s : ByteArray) (h : onE s = 0) : Small (onX s).dat := by
  obtain ⟨h1, h2, h3⟩ := onX_chk s h
  exact ⟨Nd.dat_ok _ (onX_ok s), h2, by omega⟩
theorem onX_txt (s : ByteArray) (h : onE s = 0) : isTxt (ndJ (onX s)) = true ∧ Nat.ble 1 (txC (ndJ (onX s))).length = true := by
  obtain ⟨h0, hf⟩ := onX_fit s h
  have hS := onX_small s h
  have ht := hf.text
  rw [ndJ_eq]
  refine ⟨isTxt_at hS.1 hS.2.1 (by omega), ?_⟩
  rw [txC_at, Nat.ble_eq]
  exact text_pos _ hf.form
theorem isWrittenP (s : ByteArray) : Pure G0 28 [.str s] (fun r => r = .tup [.bool (wtn s), .int .i64 (onE s)]) := by
  refine Fn.enterB Tryd.func28 Tryd.ntmps28 rfl (Nat.le_of_ble_eq_true rfl) fun C fr fp hnt hnb hp hfr hfp => ?_
  have fin : ∀ st b bx, nrm [2, 3] st = ⟨[(2, .bool b), (3, .int .i64 (onE s))], ⟨bx, []⟩⟩ → wtn s = b → fr st := fun st b bx hst h => hfr st [2, 3] (by
    rw [hst, ← h]
    exact ⟨0, .tup [.bool (wtn s), .int .i64 (onE s)], Nat.le_refl _, Nat.zero_le _, rfl, rfl, rfl, rfl, _, rfl, rfl⟩)
  by_cases h0 : onE s = 0
  · obtain ⟨t1, t2⟩ := onX_txt s h0
    unfold ndJ at t1 t2
    have c1 : (onE s == (0 : Int)) = true := bq h0
    exact SWP.runQ (SLc [(22, [(14, true)])] []) 100 22 hnt [2, 3] (e := .ret) (z := { t := [(2, PV.bool (ByteArray.toList (mkS (txC [PV.int IntKind.i64 (ndK (onX s)), PV.int IntKind.i64 (ndN (onX s)), PV.str (ndT (onX s)), PV.slice (Dats.len (Nds.dat (ndS (onX s)))) (Dats.cells (Nds.dat (ndS (onX s))))])) == ByteArray.toList s)), (3, PV.int IntKind.i64 (onE s))], h := { bx := [{ cs := [PV.int IntKind.i64 (ndK (onX s)), PV.int IntKind.i64 (ndN (onX s)), PV.str (ndT (onX s)), PV.slice (Dats.len (Nds.dat (ndS (onX s)))) (Dats.cells (Nds.dat (ndS (onX s))))], ty := 25 }], rw := [] } }) (o := [(true, true), (onE s == (0 : Int), true), (true, true), (isTxt [PV.int IntKind.i64 (ndK (onX s)), PV.int IntKind.i64 (ndN (onX s)), PV.str (ndT (onX s)), PV.slice (Dats.len (Nds.dat (ndS (onX s)))) (Dats.cells (Nds.dat (ndS (onX s))))], true), (Nat.ble 1 (List.length (txC [PV.int IntKind.i64 (ndK (onX s)), PV.int IntKind.i64 (ndN (onX s)), PV.str (ndT (onX s)), PV.slice (Dats.len (Nds.dat (ndS (onX s)))) (Dats.cells (Nds.dat (ndS (onX s))))])), true)]) (by kernel_rfl) (by ((repeat' (first | exact okO_nil | refine okN ?_ ?_)); all_goals first | assumption | rfl | exact same_of rfl | exact sameS_self _ | (simp only [decide_eq_true_eq, decide_eq_false_iff_not, Nat.ble_eq, Nat.beq_eq, beq_eq_false_iff_ne, beq_iff_eq, ne_eq] <;> omega))) (fun st hst => fin st _ _ hst (by unfold wtn; rw [c1, Bool.true_and]; rfl))
  · have c1 : (onE s == (0 : Int)) = false := beqF h0
    exact SWP.runQ (SLc [(22, [(14, false)])] []) 100 22 hnt [2, 3] (e := .ret) (z := { t := [(2, PV.bool false), (3, PV.int IntKind.i64 (onE s))], h := { bx := [{ cs := [PV.int IntKind.i64 (ndK (onX s)), PV.int IntKind.i64 (ndN (onX s)), PV.str (ndT (onX s)), PV.slice (Dats.len (Nds.dat (ndS (onX s)))) (Dats.cells (Nds.dat (ndS (onX s))))], ty := 25 }], rw := [] } }) (o := [(true, true), (onE s == (0 : Int), false)]) (by kernel_rfl) (by ((repeat' (first | exact okO_nil | refine okN ?_ ?_)); all_goals first | assumption | rfl | exact same_of rfl | exact sameS_self _ | (simp only [decide_eq_true_eq, decide_eq_false_iff_not, Nat.ble_eq, Nat.beq_eq, beq_eq_false_iff_ne, beq_iff_eq, ne_eq] <;> omega))) (fun st hst => fin st _ _ hst (by unfold wtn; rw [c1, Bool.false_and]))
theorem writtenR (s : ByteArray) : Pure G0 29 [.str s] (fun r => r = .tup [.bool (wtn s), .int .i64 (onE s)]) := by
  refine Fn.enterB Tryd.func29 Tryd.ntmps29 rfl (Nat.le_of_ble_eq_true rfl) fun C fr fp hnt hnb hp hfr hfp => ?_
  have fin : ∀ st b bx, nrm [2, 3] st = ⟨[(2, .bool b), (3, .int .i64 (onE s))], ⟨bx, []⟩⟩ → wtn s = b → fr st := fun st b bx hst h => hfr st [2, 3] (by
    rw [hst, ← h]
    exact ⟨0, .tup [.bool (wtn s), .int .i64 (onE s)], Nat.le_refl _, Nat.zero_le _, rfl, rfl, rfl, rfl, _, rfl, rfl⟩)
  by_cases h0 : onE s = 0
  · obtain ⟨t1, t2⟩ := onX_txt s h0
    unfold ndJ at t1 t2
    have c1 : (onE s == (0 : Int)) = true := bq h0
    exact SWP.runQ (SLc [(22, [(14, true)])] []) 100 22 hnt [2, 3] (e := .ret) (z := { t := [(2, PV.bool (ByteArray.toList (mkS (txC [PV.int IntKind.i64 (ndK (onX s)), PV.int IntKind.i64 (ndN (onX s)), PV.str (ndT (onX s)), PV.slice (Dats.len (Nds.dat (ndS (onX s)))) (Dats.cells (Nds.dat (ndS (onX s))))])) == ByteArray.toList s)), (3, PV.int IntKind.i64 (onE s))], h := { bx := [{ cs := [PV.int IntKind.i64 (ndK (onX s)), PV.int IntKind.i64 (ndN (onX s)), PV.str (ndT (onX s)), PV.slice (Dats.len (Nds.dat (ndS (onX s)))) (Dats.cells (Nds.dat (ndS (onX s))))], ty := 25 }], rw := [] } }) (o := [(true, true), (onE s == (0 : Int), true), (true, true), (isTxt [PV.int IntKind.i64 (ndK (onX s)), PV.int IntKind.i64 (ndN (onX s)), PV.str (ndT (onX s)), PV.slice (Dats.len (Nds.dat (ndS (onX s)))) (Dats.cells (Nds.dat (ndS (onX s))))], true)]) (by kernel_rfl) (by ((repeat' (first | exact okO_nil | refine okN ?_ ?_)); all_goals first | assumption | rfl | exact same_of rfl | exact sameS_self _ | (simp only [decide_eq_true_eq, decide_eq_false_iff_not, Nat.ble_eq, Nat.beq_eq, beq_eq_false_iff_ne, beq_iff_eq, ne_eq] <;> omega))) (fun st hst => fin st _ _ hst (by unfold wtn; rw [c1, Bool.true_and]; rfl))
  · have c1 : (onE s == (0 : Int)) = false := beqF h0
    exact SWP.runQ (SLc [(22, [(14, false)])] []) 100 22 hnt [2, 3] (e := .ret) (z := { t := [(2, PV.bool false), (3, PV.int IntKind.i64 (onE s))], h := { bx := [{ cs := [PV.int IntKind.i64 (ndK (onX s)), PV.int IntKind.i64 (ndN (onX s)), PV.str (ndT (onX s)), PV.slice (Dats.len (Nds.dat (ndS (onX s)))) (Dats.cells (Nds.dat (ndS (onX s))))], ty := 25 }], rw := [] } }) (o := [(true, true), (onE s == (0 : Int), false)]) (by kernel_rfl) (by ((repeat' (first | exact okO_nil | refine okN ?_ ?_)); all_goals first | assumption | rfl | exact same_of rfl | exact sameS_self _ | (simp only [decide_eq_true_eq, decide_eq_false_iff_not, Nat.ble_eq, Nat.beq_eq, beq_eq_false_iff_ne, beq_iff_eq, ne_eq] <;> omega))) (fun st hst => fin st _ _ hst (by unfold wtn; rw [c1, Bool.false_and]))
noncomputable def ldS (f : Nat) (args : List PV) : Option (PV × Ob) := match f, args with
  | 14, [.str s] => some (.str (shortS s), [(Nat.ble s.size 9223372036854775807, true)])
  | 28, [.str s] => some (.tup [.bool (wtn s), .int .i64 (onE s)], [])
  | 29, [.str s] => some (.tup [.bool (wtn s), .int .i64 (onE s)], [])
  | 18, [] => some (.bool true, [])
  | _, _ => none
theorem ldS_ok (f : Nat) (args : List PV) (r : PV) (o : Ob) (h : ldS f args = some (r, o)) (ho : ∀ p ∈ o, p.1 = p.2) (_ : pureL args = true) : Pure G0 f args (fun x => x = r) := by
  unfold ldS at h
  split at h
  · rename_i s _
    cases h
    exact short_ok s (Nat.le_of_ble_eq_true (ho _ (List.mem_singleton.2 rfl)))
  · cases h
    exact isWrittenP _
  · cases h
    exact writtenR _
  · cases h
    exact alive_ok
  · cases h
noncomputable def SLd (l : List (Nat × List (Nat × Bool))) : Cfg G0 := { F := F, hF := hF, S := ldS, hS := ldS_ok, orc := orcM l }
theorem written_law (s : ByteArray) (hs : s.size ≤ 9223372036854775807) : Pure G0 8 [.str s] (fun r => r = .bool true) := by
  have c1 : (onE (shortS s) == onE (shortS s)) = true := beq_self_eq_true _
  have c2 : (wtn (shortS s) == wtn (shortS s)) = true := beq_self_eq_true _
  have c3 : Nat.ble s.size 9223372036854775807 = true := Nat.ble_eq_true_of_le hs
  refine Fn.enterB Tryd.func8 Tryd.ntmps8 rfl (Nat.le_of_ble_eq_true rfl) fun C fr fp hnt hnb hp hfr hfp => ?_
  refine SWP.runQ (SLd [(31, [(22, true), (26, true)])]) 100 31 hnt [2] (e := .ret) (z := ⟨[(2, .bool true)], ⟨[], []⟩⟩) (o := [(true, true), (Nat.ble s.size 9223372036854775807, true), (true, true), (true, true), (wtn (shortS s) == wtn (shortS s), true), (onE (shortS s) == onE (shortS s), true), (true, true)]) (by kernel_rfl) (by ((repeat' (first | exact okO_nil | refine okN ?_ ?_)); all_goals first | assumption | rfl | exact same_of rfl | exact sameS_self _ | (simp only [decide_eq_true_eq, decide_eq_false_iff_not, Nat.ble_eq, Nat.beq_eq, beq_eq_false_iff_ne, beq_iff_eq, ne_eq] <;> omega))) (fun st hs => hfr st [2] ?_)
  rw [hs]
  exact ⟨0, .bool true, Nat.le_refl _, Nat.zero_le _, rfl, rfl, rfl, rfl, _, rfl, rfl⟩
end Seat
end Go.Proofs.YtenpjkcclmmlhaaDoor
/- Reading back what was written (plain Lean). -/
namespace Go.Proofs.YtenpjkcclmmlhaaDoor
open Go.AS
set_option linter.unusedVariables false
set_option linter.unusedSimpArgs false
set_option maxRecDepth 10000
namespace Seat
theorem num_C (w : ByteArray) (x : Int) (hb : -9223372036854775808 ≤ x ∧ x ≤ 9223372036854775807) (hl : Go.Lib.itoa x = w.data.toList) : numV w = (x, true) := by
  unfold Go.Lib.itoa at hl
  unfold numV
  split at hl
  · rename_i hneg
    have hl' := hl.symm
    rw [numB_cons hl', if_pos (by decide)]
    obtain ⟨c, r, h1, h2, _⟩ := dec_head x.natAbs
    obtain ⟨d1, d2⟩ := dec_ok x.natAbs
    rw [h1] at d1 d2
    have ht : (w.extract 1 w.size).data.toList = c :: r := by rw [Go.Lib.extract_to_end, hl', h1]; rfl
    rw [numT_of _ true c r ht d1 (.inl (h2 (by omega))) (by omega), if_pos rfl, d2]
    have hw : IntKind.wrap IntKind.i64 (-(x.natAbs : Int)) = x := by rw [IntKind.wrap_i64]; omega
    rw [hw]
  · rename_i hneg
    have hl' := hl.symm
    obtain ⟨c, r, h1, h2, h3⟩ := dec_head x.toNat
    obtain ⟨d1, d2⟩ := dec_ok x.toNat
    rw [h1] at d1 d2 hl'
    have hdg := allDig_head d1
    rw [numB_cons hl', if_neg (by simp; omega)]
    rw [numT_of w false c r hl' d1 (by
      by_cases h0 : x.toNat = 0
      · exact .inr ⟨h3 h0, rfl⟩
      · exact .inl (h2 (by omega))) (by omega), if_neg (by decide), d2]
    have hw : IntKind.wrap IntKind.i64 ((x.toNat : Nat) : Int) = x := by rw [IntKind.wrap_i64]; omega
    rw [hw, decide_eq_true (by omega)]
theorem dig_let {c : UInt8} (h : 48 ≤ c.toNat ∧ c.toNat ≤ 57) : lle c = true := by
  unfold lle letC digC
  simp only [Bool.or_eq_true, decide_eq_true_eq]
  exact .inl (.inr (by omega))
theorem let_clean {c : UInt8} (h : lle c = true) : lbl c = false ∧ c.toNat ≠ 59 := by
  have key : ∀ k : Nat, letC (k : Int) = true → blank (k : Int) = false ∧ k ≠ 59 := by
    intro k hk
    have hb : blank (k : Int) = true → letC (k : Int) = false := by
      intro hb
      unfold blank at hb
      simp only [Bool.or_eq_true, beq_iff_eq] at hb
      rcases hb with ((hb | hb) | hb) | hb <;> rw [hb] <;> decide
    refine ⟨?_, fun h9 => ?_⟩
    · cases hq : blank (k : Int) with
      | false => rfl
      | true => rw [hb hq] at hk; cases hk
    · rw [h9] at hk; exact absurd hk (by decide)
  exact key c.toNat h
theorem takeW_app {α : Type} (p : α → Bool) : ∀ (w r : List α), (∀ x ∈ w, p x = true) → (∀ x ∈ r.head?, p x = false) → (w ++ r).takeWhile p = w ∧ (w ++ r).dropWhile p = r
  | [], [], _, _ => ⟨rfl, rfl⟩
  | [], y :: r, _, h => by
    have := h y rfl
    simp [List.takeWhile_cons, List.dropWhile_cons, this]
  | x :: w, r, hw, h => by
    have hx := hw x (List.mem_cons_self ..)
    obtain ⟨h1, h2⟩ := takeW_app p w r (fun y hy => hw y (List.mem_cons_of_mem _ hy)) h
    exact ⟨by rw [List.cons_append, List.takeWhile_cons, if_pos hx, h1], by rw [List.cons_append, List.dropWhile_cons, if_pos hx, h2]⟩
theorem tok_atom (w r : List UInt8) (h0 : w ≠ []) (hw : ∀ x ∈ w, lle x = true) (hr : ∀ x ∈ r.head?, lle x = false) : tok (w ++ r) = w :: tok r := by
  cases w with
  | nil => exact absurd rfl h0
  | cons c w =>
    have hc := hw c (List.mem_cons_self ..)
    obtain ⟨g1, g2⟩ := let_clean hc
    obtain ⟨h1, h2⟩ := takeW_app lle w r (fun y hy => hw y (List.mem_cons_of_mem _ hy)) hr
    rw [List.cons_append, tok_cons, if_neg (by rw [g1]; decide), if_neg g2, if_pos hc, h1, h2]
theorem tok_sign (c : UInt8) (r : List UInt8) (h1 : lbl c = false) (h2 : c.toNat ≠ 59) (h3 : lle c = false) : tok (c :: r) = [c] :: tok r := by
  rw [tok_cons, if_neg (by rw [h1]; decide), if_neg h2, if_neg (by rw [h3]; decide)]
theorem tok_open (r : List UInt8) : tok (40 :: r) = [40] :: tok r := tok_sign 40 r (by decide) (by decide) (by decide)
theorem tok_close (r : List UInt8) : tok (41 :: r) = [41] :: tok r := tok_sign 41 r (by decide) (by decide) (by decide)
theorem tok_blank (r : List UInt8) : tok (32 :: r) = tok r := by rw [tok_cons, if_pos (by decide)]
mutual
/-- A datum's parts. -/
def dtok : Dat → List Tok
  | .mk k n s ks => if k = 1 then [Go.Lib.itoa n] else if k = 2 then [s.data.toList] else [40] :: (dtokL ks ++ [[41]])
def dtokL : Dats → List Tok
  | .nil => []
  | .cons d ds => dtok d ++ dtokL ds
end
theorem itoa_let (n : Int) : Go.Lib.itoa n ≠ [] ∧ ∀ x ∈ Go.Lib.itoa n, lle x = true := by
  have dig : ∀ u : Nat, Go.Lib.decDigits u ≠ [] ∧ ∀ x ∈ Go.Lib.decDigits u, lle x = true := by
    intro u
    obtain ⟨c, r, h1, _⟩ := dec_head u
    obtain ⟨d1, _⟩ := dec_ok u
    refine ⟨by rw [h1]; simp, fun x hx => ?_⟩
    unfold allDig at d1
    rw [List.all_eq_true] at d1
    exact dig_let (of_decide_eq_true (d1 x hx))
  unfold Go.Lib.itoa
  split
  · refine ⟨by simp, fun x hx => ?_⟩
    rcases List.mem_cons.1 hx with rfl | hx
    · decide
    · exact (dig _).2 x hx
  · exact dig _
theorem sym_let {s : ByteArray} (h : symOk s = true) : s.data.toList ≠ [] ∧ (∀ x ∈ s.data.toList, lle x = true) ∧ (numV s).2 = false := by
  unfold symOk at h
  rw [Bool.and_eq_true] at h
  obtain ⟨hb, ha⟩ := h
  have hlen : s.data.toList.length = s.size := Array.length_toList
  simp only [symBad, Bool.not_eq_true', Bool.or_eq_false_iff, decide_eq_false_iff_not] at hb
  have hpos : s.size ≠ 0 := by omega
  refine ⟨fun h => by rw [h] at hlen; exact hpos hlen.symm, fun x hx => ?_, ?_⟩
  · obtain ⟨i, hi, rfl⟩ := List.getElem_of_mem hx
    rw [List.all_eq_true] at ha
    have := ha i (by rw [List.mem_range]; omega)
    obtain ⟨c, h1, h2⟩ := bt_drop0 s i (by omega)
    rw [h2] at this
    rw [List.drop_eq_getElem_cons hi] at h1
    rw [(List.cons.inj h1).1]
    exact this
  · cases hv : (numV s).2 with
    | false => rfl
    | true =>
      exfalso
      have hv' : numV s = ((numV s).1, true) := by rw [← hv]
      unfold numV at hv'
      split at hv'
      · rename_i hB
        obtain ⟨r, hl, ht⟩ := numB_none hB
        obtain ⟨c, q, h1, h2, _⟩ := numT_true _ _ _ hv'
        rw [ht] at h1
        have hdg := allDig_head h2
        have hb0 : bt s 0 = 45 := bt_head hl
        have hsz := size_cons hl
        have hb1 : bt s 1 = (c.toNat : Int) := by
          obtain ⟨e, g1, g2⟩ := bt_drop0 s 1 (by rw [hsz, h1]; simp)
          rw [hl, h1] at g1
          have : c = e := by simpa using (List.cons.inj g1).1
          rw [this]; exact g2
        have hq : 1 < s.size := by rw [hsz, h1]; simp
        revert hb
        simp only [digC, hb0, hb1]
        simp
        omega
      · rename_i hB
        obtain ⟨c, q, h1, h2, _⟩ := numT_true _ _ _ hv'
        have hdg := allDig_head h2
        have hb0 : bt s 0 = (c.toNat : Int) := bt_head h1
        revert hb
        simp only [digC, hb0]
        simp
        omega
theorem len_nil : ∀ {ks : Dats}, ks.len = 0 → ks = .nil
  | .nil, _ => rfl
  | .cons d ds, h => by simp [Dats.len] at h
mutual
theorem tok_text : ∀ (d : Dat) (r : List UInt8), formedD d = true → (∀ x ∈ r.head?, lle x = false) → tok (textD d ++ r) = dtok d ++ tok r
  | .mk k n s ks, r, hf, hr => by
    simp only [formedD, Bool.or_eq_true, Bool.and_eq_true, decide_eq_true_eq] at hf
    rw [textD, dtok]
    by_cases h1 : k = 1
    · rw [if_pos h1, if_pos h1]
      obtain ⟨g1, g2⟩ := itoa_let n
      exact tok_atom _ r g1 g2 hr
    · rw [if_neg h1, if_neg h1]
      by_cases h2 : k = 2
      · rw [if_pos h2, if_pos h2]
        have hs : symOk s = true := by
          rcases hf with (h | h) | h
          · exact absurd h.1.1 h1
          · exact h.1.2
          · omega
        obtain ⟨g1, g2, _⟩ := sym_let hs
        exact tok_atom _ r g1 g2 hr
      · rw [if_neg h2, if_neg h2]
        have hk : formedL ks = true := by
          rcases hf with (h | h) | h
          · exact absurd h.1.1 h1
          · omega
          · exact h.2
        rw [List.cons_append, tok_open, List.append_assoc, List.cons_append, List.nil_append, tok_textL ks true r hk]
        simp
theorem tok_textL : ∀ (ks : Dats) (f : Bool) (r : List UInt8), formedL ks = true → tok (textL f ks ++ 41 :: r) = dtokL ks ++ [41] :: tok r
  | .nil, f, r, _ => by simp only [textL, dtokL, List.nil_append]; exact tok_close r
  | .cons d ds, f, r, hf => by
    simp only [formedL, Bool.and_eq_true] at hf
    have hhead : ∀ x ∈ (textL false ds ++ 41 :: r).head?, lle x = false := by
      intro x hx
      cases ds with
      | nil => simp only [textL, List.nil_append, List.head?_cons, Option.mem_def, Option.some.injEq] at hx; subst hx; decide
      | cons e es => simp only [textL, Bool.false_eq_true, if_false, List.cons_append, List.head?_cons, Option.mem_def, Option.some.injEq] at hx; subst hx; decide
    have key := tok_text d (textL false ds ++ 41 :: r) hf.1 hhead
    rw [tok_textL ds false r hf.2] at key
    simp only [textL, dtokL]
    cases f with
    | true => simp only [if_true, List.nil_append, List.append_assoc]; exact key
    | false =>
      simp only [Bool.false_eq_true, if_false, List.append_assoc, List.cons_append, List.nil_append]
      rw [tok_blank]; exact key
end
theorem hd_let {w : Tok} (h0 : w ≠ []) (hw : ∀ x ∈ w, lle x = true) : letC (hd0 w) = true := by
  cases w with
  | nil => exact absurd rfl h0
  | cons c w => exact hw c (List.mem_cons_self ..)
theorem mkB_of (s : ByteArray) : mkB s.data.toList = s := mkB_list s
theorem snoc_app : ∀ (l : Dats) (d : Dat) (ks : Dats), ∃ m, m = Dats.snoc l d := fun l d ks => ⟨_, rfl⟩
def appD : Dats → Dats → Dats
  | .nil, b => b
  | .cons d ds, b => .cons d (appD ds b)
theorem appD_nil : ∀ a : Dats, appD a .nil = a
  | .nil => rfl
  | .cons d ds => by simp only [appD, appD_nil ds]
theorem appD_snoc : ∀ (l : Dats) (d : Dat) (ks : Dats), appD (Dats.snoc l d) ks = appD l (.cons d ks)
  | .nil, d, ks => rfl
  | .cons e l, d, ks => by simp only [Dats.snoc, appD, appD_snoc l d ks]
mutual
theorem pr_dtok : ∀ (d : Dat) (n : Nat) (r : List Tok), formedD d = true → d.rng → deepN d ≤ n → prD n (dtok d ++ r) = some (d, r)
  | .mk k m s ks, n, r, hf, hr, hd => by
    simp only [formedD, Bool.or_eq_true, Bool.and_eq_true, decide_eq_true_eq] at hf
    obtain ⟨n, rfl⟩ : ∃ j, n = j + 1 := ⟨n - 1, by simp only [deepN] at hd; omega⟩
    rw [dtok]
    by_cases h1 : k = 1
    · rw [if_pos h1]
      obtain ⟨g1, g2⟩ := itoa_let m
      have hn := num_C (mkB (Go.Lib.itoa m)) m hr.1 (by unfold mkB; simp)
      show prD (n + 1) (Go.Lib.itoa m :: r) = _
      rw [prD, if_pos (hd_let g1 g2), hn, if_pos rfl]
      rcases hf with (h | h) | h
      · have e1 : s = ⟨#[]⟩ := by
          have := h.1.2
          cases s with
          | mk a => congr; exact Array.eq_empty_of_size_eq_zero this
        rw [h1, e1, len_nil h.2]
      · omega
      · omega
    · rw [if_neg h1]
      by_cases h2 : k = 2
      · rw [if_pos h2]
        rcases hf with (h | h) | h
        · exact absurd h.1.1 h1
        · obtain ⟨g1, g2, g3⟩ := sym_let h.1.2
          show prD (n + 1) (s.data.toList :: r) = _
          rw [prD, if_pos (hd_let g1 g2), mkB_list, if_neg (by rw [g3]; decide), if_pos h.1.2, h2, h.1.1.2, len_nil h.2]
        · omega
      · rw [if_neg h2]
        rcases hf with (h | h) | h
        · exact absurd h.1.1 h1
        · omega
        · show prD (n + 1) ([40] :: ((dtokL ks ++ [[41]]) ++ r)) = _
          rw [prD, if_neg (by decide), if_neg (by decide), if_pos (by decide), List.append_assoc]
          have key := pr_dtokL ks n ((dtokL ks ++ ([[41]] ++ r)).length + 1) .nil r h.2 hr.2 (by simp only [deepN] at hd; omega) (by simp)
          rw [show [[41]] ++ r = [41] :: r from rfl] at key ⊢
          rw [key]
          have e1 : s = ⟨#[]⟩ := by
            have := h.1.2
            cases s with
            | mk a => congr; exact Array.eq_empty_of_size_eq_zero this
          rw [h.1.1.1, h.1.1.2, e1]
          rfl
theorem pr_dtokL : ∀ (ks : Dats) (n k : Nat) (l : Dats) (r : List Tok), formedL ks = true → ks.rng → deepNL ks ≤ n → (dtokL ks ++ [41] :: r).length ≤ k → prL (prD n) k (dtokL ks ++ [41] :: r) l = some (appD l ks, r)
  | .nil, n, k, l, r, _, _, _, hk => by
    obtain ⟨k, rfl⟩ : ∃ j, k = j + 1 := ⟨k - 1, by simp at hk; omega⟩
    simp only [dtokL, List.nil_append]
    rw [prL, if_pos (by decide), appD_nil]
  | .cons d ds, n, k, l, r, hf, hr, hd, hk => by
    simp only [formedL, Bool.and_eq_true] at hf
    simp only [deepNL] at hd
    have key := pr_dtok d n (dtokL ds ++ [41] :: r) hf.1 hr.1 (by omega)
    have hne : ∃ t q, dtok d ++ (dtokL ds ++ [41] :: r) = t :: q ∧ hd0 t ≠ 41 := by
      obtain ⟨k', m, s, ks⟩ := d
      rw [dtok]
      have hf1 := hf.1
      simp only [formedD, Bool.or_eq_true, Bool.and_eq_true, decide_eq_true_eq] at hf1
      by_cases h1 : k' = 1
      · rw [if_pos h1]
        obtain ⟨g1, g2⟩ := itoa_let m
        refine ⟨_, _, rfl, fun h => ?_⟩
        have := hd_let g1 g2
        rw [h] at this; exact absurd this (by decide)
      · rw [if_neg h1]
        by_cases h2 : k' = 2
        · rw [if_pos h2]
          rcases hf1 with (h | h) | h
          · exact absurd h.1.1 h1
          · obtain ⟨g1, g2, _⟩ := sym_let h.1.2
            refine ⟨_, _, rfl, fun h => ?_⟩
            have := hd_let g1 g2
            rw [h] at this; exact absurd this (by decide)
          · omega
        · rw [if_neg h2]
          exact ⟨_, _, rfl, by decide⟩
    obtain ⟨t, q, ht, h41⟩ := hne
    simp only [dtokL, List.append_assoc] at hk ⊢
    rw [ht] at key ⊢
    have hlen : (t :: q).length = (dtok d).length + (dtokL ds ++ [41] :: r).length := by rw [← ht, List.length_append]
    rw [ht] at hk
    have heat := prD_eats n _ _ _ key
    obtain ⟨k, rfl⟩ : ∃ j, k = j + 1 := ⟨k - 1, by simp at hk; omega⟩
    rw [prL, if_neg h41, key]
    simp only []
    rw [pr_dtokL ds n k (Dats.snoc l d) r hf.2 hr.2 (by omega) (by omega), appD_snoc]
end
theorem toks_end {s : ByteArray} {a : Nat} (h : toks s a = []) : ¬ skp s a < s.size := by
  intro hl
  have h5 := toks_skp s _ a (Nat.le_refl _)
  rw [← h5.1] at h
  cases hc : letC (bt s (skp s a : Int)) with
  | true => rw [toks_at_let hl (clean_skp s a) hc] at h; cases h
  | false =>
    obtain ⟨c, _, h2⟩ := toks_at hl (clean_skp s a) hc
    rw [h2] at h; cases h
/-- A string whose parts are a datum's. -/
theorem one_toks (s : ByteArray) (d : Dat) (hs : s.size ≤ 20000) (h : prD 1000 (toks s 0) = some (d, [])) : onE s = 0 ∧ (onX s).dat = d ∧ onA s = 0 := by
  have h5 := toks_skp s _ 0 (Nat.le_refl _)
  rw [← h5.1, prD_rd s 1000 (skp s 0) (skp_le s 0 (Nat.zero_le _)) (clean_skp s 0)] at h
  split at h
  · rename_i he
    obtain ⟨h1, h2⟩ := Prod.mk.inj (Option.some.inj h)
    have hend := toks_end h2
    have e : oneR s = (rdX s 1000 (skp s 0), 0, 0) := by
      rw [oneR_eq, if_neg (by omega), if_pos (show rdE s 1000 (skp s 0) = 0 from he), if_neg (show ¬ skp s (rdA s 1000 (skp s 0)) < s.size from hend)]
    unfold onE onX onA
    rw [e]
    exact ⟨rfl, h1, rfl⟩
  · cases h
/-- Read of the written form is the datum. -/
theorem one_text (d : Dat) (hf : formedD d = true) (hr : d.rng) (hd : deepN d ≤ 1000) (hl : (textD d).length ≤ 20000) : onE (mkS (textD d)) = 0 ∧ (onX (mkS (textD d))).dat = d ∧ onA (mkS (textD d)) = 0 := by
  refine one_toks _ d (by rw [mkS_size]; exact hl) ?_
  unfold toks
  rw [List.drop_zero, toList_mk]
  have h1 := tok_text d [] hf (fun x hx => by simp at hx)
  rw [List.append_nil] at h1
  rw [h1, pr_dtok d 1000 (tok []) hf hr hd]
  rfl
end Seat
end Go.Proofs.YtenpjkcclmmlhaaDoor
/- The law of ReaderBack. Printed by dev/lwd.py and dev/nfsub.py (this session's). -/
namespace Go.Proofs.YtenpjkcclmmlhaaDoor
open Go.AS Go.RowKit
set_option linter.unusedVariables false
set_option linter.unusedSimpArgs false
set_option maxRecDepth 100000
set_option maxHeartbeats 4000000
namespace Seat
noncomputable def leS (f : Nat) (args : List PV) : Option (PV × Ob) := match f, args with
  | 19, [.agg cs, .int .i64 3000, .int .i64 1020] => some (.agg [.int .i64 (cuA cs), .int .i64 (cuB cs), .str (cuC cs), .slice (cuD cs).len (cuD cs).cells], [(isOk cs, true)])
  | 20, [.agg cs] => some (.tup [.str (wrBC cs), .int .i64 (wrEC cs)], [(isSml cs, true)])
  | 15, [.str s] => some (.tup [.agg [.int .i64 (ndK (onX s)), .int .i64 (ndN (onX s)), .str (ndT (onX s)), .slice (Dats.len (Nds.dat (ndS (onX s)))) (Dats.cells (Nds.dat (ndS (onX s))))], .int .i64 (onA s), .int .i64 (onE s)], [])
  | 28, [.str s] => some (.tup [.bool (wtn s), .int .i64 (onE s)], [])
  | 17, [.agg cs, .agg ds] => some (.bool (eqC cs ds), [(isOk cs, true), (isOk ds, true)])
  | 18, [] => some (.bool true, [])
  | _, _ => none
theorem leS_ok (f : Nat) (args : List PV) (r : PV) (o : Ob) (h : leS f args = some (r, o)) (ho : ∀ p ∈ o, p.1 = p.2) (_ : pureL args = true) : Pure G0 f args (fun x => x = r) := by
  unfold leS at h
  split at h
  · rename_i cs _
    cases h
    obtain ⟨d, rfl, h1⟩ := isOk_of (ho (isOk cs, true) (List.mem_singleton.2 rfl))
    rw [cu_at]
    exact cut_ok d h1 3000 1020 (by decide)
  · rename_i cs _
    cases h
    obtain ⟨d, rfl, h1⟩ := isSml_of (ho (isSml cs, true) (List.mem_singleton.2 rfl))
    unfold wrBC wrEC
    rw [ofCells_at, ofCells_at]
    exact writeP d h1.good h1.2.1 (by have := h1.2.2; omega)
  · cases h
    exact ReadP _
  · cases h
    exact isWrittenP _
  · rename_i cs ds _
    cases h
    obtain ⟨d, rfl, h1⟩ := isOk_of (ho (isOk cs, true) (by simp))
    obtain ⟨e, rfl, h2⟩ := isOk_of (ho (isOk ds, true) (by simp))
    rw [eqC_at]
    exact same_ok d e h1 h2
  · cases h
    exact alive_ok
  · cases h
noncomputable def SLe (l : List (Nat × List (Nat × Bool))) (v : List (Nat × List (Nat × PV))) : Cfg G0 := { F := F, hF := hF, S := leS, hS := leS_ok, orc := orcM l, val := valM v }
theorem back_law (d : Dat) (hd : d.ok) (hr : d.rng) : Pure G0 9 [.agg d.cells] (fun r => r = .bool true) := by
  have hsm := cut_small d hd hr 3000 1020 (by decide) (by decide)
  obtain ⟨k, n, s, ks⟩ := d
  have a1 : isOk [PV.int IntKind.i64 k, PV.int IntKind.i64 n, PV.str s, PV.slice (Dats.len ks) (Dats.cells ks)] = true := isOk_at (d := .mk k n s ks) hd
  rcases hc : (cutD (.mk k n s ks) 1020 3000).1 with ⟨k', n', s', ks'⟩
  rw [hc] at hsm
  have a2 := cut_cells k n k' n' s s' ks ks' hc
  have a3 : isSml [PV.int IntKind.i64 k', PV.int IntKind.i64 n', PV.str s', PV.slice (Dats.len ks') (Dats.cells ks')] = true := isSml_at (d := .mk k' n' s' ks') hsm
  have a4 : isOk [PV.int IntKind.i64 k', PV.int IntKind.i64 n', PV.str s', PV.slice (Dats.len ks') (Dats.cells ks')] = true := isOk_at (d := .mk k' n' s' ks') hsm.1
  have eb : wrBC [PV.int IntKind.i64 k', PV.int IntKind.i64 n', PV.str s', PV.slice (Dats.len ks') (Dats.cells ks')] = wrB (.mk k' n' s' ks') := ofCells_at _ _ (.mk k' n' s' ks')
  have ee : wrEC [PV.int IntKind.i64 k', PV.int IntKind.i64 n', PV.str s', PV.slice (Dats.len ks') (Dats.cells ks')] = wrE (.mk k' n' s' ks') := ofCells_at _ _ (.mk k' n' s' ks')
  obtain ⟨w, hw⟩ : ∃ w, w = wrBC [PV.int IntKind.i64 k', PV.int IntKind.i64 n', PV.str s', PV.slice (Dats.len ks') (Dats.cells ks')] := ⟨_, rfl⟩
  have a5 : same (.str (wrBC [PV.int IntKind.i64 k', PV.int IntKind.i64 n', PV.str s', PV.slice (Dats.len ks') (Dats.cells ks')])) (.str w) = true := same_of (by rw [hw])
  refine Fn.enterB Tryd.func9 Tryd.ntmps9 rfl (Nat.le_of_ble_eq_true rfl) fun C fr fp hnt hnb hp hfr hfp => ?_
  have fin : ∀ st H, nrm [2] st = ⟨[(2, .bool true)], H⟩ → fr st := fun st H hst => hfr st [2] (by
    rw [hst]
    exact ⟨0, .bool true, Nat.le_refl _, Nat.zero_le _, rfl, rfl, rfl, rfl, _, rfl, rfl⟩)
  by_cases h0 : wrE (.mk k' n' s' ks') = 0
  · have b1 : (!wrEC [PV.int IntKind.i64 k', PV.int IntKind.i64 n', PV.str s', PV.slice (Dats.len ks') (Dats.cells ks')] == (0 : Int)) = false := by rw [ee, h0]; rfl
    by_cases hl : 20000 < w.size
    · have b2 : decide ((20000 : Int) < (w.size : Int)) = true := by rw [decide_eq_true_eq]; omega
      exact SWP.runQ (SLe [(58, [(19, false), (23, true)])] [(58, [(12, .agg [.int .i64 k', .int .i64 n', .str s', .slice ks'.len ks'.cells]), (16, .str w)])]) 100 58 hnt [2] (e := .ret) (z := ⟨[(2, .bool true)], ⟨[⟨[PV.int IntKind.i64 k, PV.int IntKind.i64 n, PV.str s, PV.slice (Dats.len ks) (Dats.cells ks)], 25⟩, ⟨[PV.int IntKind.i64 k', PV.int IntKind.i64 n', PV.str s', PV.slice (Dats.len ks') (Dats.cells ks')], 25⟩], []⟩⟩) (o := [(true, true), (isOk [PV.int IntKind.i64 k, PV.int IntKind.i64 n, PV.str s, PV.slice (Dats.len ks) (Dats.cells ks)], true), (same (.agg [.int .i64 (cuA [PV.int IntKind.i64 k, PV.int IntKind.i64 n, PV.str s, PV.slice (Dats.len ks) (Dats.cells ks)]), .int .i64 (cuB [PV.int IntKind.i64 k, PV.int IntKind.i64 n, PV.str s, PV.slice (Dats.len ks) (Dats.cells ks)]), .str (cuC [PV.int IntKind.i64 k, PV.int IntKind.i64 n, PV.str s, PV.slice (Dats.len ks) (Dats.cells ks)]), .slice (cuD [PV.int IntKind.i64 k, PV.int IntKind.i64 n, PV.str s, PV.slice (Dats.len ks) (Dats.cells ks)]).len (cuD [PV.int IntKind.i64 k, PV.int IntKind.i64 n, PV.str s, PV.slice (Dats.len ks) (Dats.cells ks)]).cells]) (.agg [.int .i64 k', .int .i64 n', .str s', .slice ks'.len ks'.cells]), true), (true, true), (isSml [PV.int IntKind.i64 k', PV.int IntKind.i64 n', PV.str s', PV.slice (Dats.len ks') (Dats.cells ks')], true), (same (.str (wrBC [PV.int IntKind.i64 k', PV.int IntKind.i64 n', PV.str s', PV.slice (Dats.len ks') (Dats.cells ks')])) (.str w), true), (!wrEC [PV.int IntKind.i64 k', PV.int IntKind.i64 n', PV.str s', PV.slice (Dats.len ks') (Dats.cells ks')] == (0 : Int), false), (decide ((20000 : Int) < (w.size : Int)), true), (true, true)]) (by kernel_rfl) (by ((repeat' (first | exact okO_nil | refine okN ?_ ?_)); all_goals first | assumption | rfl | exact same_of rfl | exact sameS_self _ | (simp only [decide_eq_true_eq, decide_eq_false_iff_not, Nat.ble_eq, Nat.beq_eq, beq_eq_false_iff_ne, beq_iff_eq, ne_eq] <;> omega))) (fun st hs => fin st _ hs)
    · have b2 : decide ((20000 : Int) < (w.size : Int)) = false := by rw [decide_eq_false_iff_not]; omega
      have hchk : chkD (.mk k' n' s' ks') = 0 ∧ (textD (.mk k' n' s' ks')).length ≤ 2000000 := by
        unfold wrE at h0
        split at h0
        · rename_i h1
          split at h0
          · rename_i h2; exact ⟨h1, h2⟩
          · exact absurd h0 n3
        · rename_i h1; exact absurd h0 h1
      have hwt : w = mkS (textD (.mk k' n' s' ks')) := by rw [hw, eb]; unfold wrB; rw [if_pos hchk.1, if_pos hchk.2]
      obtain ⟨hf, _, hdp⟩ := chk_formed hchk.1
      have hsz : (textD (.mk k' n' s' ks')).length ≤ 20000 := by rw [hwt, mkS_size] at hl; omega
      obtain ⟨o1, o2, o3⟩ := one_text (.mk k' n' s' ks') hf hsm.2.1 hdp hsz
      rw [← hwt] at o1 o2 o3
      have c1 : (onE w == (0 : Int)) = true := bq o1
      have c2 : (onA w == (0 : Int)) = true := bq o3
      have hJ : [PV.int IntKind.i64 (ndK (onX w)), PV.int IntKind.i64 (ndN (onX w)), PV.str (ndT (onX w)), PV.slice (Dats.len (Nds.dat (ndS (onX w)))) (Dats.cells (Nds.dat (ndS (onX w))))] = [PV.int IntKind.i64 k', PV.int IntKind.i64 n', PV.str s', PV.slice (Dats.len ks') (Dats.cells ks')] := by
        show ndJ (onX w) = (Dat.mk k' n' s' ks').cells
        rw [ndJ_eq, o2]
      have c3 : isOk [PV.int IntKind.i64 (ndK (onX w)), PV.int IntKind.i64 (ndN (onX w)), PV.str (ndT (onX w)), PV.slice (Dats.len (Nds.dat (ndS (onX w)))) (Dats.cells (Nds.dat (ndS (onX w))))] = true := by rw [hJ]; exact a4
      have c4 : eqC [PV.int IntKind.i64 (ndK (onX w)), PV.int IntKind.i64 (ndN (onX w)), PV.str (ndT (onX w)), PV.slice (Dats.len (Nds.dat (ndS (onX w)))) (Dats.cells (Nds.dat (ndS (onX w))))] [PV.int IntKind.i64 k', PV.int IntKind.i64 n', PV.str s', PV.slice (Dats.len ks') (Dats.cells ks')] = true := by rw [hJ]; exact (eqC_at (.mk k' n' s' ks') (.mk k' n' s' ks')).trans (eqD_self _)
      have c5 : wtn w = true := by
        unfold wtn
        rw [c1, Bool.true_and, ndJ_eq, o2, txC_at, ← hwt, beq_self_eq_true]
      exact SWP.runQ (SLe [(58, [(19, false), (23, false), (38, true), (41, true), (46, true), (50, true), (54, true)])] [(58, [(12, .agg [.int .i64 k', .int .i64 n', .str s', .slice ks'.len ks'.cells]), (16, .str w)])]) 100 58 hnt [2] (e := .ret) (z := ⟨[(2, .bool true)], ⟨[⟨[PV.int IntKind.i64 k, PV.int IntKind.i64 n, PV.str s, PV.slice (Dats.len ks) (Dats.cells ks)], 25⟩, ⟨[PV.int IntKind.i64 k', PV.int IntKind.i64 n', PV.str s', PV.slice (Dats.len ks') (Dats.cells ks')], 25⟩, ⟨[PV.int IntKind.i64 (ndK (onX w)), PV.int IntKind.i64 (ndN (onX w)), PV.str (ndT (onX w)), PV.slice (Dats.len (Nds.dat (ndS (onX w)))) (Dats.cells (Nds.dat (ndS (onX w))))], 25⟩], []⟩⟩) (o := [(true, true), (isOk [PV.int IntKind.i64 k, PV.int IntKind.i64 n, PV.str s, PV.slice (Dats.len ks) (Dats.cells ks)], true), (same (.agg [.int .i64 (cuA [PV.int IntKind.i64 k, PV.int IntKind.i64 n, PV.str s, PV.slice (Dats.len ks) (Dats.cells ks)]), .int .i64 (cuB [PV.int IntKind.i64 k, PV.int IntKind.i64 n, PV.str s, PV.slice (Dats.len ks) (Dats.cells ks)]), .str (cuC [PV.int IntKind.i64 k, PV.int IntKind.i64 n, PV.str s, PV.slice (Dats.len ks) (Dats.cells ks)]), .slice (cuD [PV.int IntKind.i64 k, PV.int IntKind.i64 n, PV.str s, PV.slice (Dats.len ks) (Dats.cells ks)]).len (cuD [PV.int IntKind.i64 k, PV.int IntKind.i64 n, PV.str s, PV.slice (Dats.len ks) (Dats.cells ks)]).cells]) (.agg [.int .i64 k', .int .i64 n', .str s', .slice ks'.len ks'.cells]), true), (true, true), (isSml [PV.int IntKind.i64 k', PV.int IntKind.i64 n', PV.str s', PV.slice (Dats.len ks') (Dats.cells ks')], true), (same (.str (wrBC [PV.int IntKind.i64 k', PV.int IntKind.i64 n', PV.str s', PV.slice (Dats.len ks') (Dats.cells ks')])) (.str w), true), (!wrEC [PV.int IntKind.i64 k', PV.int IntKind.i64 n', PV.str s', PV.slice (Dats.len ks') (Dats.cells ks')] == (0 : Int), false), (decide ((20000 : Int) < (w.size : Int)), false), (true, true), (true, true), (onE w == (0 : Int), true), (onA w == (0 : Int), true), (true, true), (isOk [PV.int IntKind.i64 (ndK (onX w)), PV.int IntKind.i64 (ndN (onX w)), PV.str (ndT (onX w)), PV.slice (Dats.len (Nds.dat (ndS (onX w)))) (Dats.cells (Nds.dat (ndS (onX w))))], true), (isOk [PV.int IntKind.i64 k', PV.int IntKind.i64 n', PV.str s', PV.slice (Dats.len ks') (Dats.cells ks')], true), (eqC [PV.int IntKind.i64 (ndK (onX w)), PV.int IntKind.i64 (ndN (onX w)), PV.str (ndT (onX w)), PV.slice (Dats.len (Nds.dat (ndS (onX w)))) (Dats.cells (Nds.dat (ndS (onX w))))] [PV.int IntKind.i64 k', PV.int IntKind.i64 n', PV.str s', PV.slice (Dats.len ks') (Dats.cells ks')], true), (onE w == (0 : Int), true), (wtn w, true), (true, true)]) (by kernel_rfl) (by ((repeat' (first | exact okO_nil | refine okN ?_ ?_)); all_goals first | assumption | rfl | exact same_of rfl | exact sameS_self _ | (simp only [decide_eq_true_eq, decide_eq_false_iff_not, Nat.ble_eq, Nat.beq_eq, beq_eq_false_iff_ne, beq_iff_eq, ne_eq] <;> omega))) (fun st hs => fin st _ hs)
  · have b1 : (!wrEC [PV.int IntKind.i64 k', PV.int IntKind.i64 n', PV.str s', PV.slice (Dats.len ks') (Dats.cells ks')] == (0 : Int)) = true := by rw [ee, beqF h0]; rfl
    exact SWP.runQ (SLe [(58, [(19, true)])] [(58, [(12, .agg [.int .i64 k', .int .i64 n', .str s', .slice ks'.len ks'.cells]), (16, .str w)])]) 100 58 hnt [2] (e := .ret) (z := ⟨[(2, .bool true)], ⟨[⟨[PV.int IntKind.i64 k, PV.int IntKind.i64 n, PV.str s, PV.slice (Dats.len ks) (Dats.cells ks)], 25⟩, ⟨[PV.int IntKind.i64 k', PV.int IntKind.i64 n', PV.str s', PV.slice (Dats.len ks') (Dats.cells ks')], 25⟩], []⟩⟩) (o := [(true, true), (isOk [PV.int IntKind.i64 k, PV.int IntKind.i64 n, PV.str s, PV.slice (Dats.len ks) (Dats.cells ks)], true), (same (.agg [.int .i64 (cuA [PV.int IntKind.i64 k, PV.int IntKind.i64 n, PV.str s, PV.slice (Dats.len ks) (Dats.cells ks)]), .int .i64 (cuB [PV.int IntKind.i64 k, PV.int IntKind.i64 n, PV.str s, PV.slice (Dats.len ks) (Dats.cells ks)]), .str (cuC [PV.int IntKind.i64 k, PV.int IntKind.i64 n, PV.str s, PV.slice (Dats.len ks) (Dats.cells ks)]), .slice (cuD [PV.int IntKind.i64 k, PV.int IntKind.i64 n, PV.str s, PV.slice (Dats.len ks) (Dats.cells ks)]).len (cuD [PV.int IntKind.i64 k, PV.int IntKind.i64 n, PV.str s, PV.slice (Dats.len ks) (Dats.cells ks)]).cells]) (.agg [.int .i64 k', .int .i64 n', .str s', .slice ks'.len ks'.cells]), true), (true, true), (isSml [PV.int IntKind.i64 k', PV.int IntKind.i64 n', PV.str s', PV.slice (Dats.len ks') (Dats.cells ks')], true), (same (.str (wrBC [PV.int IntKind.i64 k', PV.int IntKind.i64 n', PV.str s', PV.slice (Dats.len ks') (Dats.cells ks')])) (.str w), true), (!wrEC [PV.int IntKind.i64 k', PV.int IntKind.i64 n', PV.str s', PV.slice (Dats.len ks') (Dats.cells ks')] == (0 : Int), true), (true, true)]) (by kernel_rfl) (by ((repeat' (first | exact okO_nil | refine okN ?_ ?_)); all_goals first | assumption | rfl | exact same_of rfl | exact sameS_self _ | (simp only [decide_eq_true_eq, decide_eq_false_iff_not, Nat.ble_eq, Nat.beq_eq, beq_eq_false_iff_ne, beq_iff_eq, ne_eq] <;> omega))) (fun st hs => fin st _ hs)
end Seat
end Go.Proofs.YtenpjkcclmmlhaaDoor
