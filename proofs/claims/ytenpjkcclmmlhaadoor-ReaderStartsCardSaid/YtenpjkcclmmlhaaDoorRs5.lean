/- Texts of this session, packed: Rng0, LawS, Wit, Eng1, Flat1. -/
import Derived.Test.YtenpjkcclmmlhaaDoorRs4
namespace Go.Proofs.YtenpjkcclmmlhaaDoor
open Go.AS
set_option linter.unusedVariables false
set_option linter.unusedSimpArgs false
set_option maxRecDepth 10000
namespace Seat
theorem wrap_rng (n : Int) : -9223372036854775808 ≤ IntKind.wrap IntKind.i64 n ∧ IntKind.wrap IntKind.i64 n ≤ 9223372036854775807 := by rw [IntKind.wrap_i64]; omega
theorem numT_rng (t : ByteArray) (b : Bool) : -9223372036854775808 ≤ (numT t b).1 ∧ (numT t b).1 ≤ 9223372036854775807 := by
  unfold numT
  split
  · decide
  · split
    · decide
    · split
      · exact wrap_rng _
      · exact wrap_rng _
theorem numV_rng (w : ByteArray) : -9223372036854775808 ≤ (numV w).1 ∧ (numV w).1 ≤ 9223372036854775807 := by
  unfold numV
  split
  · exact numT_rng _ _
  · exact numT_rng _ _
theorem Dats.snoc_rng : ∀ (l : Dats) (x : Dat), l.rng → x.rng → (Dats.snoc l x).rng
  | .nil, x, _, hx => ⟨hx, trivial⟩
  | .cons d ds, x, h, hx => ⟨h.1, Dats.snoc_rng ds x h.2 hx⟩
theorem formedL_snoc : ∀ (l : Dats) (x : Dat), formedL l = true → formedD x = true → formedL (Dats.snoc l x) = true
  | .nil, x, _, hx => by simp only [Dats.snoc, formedL, hx, Bool.and_true]
  | .cons d ds, x, h, hx => by
    simp only [formedL, Bool.and_eq_true] at h
    simp only [Dats.snoc, formedL, Bool.and_eq_true]
    exact ⟨h.1, formedL_snoc ds x h.2 hx⟩
theorem textL_snoc : ∀ (l : Dats) (x : Dat), textL false (Dats.snoc l x) = textL false l ++ 32 :: textD x
  | .nil, x => by simp [Dats.snoc, textL]
  | .cons d ds, x => by simp only [Dats.snoc, textL, textL_snoc ds x]; simp
theorem textL_first : ∀ l : Dats, (textL true l).length ≤ (textL false l).length
  | .nil => Nat.le_refl _
  | .cons d ds => by simp [textL]
theorem parts_snoc : ∀ (l : Dats) (x : Dat), partsL (Dats.snoc l x) = partsL l + parts x
  | .nil, x => by simp [Dats.snoc, partsL]
  | .cons d ds, x => by simp only [Dats.snoc, partsL, parts_snoc ds x]; omega
theorem deep_snoc : ∀ (l : Dats) (x : Dat), deepNL (Dats.snoc l x) = max (deepNL l) (deepN x)
  | .nil, x => by simp [Dats.snoc, deepNL]
  | .cons d ds, x => by simp only [Dats.snoc, deepNL, deep_snoc ds x]; omega
structure Fit (n c : Nat) (d : Dat) : Prop where
  form : formedD d = true
  rng : d.rng
  text : (textD d).length + 1 ≤ 32 * c
  deep : deepN d ≤ n
  part : parts d ≤ 2 * c
theorem rdL_fit {s : ByteArray} {n : Nat} (ih : ∀ a, a ≤ s.size → (rdD s n a).2.e = 0 → Fit n ((rdD s n a).2.a - a) (rdD s n a).1.dat) :
    ∀ k x l, x ≤ s.size → (rdL (rdD s n) s k ⟨x, 0, 0⟩ l).2.e = 0 → formedL l.dat = true → l.dat.rng →
      formedL (rdL (rdD s n) s k ⟨x, 0, 0⟩ l).1.dat = true ∧ (rdL (rdD s n) s k ⟨x, 0, 0⟩ l).1.dat.rng ∧ x ≤ (rdL (rdD s n) s k ⟨x, 0, 0⟩ l).2.a ∧
      (textL false (rdL (rdD s n) s k ⟨x, 0, 0⟩ l).1.dat).length ≤ (textL false l.dat).length + 32 * ((rdL (rdD s n) s k ⟨x, 0, 0⟩ l).2.a - x) ∧
      deepNL (rdL (rdD s n) s k ⟨x, 0, 0⟩ l).1.dat ≤ max (deepNL l.dat) n ∧
      partsL (rdL (rdD s n) s k ⟨x, 0, 0⟩ l).1.dat ≤ partsL l.dat + 2 * ((rdL (rdD s n) s k ⟨x, 0, 0⟩ l).2.a - x) := by
  intro k
  induction k with
  | zero => intro x l hx he hf hr; exact ⟨hf, hr, Nat.le_refl _, by show (textL false l.dat).length ≤ (textL false l.dat).length + 32 * (x - x); omega, by show deepNL l.dat ≤ max (deepNL l.dat) n; omega, by show partsL l.dat ≤ partsL l.dat + 2 * (x - x); omega⟩
  | succ k ihk =>
    intro x l hx he hf hr
    rw [rdL] at he ⊢
    by_cases hg : goes s ⟨x, 0, 0⟩ = true
    · rw [if_pos hg] at he ⊢
      have hs := rdD_steps s n x hx
      simp only [] at he ⊢
      by_cases h0 : (rdD s n x).2.e = 0
      · have hfit := ih x hx h0
        have h1 := hs.1.ok h0
        have h2 := hs.2 h0
        have h3 := skp_ge s (rdD s n x).2.a
        have h4 := skp_le s (rdD s n x).2.a h1.1
        rw [h0, h1.2] at he ⊢
        obtain ⟨g1, g2, g3, g4, g5, g6⟩ := ihk (skp s (rdD s n x).2.a) (l.snoc (rdD s n x).1) h4 he (by rw [Nds.dat_snoc]; exact formedL_snoc _ _ hf hfit.form) (by rw [Nds.dat_snoc]; exact Dats.snoc_rng _ _ hr hfit.rng)
        have hsz : (textL false (l.snoc (rdD s n x).1).dat).length = (textL false l.dat).length + ((textD (rdD s n x).1.dat).length + 1) := by
          rw [Nds.dat_snoc, textL_snoc, List.length_append, List.length_cons]
        have hpp : partsL (l.snoc (rdD s n x).1).dat = partsL l.dat + parts (rdD s n x).1.dat := by rw [Nds.dat_snoc, parts_snoc]
        have hdd : deepNL (l.snoc (rdD s n x).1).dat = max (deepNL l.dat) (deepN (rdD s n x).1.dat) := by rw [Nds.dat_snoc, deep_snoc]
        have t1 := hfit.text
        have t2 := hfit.part
        have t3 := hfit.deep
        exact ⟨g1, g2, by omega, by omega, by omega, by omega⟩
      · have : goes s ⟨skp s (rdD s n x).2.a, (rdD s n x).2.e, (rdD s n x).2.b⟩ = false := goes_err h0
        rw [rdL_stop this] at he
        exact absurd he h0
    · rw [if_neg hg] at he ⊢
      exact ⟨hf, hr, Nat.le_refl _, by show (textL false l.dat).length ≤ (textL false l.dat).length + 32 * (x - x); omega, by show deepNL l.dat ≤ max (deepNL l.dat) n; omega, by show partsL l.dat ≤ partsL l.dat + 2 * (x - x); omega⟩
theorem itoa_len' (n : Int) (h : -9223372036854775808 ≤ n ∧ n ≤ 9223372036854775807) : (Go.Lib.itoa n).length ≤ 21 := itoa_len n h.1 h.2
theorem rdD_fit (s : ByteArray) : ∀ n a, a ≤ s.size → (rdD s n a).2.e = 0 → Fit n ((rdD s n a).2.a - a) (rdD s n a).1.dat := by
  intro n
  induction n with
  | zero =>
    intro a ha he
    rw [rdD_eq] at he
    split at he
    · exact absurd he n4
    · split at he
      · exact absurd he n4
      · exact absurd he n3
  | succ n ih =>
    intro a ha he
    have eq := rdD_eq s (n + 1) a
    rcases Nat.lt_or_ge a s.size with hlt | hge
    · rw [if_neg (by omega)] at eq
      by_cases hb : bt s (a : Int) ≠ 40 ∧ bt s (a : Int) ≠ 39 ∧ letC (bt s (a : Int)) = false
      · rw [if_pos hb] at eq; rw [eq] at he; exact absurd he n4
      · rw [if_neg hb] at eq
        simp only [] at eq
        by_cases h3 : bt s (a : Int) = 39 ∧ n = 0
        · rw [if_pos h3] at eq; rw [eq] at he; exact absurd he n3
        · rw [if_neg h3] at eq
          cases hl : letC (bt s (a : Int)) with
          | true =>
            rw [if_pos hl] at eq
            have hgt := letE_gt hlt hl
            have hle := letE_le s a ha
            have hsz : (s.extract a (letE s a)).size = letE s a - a := by rw [ByteArray.size_extract]; omega
            rw [eq] at he ⊢
            unfold atomR at he ⊢
            split at he
            · rename_i h
              rw [if_pos h]
              have hnr := numV_rng (s.extract a (letE s a))
              have := itoa_len' _ hnr
              exact ⟨rfl, ⟨hnr, trivial⟩, by
                show (Go.Lib.itoa _).length + 1 ≤ 32 * (letE s a - a); omega, by show 0 + 1 ≤ n + 1; omega, by show 0 + 1 ≤ 2 * (letE s a - a); omega⟩
            · rename_i h
              split at he
              · rename_i h2
                rw [if_neg h, if_pos h2]
                refine ⟨?_, ⟨by show -9223372036854775808 ≤ (0 : Int) ∧ (0 : Int) ≤ 9223372036854775807; decide, trivial⟩, ?_, by show 0 + 1 ≤ n + 1; omega, by show 0 + 1 ≤ 2 * (letE s a - a); omega⟩
                · simp only [Nd.dat, formedD, h2, Nds.dat, Dats.len]; rfl
                · show (s.extract a (letE s a)).data.toList.length + 1 ≤ 32 * (letE s a - a)
                  have hlen : (s.extract a (letE s a)).data.toList.length = (s.extract a (letE s a)).size := Array.length_toList
                  omega
              · exact absurd he n4
          | false =>
            rw [if_neg (by rw [hl]; decide)] at eq
            have h8 := skp_le s (a + 1) (by omega)
            have h9 := skp_ge s (a + 1)
            by_cases h39 : bt s (a : Int) = 39
            · rw [if_pos h39] at eq
              rw [eq] at he ⊢
              have hf := ih _ h8 he
              have hg := (rdD_steps s n _ h8).2 he
              have hn : n ≠ 0 := fun h => h3 ⟨h39, h⟩
              have hy : symOk wQuote = true := by decide
              refine ⟨?_, ⟨by decide, ⟨by decide, trivial⟩, hf.rng, trivial⟩, ?_, ?_, ?_⟩
              · simp only [Nd.dat, Nds.dat, formedD, formedL, hf.form, hy, Dats.len]; rfl
              · have t := hf.text
                have e : (textD (Dat.mk 3 0 ⟨#[]⟩ (.cons (.mk 2 0 wQuote .nil) (.cons (rdD s n (skp s (a + 1))).1.dat .nil)))).length = (textD (rdD s n (skp s (a + 1))).1.dat).length + 8 := by
                  simp only [textD, textL, List.length_cons, List.length_append, List.length_nil]
                  simp only [show ¬ (3 : Int) = 1 by decide, show ¬ (3 : Int) = 2 by decide, show ¬ (2 : Int) = 1 by decide, if_false, if_true]
                  simp only [List.length_cons, List.length_append, List.length_nil, show wQuote.data.toList.length = 5 from rfl]
                  simp
                  omega
                show (textD (Dat.mk 3 0 ⟨#[]⟩ (.cons (.mk 2 0 wQuote .nil) (.cons (rdD s n (skp s (a + 1))).1.dat .nil)))).length + 1 ≤ 32 * ((rdD s n (skp s (a + 1))).2.a - a)
                rw [e]
                omega
              · have t := hf.deep
                show max (0 + 1) (max (deepN (rdD s n (skp s (a + 1))).1.dat) 0) + 1 ≤ n + 1
                omega
              · have t := hf.part
                show (0 + 1) + (parts (rdD s n (skp s (a + 1))).1.dat + 0) + 1 ≤ 2 * ((rdD s n (skp s (a + 1))).2.a - a)
                omega
            · rw [if_neg h39] at eq
              rw [eq] at he ⊢
              obtain ⟨g1, g2, g3, g4, g5, g6⟩ := rdL_fit ih (s.size + 1) (skp s (a + 1)) .nil h8 he rfl trivial
              have g4' : (textL false (rdL (rdD s n) s (s.size + 1) ⟨skp s (a + 1), 0, 0⟩ .nil).1.dat).length ≤ 0 + 32 * ((rdL (rdD s n) s (s.size + 1) ⟨skp s (a + 1), 0, 0⟩ .nil).2.a - skp s (a + 1)) := g4
              have g5' : deepNL (rdL (rdD s n) s (s.size + 1) ⟨skp s (a + 1), 0, 0⟩ .nil).1.dat ≤ max 0 n := g5
              have g6' : partsL (rdL (rdD s n) s (s.size + 1) ⟨skp s (a + 1), 0, 0⟩ .nil).1.dat ≤ 0 + 2 * ((rdL (rdD s n) s (s.size + 1) ⟨skp s (a + 1), 0, 0⟩ .nil).2.a - skp s (a + 1)) := g6
              have hfirst := textL_first (rdL (rdD s n) s (s.size + 1) ⟨skp s (a + 1), 0, 0⟩ .nil).1.dat
              refine ⟨?_, ⟨by decide, g2⟩, ?_, ?_, ?_⟩
              · simp only [Nd.dat, formedD, g1]; rfl
              · show (textD (Dat.mk 3 0 ⟨#[]⟩ (rdL (rdD s n) s (s.size + 1) ⟨skp s (a + 1), 0, 0⟩ .nil).1.dat)).length + 1 ≤ 32 * ((rdL (rdD s n) s (s.size + 1) ⟨skp s (a + 1), 0, 0⟩ .nil).2.a + 1 - a)
                rw [textD]
                simp only [show ¬ (3 : Int) = 1 by decide, show ¬ (3 : Int) = 2 by decide, if_false, List.length_cons, List.length_append, List.length_nil]
                omega
              · show deepNL (rdL (rdD s n) s (s.size + 1) ⟨skp s (a + 1), 0, 0⟩ .nil).1.dat + 1 ≤ n + 1
                omega
              · show partsL (rdL (rdD s n) s (s.size + 1) ⟨skp s (a + 1), 0, 0⟩ .nil).1.dat + 1 ≤ 2 * ((rdL (rdD s n) s (s.size + 1) ⟨skp s (a + 1), 0, 0⟩ .nil).2.a + 1 - a)
                omega
    · rw [if_pos hge] at eq; rw [eq] at he; exact absurd he n4
theorem onX_fit (s : ByteArray) (h : onE s = 0) : s.size ≤ 20000 ∧ Fit 1000 s.size (onX s).dat := by
  unfold onE oneR at h
  unfold onX oneR
  split at h
  · exact absurd h n3
  · rename_i h1
    rw [if_neg h1]
    split at h
    · rename_i h2
      rw [if_pos h2]
      split at h
      · exact absurd h n4
      · rename_i h3
        rw [if_neg h3]
        have hf := rdD_fit s 1000 (skp s 0) (skp_le s 0 (Nat.zero_le _)) h2
        have ha : (rdD s 1000 (skp s 0)).2.a ≤ s.size := ((rdD_steps s 1000 (skp s 0) (skp_le s 0 (Nat.zero_le _))).1.ok h2).1
        have t := hf.text
        have t2 := hf.part
        exact ⟨by omega, hf.form, hf.rng, by show (textD (rdD s 1000 (skp s 0)).1.dat).length + 1 ≤ _; omega, hf.deep, by show parts (rdD s 1000 (skp s 0)).1.dat ≤ _; omega⟩
    · rename_i h2
      exact absurd h h2
theorem onX_chk (s : ByteArray) (h : onE s = 0) : chkD (onX s).dat = 0 ∧ (onX s).dat.rng ∧ parts (onX s).dat ≤ 40000 := by
  obtain ⟨h1, hf⟩ := onX_fit s h
  have hp := hf.part
  have hd := hf.deep
  refine ⟨?_, hf.rng, by omega⟩
  unfold chkD
  rw [if_neg (by rw [hf.form]; decide), if_neg (by rw [wrap_in _ (by omega)]; omega), if_neg (by omega)]
end Seat
end Go.Proofs.YtenpjkcclmmlhaaDoor
namespace Go.Proofs.YtenpjkcclmmlhaaDoor
open Go.AS Go.RowKit
set_option linter.unusedVariables false
set_option linter.unusedSimpArgs false
set_option maxRecDepth 100000
set_option maxHeartbeats 4000000
namespace Seat
open Classical in
noncomputable def isAt (cs : List PV) (q : Nat) (pc : List PV) : Bool := decide (∃ (d : Dat) (l : List Int), d.cells = cs ∧ pc = intL l ∧ q = l.length ∧ l.length ≤ 1099511627776 ∧ vldD d l)
theorem isAt_at {d : Dat} {l : List Int} (h1 : l.length ≤ 1099511627776) (h2 : vldD d l) : isAt d.cells l.length (intL l) = true := by
  unfold isAt
  classical exact decide_eq_true ⟨d, l, rfl, rfl, rfl, h1, h2⟩
theorem isAt_of {cs : List PV} {q : Nat} {pc : List PV} (h : isAt cs q pc = true) : ∃ (d : Dat) (l : List Int), d.cells = cs ∧ pc = intL l ∧ q = l.length ∧ l.length ≤ 1099511627776 ∧ vldD d l := by
  unfold isAt at h
  classical exact of_decide_eq_true h
open Classical in
noncomputable def isPh (q : Nat) (pc : List PV) : Bool := decide (∃ l : List Int, pc = intL l ∧ q = l.length ∧ l.length ≤ 1099511627776)
theorem isPh_at {l : List Int} (h : l.length ≤ 1099511627776) : isPh l.length (intL l) = true := by
  unfold isPh
  classical exact decide_eq_true ⟨l, rfl, rfl, h⟩
theorem isPh_of {q : Nat} {pc : List PV} (h : isPh q pc = true) : ∃ l : List Int, pc = intL l ∧ q = l.length ∧ l.length ≤ 1099511627776 := by
  unfold isPh at h
  classical exact of_decide_eq_true h
noncomputable def atC (cs pc : List PV) : List PV := ofCells (fun d => (subD d (pc.map unZ)).cells) [] cs
def ofA' (s : ByteArray) (pc : List PV) : Int := (offR s (pc.map unZ)).1
def ofE' (s : ByteArray) (pc : List PV) : Int := (offR s (pc.map unZ)).2
noncomputable def lsS (f : Nat) (args : List PV) : Option (PV × Ob) := match f, args with
  | 15, [.str s] => some (.tup [.agg [.int .i64 (ndK (onX s)), .int .i64 (ndN (onX s)), .str (ndT (onX s)), .slice (Dats.len (Nds.dat (ndS (onX s)))) (Dats.cells (Nds.dat (ndS (onX s))))], .int .i64 (onA s), .int .i64 (onE s)], [])
  | 26, [.agg [.int .i64 k, .int .i64 n, .str t, .slice m cs]] => some (.slice (ptL cs []).length (pvP (ptL cs [])), [(isPt 200001 m cs 0 [], true)])
  | 27, [.agg [.int .i64 k, .int .i64 n, .str t, .slice m cs], .slice q pc] => some (.tup [.agg (atC [.int .i64 k, .int .i64 n, .str t, .slice m cs] pc), .bool true], [(isAt [.int .i64 k, .int .i64 n, .str t, .slice m cs] q pc, true)])
  | 24, [.str s, .slice q pc] => some (.tup [.int .i64 (ofA' s pc), .int .i64 (ofE' s pc)], [(isPh q pc, true)])
  | 17, [.agg cs, .agg ds] => some (.bool (eqC cs ds), [(isOk cs, true), (isOk ds, true)])
  | 18, [] => some (.bool true, [])
  | _, _ => none
theorem lsS_ok (f : Nat) (args : List PV) (r : PV) (o : Ob) (h : lsS f args = some (r, o)) (ho : ∀ p ∈ o, p.1 = p.2) (_ : pureL args = true) : Pure G0 f args (fun x => x = r) := by
  unfold lsS at h
  split at h
  · cases h
    exact ReadP _
  · rename_i k n t m cs _
    cases h
    obtain ⟨ks, p, rfl, rfl, h1, h2, h3, h4⟩ := isPt_of (ho _ (List.mem_singleton.2 rfl))
    obtain rfl : p = [] := List.eq_nil_of_length_eq_zero h3.symm
    rw [show ([] : List PV) = intL [] from rfl, ptL_at]
    exact paths_ok k n t ks (by simpa using h4)
  · rename_i k n t m cs q pc _
    cases h
    obtain ⟨d, l, h1, rfl, rfl, h2, h3⟩ := isAt_of (ho _ (List.mem_singleton.2 rfl))
    rw [← h1]
    unfold atC
    rw [ofCells_at, unZ_intL]
    exact at_ok d l (by omega) h3
  · rename_i s q pc _
    cases h
    obtain ⟨l, rfl, rfl, hl⟩ := isPh_of (ho _ (List.mem_singleton.2 rfl))
    unfold ofA' ofE'
    rw [unZ_intL]
    exact offsetP s l hl
  · rename_i cs ds _
    cases h
    obtain ⟨d, rfl, h1⟩ := isOk_of (ho (isOk cs, true) (by simp))
    obtain ⟨e, rfl, h2⟩ := isOk_of (ho (isOk ds, true) (by simp))
    rw [eqC_at]
    exact same_ok d e h1 h2
  · cases h
    exact alive_ok
  · cases h
noncomputable def SLs (l : List (Nat × List (Nat × Bool))) (v : List (Nat × List (Nat × PV))) : Cfg G0 := { F := F, hF := hF, S := lsS, hS := lsS_ok, orc := orcM l, val := valM v }
mutual
theorem Nd.dat_okS : ∀ x : Nd, x.ok → x.dat.ok
  | .mk k n t ks a, h => ⟨by rw [Nds.dat_len]; have : ks.len ≤ 1099511627777 := h.1; omega, Nds.dat_okS ks h.2⟩
theorem Nds.dat_okS : ∀ x : Nds, x.ok → x.dat.ok
  | .nil, _ => trivial
  | .cons d ds, h => ⟨Nd.dat_okS d h.1, Nds.dat_okS ds h.2⟩
end
theorem Nds.dat_get : ∀ (ks : Nds) (i : Nat), i < ks.len → Dats.get ks.dat i = (ks.get i).dat
  | .nil, i, h => by simp [Nds.len] at h
  | .cons d ds, 0, h => rfl
  | .cons d ds, i + 1, h => Nds.dat_get ds i (by simp only [Nds.len] at h; omega)
theorem vld_nd : ∀ (X : Nd) (r : List Int), vldD X.dat r → vldN X r ∧ subD X.dat r = (subN X r).dat
  | X, [], _ => ⟨trivial, by cases X; rfl⟩
  | .mk k n t ks a, i :: r, h => by
    obtain ⟨h1, h2⟩ := h
    rw [Nds.dat_len] at h1
    rw [Nds.dat_get ks i.toNat (by omega)] at h2
    obtain ⟨g1, g2⟩ := vld_nd (ks.get i.toNat) r h2
    refine ⟨⟨h1, g1⟩, ?_⟩
    show subD (Dats.get ks.dat i.toNat) r = _
    rw [Nds.dat_get ks i.toNat (by omega)]
    exact g2
mutual
theorem pth_vld : ∀ (d : Dat) (p q : List Int), q ∈ pthD d p → ∃ r, q = p ++ r ∧ vldD d r ∧ r.length ≤ d.size
  | .mk k n s ks, p, q, h => by
    rw [pthD] at h
    rcases List.mem_cons.1 h with rfl | h
    · exact ⟨[], by simp, trivial, Nat.zero_le _⟩
    · obtain ⟨j, r, h1, h2, h3, h4⟩ := pth_vldK ks p 0 q h
      rw [Nat.zero_add] at h2
      exact ⟨(j : Int) :: r, h2, ⟨⟨Int.natCast_nonneg _, by omega⟩, h3⟩, by simp only [List.length_cons, Dat.size]; omega⟩
theorem pth_vldK : ∀ (ks : Dats) (p : List Int) (i : Nat) (q : List Int), q ∈ pthK ks p i → ∃ (j : Nat) (r : List Int), j < ks.len ∧ q = p ++ (((i + j : Nat) : Int) :: r) ∧ vldD (ks.get j) r ∧ r.length + 1 ≤ ks.size
  | .nil, p, i, q, h => by cases h
  | .cons d ds, p, i, q, h => by
    rw [pthK] at h
    rcases List.mem_append.1 h with h | h
    · obtain ⟨r, h1, h2, h3⟩ := pth_vld d _ q h
      exact ⟨0, r, by simp only [Dats.len]; omega, by rw [h1, List.append_assoc]; rfl, h2, by simp only [Dats.size]; omega⟩
    · obtain ⟨j, r, h1, h2, h3, h4⟩ := pth_vldK ds p (i + 1) q h
      exact ⟨j + 1, r, by simp only [Dats.len]; omega, by rw [h2, show i + 1 + j = i + (j + 1) by omega], h3, by simp only [Dats.size]; omega⟩
end
theorem sub_ok : ∀ (d : Dat) (r : List Int), d.ok → vldD d r → (subD d r).ok
  | d, [], h, _ => h
  | .mk k n s ks, i :: r, h, hv => sub_ok _ r (Dats.get_ok ks i.toNat (by have := hv.1; omega) h.2) hv.2
theorem starts_fact {t : ByteArray} (hE : onE t = 0) {p : List Int} (hp : p ∈ pthD (onX t).dat []) : ∃ a : Nat, vldD (onX t).dat p ∧ offR t p = ((a : Int), 0) ∧ a < t.size ∧ p.length ≤ (onX t).dat.size ∧ ((bt t (a : Int) = 39 ∧ subD (onX t).dat p = .mk 2 0 wQuote .nil) ∨ ∃ b : Nat, a < b ∧ b ≤ t.size ∧ onE (t.extract a b) = 0 ∧ (onX (t.extract a b)).dat = subD (onX t).dat p) := by
  obtain ⟨r, h1, h2, h3⟩ := pth_vld _ _ _ hp
  rw [List.nil_append] at h1
  subst h1
  obtain ⟨g1, g2⟩ := vld_nd _ _ h2
  obtain ⟨a, k1, k2, k3⟩ := all_sub _ _ (onX_all hE) g1
  refine ⟨a, h2, ?_, k2, h3, ?_⟩
  · unfold offR
    rw [if_pos hE, ofR_vld _ _ g1, k1]
  · rw [g2]; exact k3
mutual
theorem eqD_selfS : ∀ d : Dat, eqD d d = true
  | .mk k n s ks => by simp [eqD, eqL_selfS ks]
theorem eqL_selfS : ∀ ks : Dats, eqL ks ks = true
  | .nil => rfl
  | .cons d ds => by simp [eqL, eqD_selfS d, eqL_selfS ds]
end
theorem cut200 (s : ByteArray) : (if (200 : Int) < (s.size : Int) then (200 : Int) else (s.size : Int)) = ((min s.size 200 : Nat) : Int) := by split <;> omega
theorem starts_law (s : ByteArray) (hs : s.size ≤ 9223372036854775807) : Pure G0 7 [.str s] (fun r => r = .bool true) := by
  obtain ⟨t, ht⟩ : ∃ a, a = s.extract 0 (min s.size 200) := ⟨_, rfl⟩
  have hts : t.size ≤ 200 := by rw [ht, ByteArray.size_extract]; omega
  have e1 := cut200 s
  have d1 : decide ((0 : Int) ≤ ((0 : Nat) : Int) ∧ (((0 : Nat) : Int) ≤ (if (200 : Int) < (s.size : Int) then (200 : Int) else (s.size : Int))) ∧ (if (200 : Int) < (s.size : Int) then (200 : Int) else (s.size : Int)) ≤ (s.size : Int)) = true := by rw [e1, decide_eq_true_eq]; omega
  have d3 : same (PV.str (ByteArray.extract s 0 (Int.toNat (if (200 : Int) < (s.size : Int) then (200 : Int) else (s.size : Int))))) (PV.str t) = true := same_of (by rw [e1, Int.toNat_natCast, ht])
  refine Fn.enterB Tryd.func7 Tryd.ntmps7 rfl (Nat.le_of_ble_eq_true rfl) fun C fr fp hnt hnb hp hfr hfp => ?_
  have fin : ∀ st H, nrm [2] st = ⟨[(2, .bool true)], H⟩ → fr st := fun st H hst => hfr st [2] (by
    rw [hst]
    exact ⟨0, .bool true, Nat.le_refl _, Nat.zero_le _, rfl, rfl, rfl, rfl, _, rfl, rfl⟩)
  refine Q.runSeq (SLs [] []) 100 115 hnt [0] (z := ⟨[(0, .str s)], ⟨[], []⟩⟩) (o := []) (by kernel_rfl) (by ((repeat' (first | exact okO_nil | refine okN ?_ ?_)); all_goals first | assumption | rfl | exact same_of rfl | exact sameS_self _ | (simp only [decide_eq_true_eq, decide_eq_false_iff_not, Nat.ble_eq, Nat.beq_eq, beq_eq_false_iff_ne, beq_iff_eq, ne_eq] <;> omega))) ?_
  refine Q.runSeq (SLs [(115, [(22, true)])] [(115, [(22, .str t)])]) 100 115 hnt [3] (z := ⟨[(3, .str t)], ⟨[], []⟩⟩) (o := [(decide ((0 : Int) ≤ ((0 : Nat) : Int) ∧ (((0 : Nat) : Int) ≤ (if (200 : Int) < (s.size : Int) then (200 : Int) else (s.size : Int))) ∧ (if (200 : Int) < (s.size : Int) then (200 : Int) else (s.size : Int)) ≤ (s.size : Int)), true), (same (.str (ByteArray.extract s 0 (Int.toNat (if (200 : Int) < (s.size : Int) then (200 : Int) else (s.size : Int))))) (.str t), true)]) (by kernel_rfl) (by ((repeat' (first | exact okO_nil | refine okN ?_ ?_)); all_goals first | assumption | rfl | exact same_of rfl | exact sameS_self _ | (simp only [decide_eq_true_eq, decide_eq_false_iff_not, Nat.ble_eq, Nat.beq_eq, beq_eq_false_iff_ne, beq_iff_eq, ne_eq] <;> omega))) ?_
  clear d1 d3 e1
  obtain ⟨k, n, w, xs, a0, hX⟩ := nd_mk (onX t)
  obtain ⟨ks, hks⟩ : ∃ ks, ks = xs.dat := ⟨_, rfl⟩
  have hXd : (onX t).dat = .mk k n w ks := by rw [hX, hks]; rfl
  obtain ⟨e, he⟩ : ∃ e, e = onE t := ⟨_, rfl⟩
  refine Q.runSeq (SLs [] []) 100 115 hnt [3, 4, 6] (z := ⟨[(3, .str t), (4, .ptr 0 0), (6, .int .i64 (onE t))], ⟨[⟨[.int .i64 (ndK (onX t)), .int .i64 (ndN (onX t)), .str (ndT (onX t)), .slice (Dats.len (Nds.dat (ndS (onX t)))) (Dats.cells (Nds.dat (ndS (onX t))))], 25⟩], []⟩⟩) (o := [(true, true)]) (by kernel_rfl) (by ((repeat' (first | exact okO_nil | refine okN ?_ ?_)); all_goals first | assumption | rfl | exact same_of rfl | exact sameS_self _ | (simp only [decide_eq_true_eq, decide_eq_false_iff_not, Nat.ble_eq, Nat.beq_eq, beq_eq_false_iff_ne, beq_iff_eq, ne_eq] <;> omega))) ?_
  rw [hX, ← he]
  refine swp_st (st' := ⟨[(3, .str t), (4, .ptr 0 0), (6, .int .i64 e)], ⟨[dB k n w ks], []⟩⟩) (by rw [hks]; rfl) ?_
  by_cases h0 : e = 0
  case neg =>
    have c1 : (!e == (0 : Int)) = true := by rw [beqF h0]; rfl
    refine Q.seq fun K hK => ?_
    exact SWP.runQ (SLs [(115, [(30, true)])] []) 100 115 hnt [2] (e := .ret) (z := ⟨[(2, .bool true)], ⟨[⟨[.int .i64 k, .int .i64 n, .str w, .slice (Dats.len ks) (Dats.cells ks)], 25⟩], []⟩⟩) (o := [(!e == (0 : Int), true), (true, true), (true, true)]) (by kernel_rfl) (by ((repeat' (first | exact okO_nil | refine okN ?_ ?_)); all_goals first | assumption | rfl | exact same_of rfl | exact sameS_self _ | (simp only [decide_eq_true_eq, decide_eq_false_iff_not, Nat.ble_eq, Nat.beq_eq, beq_eq_false_iff_ne, beq_iff_eq, ne_eq] <;> omega))) (fun st hst => fin st _ hst)
  have c1 : (!e == (0 : Int)) = false := by rw [h0]; rfl
  refine Q.runSeq (SLs [(115, [(30, false)])] []) 100 115 hnt [3, 4] (z := ⟨[(3, .str t), (4, .ptr 0 0)], ⟨[⟨[.int .i64 k, .int .i64 n, .str w, .slice (Dats.len ks) (Dats.cells ks)], 25⟩], []⟩⟩) (o := [(!e == (0 : Int), false), (false, false)]) (by kernel_rfl) (by ((repeat' (first | exact okO_nil | refine okN ?_ ?_)); all_goals first | assumption | rfl | exact same_of rfl | exact sameS_self _ | (simp only [decide_eq_true_eq, decide_eq_false_iff_not, Nat.ble_eq, Nat.beq_eq, beq_eq_false_iff_ne, beq_iff_eq, ne_eq] <;> omega))) ?_
  have hE : onE t = 0 := by rw [← he]; exact h0
  obtain ⟨hch, hrng, hparts⟩ := onX_chk t hE
  have hsz := size_parts (onX t).dat
  rw [hXd] at hsz hparts hrng
  simp only [Dat.size] at hsz
  have hks2 : ks.size ≤ 100000 := by omega
  have hok : (Dat.mk k n w ks).ok := by rw [← hXd]; exact Nd.dat_okS _ (onX_ok t)
  have c2 : isPt 200001 ks.len ks.cells 0 [] = true := isPt_at (p := []) (by omega) (by simp only [List.length_nil]; omega)
  obtain ⟨L, hL⟩ : ∃ L, L = pthD (.mk k n w ks) [] := ⟨_, rfl⟩
  have hL2 : ptL ks.cells [] = L := by rw [hL]; exact ptL_at ks []
  have hLl : L.length ≤ 200001 := by
    have := pthD_len (.mk k n w ks) []
    simp only [Dat.size] at this
    rw [hL]; omega
  obtain ⟨M, hM⟩ : ∃ M, M = L.length := ⟨_, rfl⟩
  obtain ⟨cs, hcs⟩ : ∃ cs, cs = pvP L := ⟨_, rfl⟩
  have c3 : same (.slice (List.length (ptL ks.cells [])) (pvP (ptL ks.cells []))) (.slice M cs) = true := same_of (by rw [hL2, hM, hcs])
  refine Q.runSeq (SLs [] [(115, [(33, .slice M cs)])]) 100 115 hnt [3, 4, 7] (z := ⟨[(3, .str t), (4, .ptr 0 0), (7, .slice M cs)], ⟨[⟨[.int .i64 k, .int .i64 n, .str w, .slice (Dats.len ks) (Dats.cells ks)], 25⟩], []⟩⟩) (o := [(true, true), (isPt 200001 (Dats.len ks) (Dats.cells ks) 0 [], true), (same (PV.slice (List.length (ptL (Dats.cells ks) [])) (pvP (ptL (Dats.cells ks) []))) (PV.slice M cs), true)]) (by kernel_rfl) (by ((repeat' (first | exact okO_nil | refine okN ?_ ?_)); all_goals first | assumption | rfl | exact same_of rfl | exact sameS_self _ | (simp only [decide_eq_true_eq, decide_eq_false_iff_not, Nat.ble_eq, Nat.beq_eq, beq_eq_false_iff_ne, beq_iff_eq, ne_eq] <;> omega))) ?_
  clear c2 c3
  refine Q.seq fun K hK => ?_
  refine Q.runSeq (SLs [] []) 100 115 hnt [3, 4, 7, 8] (z := ⟨[(3, .str t), (4, .ptr 0 0), (7, .slice M cs), (8, .int .i64 (0 : Int))], ⟨[⟨[.int .i64 k, .int .i64 n, .str w, .slice (Dats.len ks) (Dats.cells ks)], 25⟩], []⟩⟩) (o := []) (by kernel_rfl) (by ((repeat' (first | exact okO_nil | refine okN ?_ ?_)); all_goals first | assumption | rfl | exact same_of rfl | exact sameS_self _ | (simp only [decide_eq_true_eq, decide_eq_false_iff_not, Nat.ble_eq, Nat.beq_eq, beq_eq_false_iff_ne, beq_iff_eq, ne_eq] <;> omega))) ?_
  refine Q.block ?_
  let T (j : Nat) : AS := ⟨[(3, .str t), (4, .ptr 0 0), (7, .slice M cs), (8, .int .i64 j)], ⟨[dB k n w ks], []⟩⟩
  refine Q.loopH (σ := { j : Nat // j ≤ M }) [3, 4, 7, 8] 1 (by rw [hnb]; exact Nat.zero_le _) (fun j => T j.1) (fun j => M - j.1) ⟨0, Nat.zero_le _⟩ (fun j => ⟨rfl, rfl, rfl⟩) ⟨[], by simp only [List.append_nil]; rfl⟩ fun ⟨j, hj⟩ => ?_
  show SWP G0 C _ _ ⟨[(3, .str t), (4, .ptr 0 0), (7, .slice M cs), (8, .int .i64 j)], ⟨[dB k n w ks], []⟩⟩
  rcases Nat.lt_or_ge j M with hlt | hge
  · have b1 := lt_at hlt
    have b2 := in_at hlt
    refine Q.runSeq (SLs [(115, [(37, true)])] []) 100 115 hnt [3, 4, 7, 8] (z := ⟨[(3, .str t), (4, .ptr 0 0), (7, .slice M cs), (8, .int .i64 (Int.ofNat j))], ⟨[⟨[.int .i64 k, .int .i64 n, .str w, .slice (Dats.len ks) (Dats.cells ks)], 25⟩], []⟩⟩) (o := [(decide ((↑j : Int) < (↑M : Int)), true), (true, true)]) (by kernel_rfl) (by ((repeat' (first | exact okO_nil | refine okN ?_ ?_)); all_goals first | assumption | rfl | exact same_of rfl | exact sameS_self _ | (simp only [decide_eq_true_eq, decide_eq_false_iff_not, Nat.ble_eq, Nat.beq_eq, beq_eq_false_iff_ne, beq_iff_eq, ne_eq] <;> omega))) ?_
    obtain ⟨p, hp1⟩ : ∃ p, L[j]? = some p := ⟨_, List.getElem?_eq_getElem (by omega)⟩
    have hdr : L.drop j = p :: L.drop (j + 1) := by
      obtain ⟨g1, g2⟩ := List.getElem?_eq_some_iff.1 hp1
      rw [List.drop_eq_getElem_cons g1, g2]
    have hpm : p ∈ pthD (onX t).dat [] := by rw [hXd, ← hL]; exact List.mem_of_getElem? hp1
    obtain ⟨a, hv, hof, hat, hpl, hcase⟩ := starts_fact hE hpm
    rw [hXd] at hv hpl hcase
    simp only [Dat.size] at hpl
    obtain ⟨q, hq⟩ : ∃ q, q = p.length := ⟨_, rfl⟩
    obtain ⟨pc, hpc⟩ : ∃ pc, pc = intL p := ⟨_, rfl⟩
    have hcj : cs.drop j = .slice q pc :: cs.drop (j + 1) := by rw [hcs, pvP, ← List.map_drop, hdr, hq, hpc]; simp [List.map_drop]
    have b3 : decide (1 ≤ List.length (List.drop (Int.toNat (j : Int) * 1) cs)) = true := by rw [Int.toNat_natCast, Nat.mul_one, hcj]; simp
    have b4 : same (List.headD (List.drop (Int.toNat (j : Int) * 1) cs) .junk) (.slice q pc) = true := same_of (by rw [Int.toNat_natCast, Nat.mul_one, hcj]; rfl)
    obtain ⟨k', n', w', ks', hY⟩ := Dat.is_mk (subD (.mk k n w ks) p)
    have hYok : (Dat.mk k' n' w' ks').ok := by rw [← hY]; exact sub_ok _ p hok hv
    rw [hY] at hcase
    have b5 : isAt [.int .i64 k, .int .i64 n, .str w, .slice ks.len ks.cells] q pc = true := by
      rw [hq, hpc]
      exact isAt_at (d := .mk k n w ks) (by omega) hv
    have b6 : same (.tup [.agg (atC [.int .i64 k, .int .i64 n, .str w, .slice ks.len ks.cells] pc), .bool true]) (.tup [.agg [.int .i64 k', .int .i64 n', .str w', .slice ks'.len ks'.cells], .bool true]) = true := same_of (by
      have : atC (Dat.mk k n w ks).cells pc = (Dat.mk k' n' w' ks').cells := by unfold atC; rw [ofCells_at, hpc, unZ_intL, hY]
      show PV.tup [.agg (atC (Dat.mk k n w ks).cells pc), .bool true] = _
      rw [this]; rfl)
    have b7 : isPh q pc = true := by rw [hq, hpc]; exact isPh_at (by omega)
    have b8 : same (.tup [.int .i64 (ofA' t pc), .int .i64 (ofE' t pc)]) (.tup [.int .i64 (a : Int), .int .i64 0]) = true := same_of (by unfold ofA' ofE'; rw [hpc, unZ_intL, hof])
    refine Q.seq fun K3 hK3 => ?_
    refine Q.block ?_
    refine Q.seq fun K4 hK4 => ?_
    refine SWP.runMQ (SLs [(115, [(44, true), (45, true)])] [(115, [(45, .slice q pc), (46, .tup [.agg [.int .i64 k', .int .i64 n', .str w', .slice ks'.len ks'.cells], .bool true])])]) 100 115 hnt [] [3, 4, 7, 8, 9] (z := ⟨[(3, .str t), (4, .ptr 0 0), (7, .slice M cs), (8, .int .i64 j), (9, .ptr 1 0)], ⟨[dB k n w ks, dB k' n' w' ks'], []⟩⟩) (o := [(decide (0 ≤ (j : Int) ∧ (j : Int) < (M : Int)), true), (decide (1 ≤ List.length (List.drop (Int.toNat (j : Int) * 1) cs)), true), (same (List.headD (List.drop (Int.toNat (j : Int) * 1) cs) .junk) (.slice q pc), true), (true, true), (isAt [.int .i64 k, .int .i64 n, .str w, .slice ks.len ks.cells] q pc, true), (same (.tup [.agg (atC [.int .i64 k, .int .i64 n, .str w, .slice ks.len ks.cells] pc), .bool true]) (.tup [.agg [.int .i64 k', .int .i64 n', .str w', .slice ks'.len ks'.cells], .bool true]), true)]) (by kernel_rfl) (by kernel_rfl) (by ((repeat' (first | exact okO_nil | refine okN ?_ ?_)); all_goals first | assumption | rfl | exact same_of rfl | exact sameS_self _ | (simp only [decide_eq_true_eq, decide_eq_false_iff_not, Nat.ble_eq, Nat.beq_eq, beq_eq_false_iff_ne, beq_iff_eq, ne_eq] <;> omega))) (fun st hst => hK4 st (.norm [3, 4, 7, 8, 9] ?_))
    rw [hst]
    clear hst hK4 K4
    refine Q.runSeq (SLs [(115, [(53, true), (54, true)])] [(115, [(54, .slice q pc), (55, .tup [.int .i64 (a : Int), .int .i64 0])])]) 100 115 hnt [3, 4, 7, 8, 9, 11, 12] (z := ⟨[(3, .str t), (4, .ptr 0 0), (7, .slice M cs), (8, .int .i64 j), (9, .ptr 1 0), (11, .int .i64 (a : Int)), (12, .int .i64 0)], ⟨[dB k n w ks, dB k' n' w' ks'], []⟩⟩) (o := [(decide (0 ≤ (j : Int) ∧ (j : Int) < (M : Int)), true), (decide (1 ≤ List.length (List.drop (Int.toNat (j : Int) * 1) cs)), true), (same (List.headD (List.drop (Int.toNat (j : Int) * 1) cs) .junk) (.slice q pc), true), (true, true), (isPh q pc, true), (same (.tup [.int .i64 (ofA' t pc), .int .i64 (ofE' t pc)]) (.tup [.int .i64 (a : Int), .int .i64 0]), true)]) (by kernel_rfl) (by ((repeat' (first | exact okO_nil | refine okN ?_ ?_)); all_goals first | assumption | rfl | exact same_of rfl | exact sameS_self _ | (simp only [decide_eq_true_eq, decide_eq_false_iff_not, Nat.ble_eq, Nat.beq_eq, beq_eq_false_iff_ne, beq_iff_eq, ne_eq] <;> omega))) ?_
    have b9 : decide ((t.size : Int) ≤ (a : Int)) = false := by rw [decide_eq_false_iff_not]; omega
    refine Q.runSeq (SLs [(115, [(62, false), (68, false)])] []) 100 115 hnt [3, 4, 7, 8, 9, 11] (z := ⟨[(3, .str t), (4, .ptr 0 0), (7, .slice M cs), (8, .int .i64 (Int.ofNat j)), (9, .ptr 1 0), (11, .int .i64 (Int.ofNat a))], ⟨[⟨[.int .i64 k, .int .i64 n, .str w, .slice (Dats.len ks) (Dats.cells ks)], 25⟩, ⟨[.int .i64 k', .int .i64 n', .str w', .slice (Dats.len ks') (Dats.cells ks')], 25⟩], []⟩⟩) (o := [(false, false), (decide ((↑(ByteArray.size t) : Int) ≤ (↑a : Int)), false)]) (by kernel_rfl) (by ((repeat' (first | exact okO_nil | refine okN ?_ ?_)); all_goals first | assumption | rfl | exact same_of rfl | exact sameS_self _ | (simp only [decide_eq_true_eq, decide_eq_false_iff_not, Nat.ble_eq, Nat.beq_eq, beq_eq_false_iff_ne, beq_iff_eq, ne_eq] <;> omega))) ?_
    have b10 : decide (0 ≤ (a : Int) ∧ (a : Int) < (t.size : Int)) = true := by rw [decide_eq_true_eq]; omega
    clear b1 b2 b3 b4 b5 b6 b7 b8 b9
    refine Q.seq fun K5 hK5 => ?_
    have key : ∀ f : Bool, (f = true ∨ ∃ b : Nat, a + 1 ≤ b ∧ b ≤ t.size ∧ onE (t.extract a b) = 0 ∧ (onX (t.extract a b)).dat = .mk k' n' w' ks') → ∀ st, nrm [3, 4, 7, 8, 9, 11, 13] st = ⟨[(3, .str t), (4, .ptr 0 0), (7, .slice M cs), (8, .int .i64 j), (9, .ptr 1 0), (11, .int .i64 (a : Int)), (13, .bool f)], ⟨[dB k n w ks, dB k' n' w' ks'], []⟩⟩ → K5 st := fun f hf st hst => hK5 st (.norm [3, 4, 7, 8, 9, 11, 13] (by
      rw [hst]
      have wa : IntKind.wrap IntKind.i64 (Int.ofNat (a + 1)) = ((a + 1 : Nat) : Int) := wrapI (a + 1) (by omega)
      refine Q.seq fun K6 hK6 => ?_
      refine Q.runSeq (SLs [] []) 100 115 hnt [3, 4, 7, 8, 9, 11, 13, 14] (z := ⟨[(3, .str t), (4, .ptr 0 0), (7, .slice M cs), (8, .int .i64 (Int.ofNat j)), (9, .ptr 1 0), (11, .int .i64 (Int.ofNat a)), (13, .bool f), (14, .int .i64 (IntKind.wrap IntKind.i64 (Int.ofNat (a + 1))))], ⟨[⟨[.int .i64 k, .int .i64 n, .str w, .slice (Dats.len ks) (Dats.cells ks)], 25⟩, ⟨[.int .i64 k', .int .i64 n', .str w', .slice (Dats.len ks') (Dats.cells ks')], 25⟩], []⟩⟩) (o := []) (by kernel_rfl) (by ((repeat' (first | exact okO_nil | refine okN ?_ ?_)); all_goals first | assumption | rfl | exact same_of rfl | exact sameS_self _ | (simp only [decide_eq_true_eq, decide_eq_false_iff_not, Nat.ble_eq, Nat.beq_eq, beq_eq_false_iff_ne, beq_iff_eq, ne_eq] <;> omega))) ?_
      rw [wa]
      refine Q.block ?_
      let U (f : Bool) (u : Nat) : AS := ⟨[(3, .str t), (4, .ptr 0 0), (7, .slice M cs), (8, .int .i64 j), (9, .ptr 1 0), (11, .int .i64 (a : Int)), (13, .bool f), (14, .int .i64 (u : Int))], ⟨[dB k n w ks, dB k' n' w' ks'], []⟩⟩
      refine Q.loopH (σ := { x : Bool × Nat // a + 1 ≤ x.2 ∧ x.2 ≤ t.size + 1 ∧ (x.1 = true ∨ ∃ b : Nat, x.2 ≤ b ∧ b ≤ t.size ∧ onE (t.extract a b) = 0 ∧ (onX (t.extract a b)).dat = .mk k' n' w' ks') }) [3, 4, 7, 8, 9, 11, 13, 14] 2 (by rw [hnb]; exact Nat.zero_le _) (fun x => U x.1.1 x.1.2) (fun x => t.size + 2 - x.1.2) ⟨(f, a + 1), Nat.le_refl _, by omega, hf⟩ (fun x => ⟨rfl, rfl, rfl⟩) ⟨[], by simp only [List.append_nil]; rfl⟩ fun ⟨(g, u), hu1, hu2, hu3⟩ => ?_
      have hu1 : a + 1 ≤ u := hu1
      have hu2 : u ≤ t.size + 1 := hu2
      have hu3 : g = true ∨ ∃ b : Nat, u ≤ b ∧ b ≤ t.size ∧ onE (t.extract a b) = 0 ∧ (onX (t.extract a b)).dat = .mk k' n' w' ks' := hu3
      have wu : IntKind.wrap IntKind.i64 (Int.ofNat (u + 1)) = ((u + 1 : Nat) : Int) := wrapI (u + 1) (by omega)
      cases g with
      | true =>
        show SWP G0 C _ _ ⟨[(3, .str t), (4, .ptr 0 0), (7, .slice M cs), (8, .int .i64 j), (9, .ptr 1 0), (11, .int .i64 (a : Int)), (13, .bool true), (14, .int .i64 (u : Int))], ⟨[dB k n w ks, dB k' n' w' ks'], []⟩⟩
        have fin2 : ∀ st, nrm [3, 4, 7, 8, 13] st = ⟨[(3, .str t), (4, .ptr 0 0), (7, .slice M cs), (8, .int .i64 j), (13, .bool true)], ⟨[dB k n w ks, dB k' n' w' ks'], []⟩⟩ → K6 st := fun st hst => hK6 st (.norm [3, 4, 7, 8, 13] (by
          rw [hst]
          refine SWP.runQ (SLs [] []) 100 115 hnt [3, 4, 7, 8] (e := .normal) (z := ⟨[(3, .str t), (4, .ptr 0 0), (7, .slice M cs), (8, .int .i64 (Int.ofNat j))], ⟨[⟨[.int .i64 k, .int .i64 n, .str w, .slice (Dats.len ks) (Dats.cells ks)], 25⟩, ⟨[.int .i64 k', .int .i64 n', .str w', .slice (Dats.len ks') (Dats.cells ks')], 25⟩], []⟩⟩) (o := []) (by kernel_rfl) (by ((repeat' (first | exact okO_nil | refine okN ?_ ?_)); all_goals first | assumption | rfl | exact same_of rfl | exact sameS_self _ | (simp only [decide_eq_true_eq, decide_eq_false_iff_not, Nat.ble_eq, Nat.beq_eq, beq_eq_false_iff_ne, beq_iff_eq, ne_eq] <;> omega))) (fun st hst => hK3 st (.norm [3, 4, 7, 8] ?_))
          rw [hst]
          have wj : IntKind.wrap IntKind.i64 (Int.ofNat (j + 1)) = ((j + 1 : Nat) : Int) := wrapI (j + 1) (by omega)
          exact SWP.runQ (SLs [] []) 100 115 hnt [3, 4, 7, 8] (e := .normal) (z := ⟨[(3, .str t), (4, .ptr 0 0), (7, .slice M cs), (8, .int .i64 (IntKind.wrap IntKind.i64 (Int.ofNat (j + 1))))], ⟨[⟨[.int .i64 k, .int .i64 n, .str w, .slice (Dats.len ks) (Dats.cells ks)], 25⟩, ⟨[.int .i64 k', .int .i64 n', .str w', .slice (Dats.len ks') (Dats.cells ks')], 25⟩], []⟩⟩) (o := []) (by kernel_rfl) (by ((repeat' (first | exact okO_nil | refine okN ?_ ?_)); all_goals first | assumption | rfl | exact same_of rfl | exact sameS_self _ | (simp only [decide_eq_true_eq, decide_eq_false_iff_not, Nat.ble_eq, Nat.beq_eq, beq_eq_false_iff_ne, beq_iff_eq, ne_eq] <;> omega))) (fun st hst => ⟨⟨j + 1, hlt⟩, Nat.sub_lt_sub_left hlt (Nat.lt_succ_self j), [dB k' n' w' ks'], by rw [hst, wj]; rfl⟩)))
        by_cases hle : u ≤ t.size
        · have g1 : decide ((u : Int) ≤ (t.size : Int)) = true := by rw [decide_eq_true_eq]; omega
          exact SWP.runQ (SLs [(115, [(89, true)])] []) 100 115 hnt [3, 4, 7, 8, 13] (e := .exit 2) (z := ⟨[(3, .str t), (4, .ptr 0 0), (7, .slice M cs), (8, .int .i64 (Int.ofNat j)), (13, .bool true)], ⟨[⟨[.int .i64 k, .int .i64 n, .str w, .slice (Dats.len ks) (Dats.cells ks)], 25⟩, ⟨[.int .i64 k', .int .i64 n', .str w', .slice (Dats.len ks') (Dats.cells ks')], 25⟩], []⟩⟩) (o := [(decide ((↑u : Int) ≤ (↑(ByteArray.size t) : Int)), true)]) (by kernel_rfl) (by ((repeat' (first | exact okO_nil | refine okN ?_ ?_)); all_goals first | assumption | rfl | exact same_of rfl | exact sameS_self _ | (simp only [decide_eq_true_eq, decide_eq_false_iff_not, Nat.ble_eq, Nat.beq_eq, beq_eq_false_iff_ne, beq_iff_eq, ne_eq] <;> omega))) (fun st hst => fin2 st hst)
        · have g1 : decide ((u : Int) ≤ (t.size : Int)) = false := by rw [decide_eq_false_iff_not]; omega
          exact SWP.runQ (SLs [(115, [(89, false)])] []) 100 115 hnt [3, 4, 7, 8, 13] (e := .exit 2) (z := ⟨[(3, .str t), (4, .ptr 0 0), (7, .slice M cs), (8, .int .i64 (Int.ofNat j)), (13, .bool true)], ⟨[⟨[.int .i64 k, .int .i64 n, .str w, .slice (Dats.len ks) (Dats.cells ks)], 25⟩, ⟨[.int .i64 k', .int .i64 n', .str w', .slice (Dats.len ks') (Dats.cells ks')], 25⟩], []⟩⟩) (o := [(decide ((↑u : Int) ≤ (↑(ByteArray.size t) : Int)), false)]) (by kernel_rfl) (by ((repeat' (first | exact okO_nil | refine okN ?_ ?_)); all_goals first | assumption | rfl | exact same_of rfl | exact sameS_self _ | (simp only [decide_eq_true_eq, decide_eq_false_iff_not, Nat.ble_eq, Nat.beq_eq, beq_eq_false_iff_ne, beq_iff_eq, ne_eq] <;> omega))) (fun st hst => fin2 st hst)
      | false =>
        show SWP G0 C _ _ ⟨[(3, .str t), (4, .ptr 0 0), (7, .slice M cs), (8, .int .i64 j), (9, .ptr 1 0), (11, .int .i64 (a : Int)), (13, .bool false), (14, .int .i64 (u : Int))], ⟨[dB k n w ks, dB k' n' w' ks'], []⟩⟩
        rcases hu3 with h | ⟨b, hub, hbt, hb1, hb2⟩
        · cases h
        obtain ⟨v, hv2⟩ : ∃ v, v = t.extract a u := ⟨_, rfl⟩
        have g1 : decide ((u : Int) ≤ (t.size : Int)) = true := by rw [decide_eq_true_eq]; omega
        have g2 : decide (0 ≤ (a : Int) ∧ (a : Int) ≤ (u : Int) ∧ (u : Int) ≤ (t.size : Int)) = true := by rw [decide_eq_true_eq]; omega
        have g3 : same (.str (ByteArray.extract t (Int.toNat (Int.ofNat a)) (Int.toNat (Int.ofNat u)))) (.str v) = true := same_of (by rw [hv2]; rfl)
        by_cases hve : onE v = 0
        · have g4 : (onE v == (0 : Int)) = true := beqT hve
          have g5 : isOk [.int .i64 k', .int .i64 n', .str w', .slice ks'.len ks'.cells] = true := isOk_at (d := .mk k' n' w' ks') hYok
          have g6 : isOk (ndJ (onX v)) = true := by
            have := isOk_at (Nd.dat_okS _ (onX_ok v))
            obtain ⟨k2, n2, w2, x2, a2, h2⟩ := nd_mk (onX v)
            rw [h2] at this ⊢
            exact this
          exact SWP.runQ (SLs [(115, [(89, true), (100, true), (106, true)])] [(115, [(100, .str v)])]) 100 115 hnt [3, 4, 7, 8, 9, 11, 13, 14] (e := .normal) (z := ⟨[(3, .str t), (4, .ptr 0 0), (7, .slice M cs), (8, .int .i64 (Int.ofNat j)), (9, .ptr 1 0), (11, .int .i64 (Int.ofNat a)), (13, .bool (eqC [.int .i64 k', .int .i64 n', .str w', .slice (Dats.len ks') (Dats.cells ks')] [.int .i64 (ndK (onX v)), .int .i64 (ndN (onX v)), .str (ndT (onX v)), .slice (Dats.len (Nds.dat (ndS (onX v)))) (Dats.cells (Nds.dat (ndS (onX v))))])), (14, .int .i64 (IntKind.wrap IntKind.i64 (Int.ofNat (u + 1))))], ⟨[⟨[.int .i64 k, .int .i64 n, .str w, .slice (Dats.len ks) (Dats.cells ks)], 25⟩, ⟨[.int .i64 k', .int .i64 n', .str w', .slice (Dats.len ks') (Dats.cells ks')], 25⟩, ⟨[.int .i64 (ndK (onX v)), .int .i64 (ndN (onX v)), .str (ndT (onX v)), .slice (Dats.len (Nds.dat (ndS (onX v)))) (Dats.cells (Nds.dat (ndS (onX v))))], 25⟩], []⟩⟩) (o := [(decide ((↑u : Int) ≤ (↑(ByteArray.size t) : Int)), true), (decide (0 ≤ (↑a : Int) ∧ (↑a : Int) ≤ (↑u : Int) ∧ (↑u : Int) ≤ (↑(ByteArray.size t) : Int)), true), (same (.str (ByteArray.extract t (Int.toNat (Int.ofNat a)) (Int.toNat (Int.ofNat u)))) (.str v), true), (true, true), (onE v == (0 : Int), true), (true, true), (isOk [PV.int IntKind.i64 k', PV.int IntKind.i64 n', PV.str w', PV.slice (Dats.len ks') (Dats.cells ks')], true), (isOk [PV.int IntKind.i64 (ndK (onX v)), PV.int IntKind.i64 (ndN (onX v)), PV.str (ndT (onX v)), PV.slice (Dats.len (Nds.dat (ndS (onX v)))) (Dats.cells (Nds.dat (ndS (onX v))))], true)]) (by kernel_rfl) (by ((repeat' (first | exact okO_nil | refine okN ?_ ?_)); all_goals first | assumption | rfl | exact same_of rfl | exact sameS_self _ | (simp only [decide_eq_true_eq, decide_eq_false_iff_not, Nat.ble_eq, Nat.beq_eq, beq_eq_false_iff_ne, beq_iff_eq, ne_eq] <;> omega))) (fun st hst => ⟨⟨(eqC [.int .i64 k', .int .i64 n', .str w', .slice ks'.len ks'.cells] (ndJ (onX v)), u + 1), by omega, by omega, by
            by_cases hub2 : u = b
            · refine .inl ?_
              subst hub2
              rw [← hv2] at hb2
              have e3 : ndJ (onX v) = (onX v).dat.cells := by
                obtain ⟨k2, n2, w2, x2, a2, h2⟩ := nd_mk (onX v)
                rw [h2]; rfl
              show eqC (Dat.mk k' n' w' ks').cells (ndJ (onX v)) = true
              rw [e3, eqC_at, hb2]
              exact eqD_selfS _
            · exact .inr ⟨b, by show u + 1 ≤ b; omega, hbt, hb1, hb2⟩⟩, by show t.size + 2 - (u + 1) < t.size + 2 - u; omega, [⟨ndJ (onX v), 25⟩], by rw [hst, wu]; rfl⟩)
        · have g4 : (onE v == (0 : Int)) = false := beqF hve
          exact SWP.runQ (SLs [(115, [(89, true), (100, true), (106, false)])] [(115, [(100, .str v)])]) 100 115 hnt [3, 4, 7, 8, 9, 11, 13, 14] (e := .normal) (z := ⟨[(3, .str t), (4, .ptr 0 0), (7, .slice M cs), (8, .int .i64 (Int.ofNat j)), (9, .ptr 1 0), (11, .int .i64 (Int.ofNat a)), (13, .bool false), (14, .int .i64 (IntKind.wrap IntKind.i64 (Int.ofNat (u + 1))))], ⟨[⟨[.int .i64 k, .int .i64 n, .str w, .slice (Dats.len ks) (Dats.cells ks)], 25⟩, ⟨[.int .i64 k', .int .i64 n', .str w', .slice (Dats.len ks') (Dats.cells ks')], 25⟩, ⟨[.int .i64 (ndK (onX v)), .int .i64 (ndN (onX v)), .str (ndT (onX v)), .slice (Dats.len (Nds.dat (ndS (onX v)))) (Dats.cells (Nds.dat (ndS (onX v))))], 25⟩], []⟩⟩) (o := [(decide ((↑u : Int) ≤ (↑(ByteArray.size t) : Int)), true), (decide (0 ≤ (↑a : Int) ∧ (↑a : Int) ≤ (↑u : Int) ∧ (↑u : Int) ≤ (↑(ByteArray.size t) : Int)), true), (same (.str (ByteArray.extract t (Int.toNat (Int.ofNat a)) (Int.toNat (Int.ofNat u)))) (.str v), true), (true, true), (onE v == (0 : Int), false)]) (by kernel_rfl) (by ((repeat' (first | exact okO_nil | refine okN ?_ ?_)); all_goals first | assumption | rfl | exact same_of rfl | exact sameS_self _ | (simp only [decide_eq_true_eq, decide_eq_false_iff_not, Nat.ble_eq, Nat.beq_eq, beq_eq_false_iff_ne, beq_iff_eq, ne_eq] <;> omega))) (fun st hst => ⟨⟨(false, u + 1), by omega, by omega, by
            by_cases hub2 : u = b
            · subst hub2
              rw [hv2] at hve
              exact absurd hb1 hve
            · exact .inr ⟨b, by show u + 1 ≤ b; omega, hbt, hb1, hb2⟩⟩, by show t.size + 2 - (u + 1) < t.size + 2 - u; omega, [⟨ndJ (onX v), 25⟩], by rw [hst, wu]; rfl⟩)))
    have hno : ¬ (bt t (a : Int) = 39 ∧ k' = 2 ∧ w' = wQuote) → ∃ b : Nat, a + 1 ≤ b ∧ b ≤ t.size ∧ onE (t.extract a b) = 0 ∧ (onX (t.extract a b)).dat = .mk k' n' w' ks' := fun h => by
      rcases hcase with ⟨c1, c2⟩ | ⟨b, c1, c2, c3, c4⟩
      · simp only [Dat.mk.injEq] at c2
        exact absurd ⟨c1, c2.1, c2.2.2.1⟩ h
      · exact ⟨b, c1, c2, c3, c4⟩
    by_cases q1 : bt t (a : Int) = 39
    · have q2 : (bt t (Int.ofNat a) == (39 : Int)) = true := beqT q1
      by_cases q3 : k' = 2
      · have q4 : (k' == (2 : Int)) = true := beqT q3
        cases q5 : (w'.toList == wQuote.toList) with
        | true => exact SWP.runQ (SLs [(115, [(72, true), (73, true), (77, true), (82, true)])] []) 100 115 hnt [3, 4, 7, 8, 9, 11, 13] (e := .normal) (z := ⟨[(3, .str t), (4, .ptr 0 0), (7, .slice M cs), (8, .int .i64 (Int.ofNat j)), (9, .ptr 1 0), (11, .int .i64 (Int.ofNat a)), (13, .bool true)], ⟨[⟨[.int .i64 k, .int .i64 n, .str w, .slice (Dats.len ks) (Dats.cells ks)], 25⟩, ⟨[.int .i64 k', .int .i64 n', .str w', .slice (Dats.len ks') (Dats.cells ks')], 25⟩], []⟩⟩) (o := [(decide (0 ≤ (a : Int) ∧ (a : Int) < (t.size : Int)), true), (bt t (Int.ofNat a) == (39 : Int), true), (k' == (2 : Int), true), (w'.toList == wQuote.toList, true)]) (by kernel_rfl) (by ((repeat' (first | exact okO_nil | refine okN ?_ ?_)); all_goals first | assumption | rfl | exact same_of rfl | exact sameS_self _ | (simp only [decide_eq_true_eq, decide_eq_false_iff_not, Nat.ble_eq, Nat.beq_eq, beq_eq_false_iff_ne, beq_iff_eq, ne_eq] <;> omega))) (fun st hst => key true (.inl rfl) st hst)
        | false => exact SWP.runQ (SLs [(115, [(72, true), (73, true), (77, true), (82, false)])] []) 100 115 hnt [3, 4, 7, 8, 9, 11, 13] (e := .normal) (z := ⟨[(3, .str t), (4, .ptr 0 0), (7, .slice M cs), (8, .int .i64 (Int.ofNat j)), (9, .ptr 1 0), (11, .int .i64 (Int.ofNat a)), (13, .bool false)], ⟨[⟨[.int .i64 k, .int .i64 n, .str w, .slice (Dats.len ks) (Dats.cells ks)], 25⟩, ⟨[.int .i64 k', .int .i64 n', .str w', .slice (Dats.len ks') (Dats.cells ks')], 25⟩], []⟩⟩) (o := [(decide (0 ≤ (a : Int) ∧ (a : Int) < (t.size : Int)), true), (bt t (Int.ofNat a) == (39 : Int), true), (k' == (2 : Int), true), (w'.toList == wQuote.toList, false)]) (by kernel_rfl) (by ((repeat' (first | exact okO_nil | refine okN ?_ ?_)); all_goals first | assumption | rfl | exact same_of rfl | exact sameS_self _ | (simp only [decide_eq_true_eq, decide_eq_false_iff_not, Nat.ble_eq, Nat.beq_eq, beq_eq_false_iff_ne, beq_iff_eq, ne_eq] <;> omega))) (fun st hst => key false (.inr (hno fun h => by rw [h.2.2, beq_self_eq_true] at q5; cases q5)) st hst)
      · have q4 : (k' == (2 : Int)) = false := beqF q3
        exact SWP.runQ (SLs [(115, [(72, true), (73, true), (77, false)])] []) 100 115 hnt [3, 4, 7, 8, 9, 11, 13] (e := .normal) (z := ⟨[(3, .str t), (4, .ptr 0 0), (7, .slice M cs), (8, .int .i64 (Int.ofNat j)), (9, .ptr 1 0), (11, .int .i64 (Int.ofNat a)), (13, .bool false)], ⟨[⟨[.int .i64 k, .int .i64 n, .str w, .slice (Dats.len ks) (Dats.cells ks)], 25⟩, ⟨[.int .i64 k', .int .i64 n', .str w', .slice (Dats.len ks') (Dats.cells ks')], 25⟩], []⟩⟩) (o := [(decide (0 ≤ (↑a : Int) ∧ (↑a : Int) < (↑(ByteArray.size t) : Int)), true), (bt t (Int.ofNat a) == (39 : Int), true), (k' == (2 : Int), false)]) (by kernel_rfl) (by ((repeat' (first | exact okO_nil | refine okN ?_ ?_)); all_goals first | assumption | rfl | exact same_of rfl | exact sameS_self _ | (simp only [decide_eq_true_eq, decide_eq_false_iff_not, Nat.ble_eq, Nat.beq_eq, beq_eq_false_iff_ne, beq_iff_eq, ne_eq] <;> omega))) (fun st hst => key false (.inr (hno fun h => q3 h.2.1)) st hst)
    · have q2 : (bt t (Int.ofNat a) == (39 : Int)) = false := beqF q1
      exact SWP.runQ (SLs [(115, [(72, true), (73, false)])] []) 100 115 hnt [3, 4, 7, 8, 9, 11, 13] (e := .normal) (z := ⟨[(3, .str t), (4, .ptr 0 0), (7, .slice M cs), (8, .int .i64 (Int.ofNat j)), (9, .ptr 1 0), (11, .int .i64 (Int.ofNat a)), (13, .bool false)], ⟨[⟨[.int .i64 k, .int .i64 n, .str w, .slice (Dats.len ks) (Dats.cells ks)], 25⟩, ⟨[.int .i64 k', .int .i64 n', .str w', .slice (Dats.len ks') (Dats.cells ks')], 25⟩], []⟩⟩) (o := [(decide (0 ≤ (↑a : Int) ∧ (↑a : Int) < (↑(ByteArray.size t) : Int)), true), (bt t (Int.ofNat a) == (39 : Int), false)]) (by kernel_rfl) (by ((repeat' (first | exact okO_nil | refine okN ?_ ?_)); all_goals first | assumption | rfl | exact same_of rfl | exact sameS_self _ | (simp only [decide_eq_true_eq, decide_eq_false_iff_not, Nat.ble_eq, Nat.beq_eq, beq_eq_false_iff_ne, beq_iff_eq, ne_eq] <;> omega))) (fun st hst => key false (.inr (hno fun h => q1 h.1)) st hst)
  · have b1 := ge_at hge
    refine SWP.runQ (SLs [(115, [(37, false)])] []) 100 115 hnt [] (e := .exit 0) (z := ⟨[], ⟨[⟨[.int .i64 k, .int .i64 n, .str w, .slice (Dats.len ks) (Dats.cells ks)], 25⟩], []⟩⟩) (o := [(decide ((↑j : Int) < (↑M : Int)), false), (false, false)]) (by kernel_rfl) (by ((repeat' (first | exact okO_nil | refine okN ?_ ?_)); all_goals first | assumption | rfl | exact same_of rfl | exact sameS_self _ | (simp only [decide_eq_true_eq, decide_eq_false_iff_not, Nat.ble_eq, Nat.beq_eq, beq_eq_false_iff_ne, beq_iff_eq, ne_eq] <;> omega))) (fun st hst => hK st (.norm [] ?_))
    rw [hst]
    exact SWP.runQ (SLs [] []) 100 115 hnt [2] (e := .ret) (z := ⟨[(2, .bool true)], ⟨[⟨[.int .i64 k, .int .i64 n, .str w, .slice (Dats.len ks) (Dats.cells ks)], 25⟩], []⟩⟩) (o := [(true, true)]) (by kernel_rfl) (by ((repeat' (first | exact okO_nil | refine okN ?_ ?_)); all_goals first | assumption | rfl | exact same_of rfl | exact sameS_self _ | (simp only [decide_eq_true_eq, decide_eq_false_iff_not, Nat.ble_eq, Nat.beq_eq, beq_eq_false_iff_ne, beq_iff_eq, ne_eq] <;> omega))) (fun st hst => fin st _ hst)
end Seat
end Go.Proofs.YtenpjkcclmmlhaaDoor
namespace Go.Proofs.YtenpjkcclmmlhaaDoor
open Go.ChangeShapes Go.WideShapes Go.ChangeAt Go.RowKit
set_option linter.unusedVariables false
set_option maxRecDepth 100000
namespace Seat
def putG (h : Array Obj) (g : Nat) (cs : Array Value) : Array Obj := h.modify g fun
  | .cells _ t frozen => .cells cs t frozen
  | o => o
noncomputable def laidWorld (os : Os) : World :=
  let w0 := World.holding Tryd.prog os ⟨#[.cells #[.string ⟨#[118, 97, 108, 117, 101, 32, 111, 117, 116, 32, 111, 102, 32, 114, 97, 110, 103, 101]⟩] 156, .cells #[.string ⟨#[105, 110, 118, 97, 108, 105, 100, 32, 115, 121, 110, 116, 97, 120]⟩] 156], #[], []⟩
  { w0 with heap := putG (putG (putG (putG (putG (w0.heap) 4 #[.int .u8 0, .int .u8 1, .int .u8 28, .int .u8 2, .int .u8 29, .int .u8 14, .int .u8 24, .int .u8 3, .int .u8 30, .int .u8 22, .int .u8 20, .int .u8 15, .int .u8 25, .int .u8 17, .int .u8 4, .int .u8 8, .int .u8 31, .int .u8 27, .int .u8 13, .int .u8 23, .int .u8 21, .int .u8 19, .int .u8 16, .int .u8 7, .int .u8 26, .int .u8 12, .int .u8 18, .int .u8 6, .int .u8 11, .int .u8 5, .int .u8 10, .int .u8 9]) 5 #[.int .u8 0, .int .u8 1, .int .u8 56, .int .u8 2, .int .u8 57, .int .u8 49, .int .u8 28, .int .u8 3, .int .u8 61, .int .u8 58, .int .u8 42, .int .u8 50, .int .u8 38, .int .u8 29, .int .u8 17, .int .u8 4, .int .u8 62, .int .u8 47, .int .u8 59, .int .u8 36, .int .u8 45, .int .u8 43, .int .u8 51, .int .u8 22, .int .u8 53, .int .u8 39, .int .u8 33, .int .u8 30, .int .u8 24, .int .u8 18, .int .u8 12, .int .u8 5, .int .u8 63, .int .u8 55, .int .u8 48, .int .u8 27, .int .u8 60, .int .u8 41, .int .u8 37, .int .u8 16, .int .u8 46, .int .u8 35, .int .u8 44, .int .u8 21, .int .u8 52, .int .u8 32, .int .u8 23, .int .u8 11, .int .u8 54, .int .u8 26, .int .u8 40, .int .u8 15, .int .u8 34, .int .u8 20, .int .u8 31, .int .u8 10, .int .u8 25, .int .u8 14, .int .u8 19, .int .u8 9, .int .u8 13, .int .u8 8, .int .u8 7, .int .u8 6]) 1 #[.int .u64 1, .int .u64 10, .int .u64 100, .int .u64 1000, .int .u64 10000, .int .u64 100000, .int .u64 1000000, .int .u64 10000000, .int .u64 100000000, .int .u64 1000000000, .int .u64 10000000000, .int .u64 100000000000, .int .u64 1000000000000, .int .u64 10000000000000, .int .u64 100000000000000, .int .u64 1000000000000000, .int .u64 10000000000000000, .int .u64 100000000000000000, .int .u64 1000000000000000000, .int .u64 10000000000000000000]) 3 #[.iface 154 (.pointer (some ⟨(World.settled Tryd.prog os).heap.size + 0, 0, none⟩))]) 2 #[.iface 154 (.pointer (some ⟨(World.settled Tryd.prog os).heap.size + 1, 0, none⟩))] }
theorem laid_met (os : Os) (args : Array Value) : laidMet Tryd.prog Rows.readerReadsRow.laid ((laidWorld os).forCall (fun _ _ => 0) ⟨#[], args, []⟩).memory :=
  laidMet_of_run' 9 (by kernel_rfl) (by kernel_rfl)
theorem own : ownKnob Tryd.prog.godebug = none := by kernel_rfl
end Seat
end Go.Proofs.YtenpjkcclmmlhaaDoor
namespace Go.AS
open Go.ChangeShapes Go.WideShapes Go.ChangeAt Go.RowKit
set_option linter.unusedVariables false
set_option linter.unusedSimpArgs false
section
variable {H : Type} {enc : TypeId × Value → H} {P : Program} {w w' : World} {base : Nat} {held : Bool}
structure Flat (P : Program) (S : TypeId → Prop) : Prop where
  at' : ∀ t, S t → P.underlying t = some .bool ∨ (∃ k, P.underlying t = some (.int k)) ∨ P.underlying t = some .string ∨ (∃ e, P.underlying t = some (.slice e) ∧ S e ∧ 0 < P.cellsOf e) ∨ (∃ fs, P.underlying t = some (.struct fs) ∧ ∀ f ∈ fs.toList, S f.type)
theorem cells?_move {a : Addr} {n : Nat} {cs : List Value} (hw : ∀ a v, w.cell? a = some v → w'.cell? a = some v) (h : w.cells? base a n = some cs) : w'.cells? 0 a n = some cs := by
  obtain ⟨_, hl, hc⟩ := World.cells?_some h
  unfold World.cells?
  rw [if_pos (Nat.zero_le _)]
  refine mapM_some_of_get _ _ (by simp [hl]) fun i x hx => ?_
  have hi : i < n := by have := (List.getElem?_eq_some_iff.1 hx).1; simpa using this
  rw [List.getElem?_range hi] at hx
  cases hx
  rw [← hc i hi]
  cases hv : w.cell? (a.add i) with
  | none => rw [hc i hi] at hv; rw [List.getElem?_eq_none_iff] at hv; omega
  | some v => exact hw _ _ hv
theorem trod_move {S : TypeId → Prop} (hS : Flat P S) (hw : ∀ a v, w.cell? a = some v → w'.cell? a = some v) (sp : Nat → Bool) : ∀ (m : Nat) (t : TypeId) (cs : List Value) (x : DataW H × List MemPlace), S t → DataW.trod enc P w base (fun _ => true) held m t cs = some x → (∀ q ∈ x.2, sp q.block = true) → DataW.trod enc P w' 0 sp held m t cs = some x := by
  intro m
  induction m with
  | zero => intro t cs x _ h; simp [DataW.trod] at h
  | succ m ih =>
    intro t cs x ht h hp
    rcases hS.at' t ht with hu | ⟨k, hu⟩ | hu | ⟨e, hu, he, hpos⟩ | ⟨fs, hu, hfs⟩
    · obtain ⟨b, rfl, rfl⟩ := DataW.trod_bool hu h
      unfold DataW.trod
      rw [hu]
    · obtain ⟨n, rfl, rfl, hwf⟩ := DataW.trod_int hu h
      exact trod_int_mk m hu hwf
    · obtain ⟨s, rfl, rfl, hs⟩ := DataW.trod_string hu h
      unfold DataW.trod
      rw [hu]
      simp [hs]
    · rcases DataW.trod_slice hu h with ⟨rfl, rfl⟩ | ⟨a, len, cap, elems, rest, n, hn, rfl, rfl, h1, h2, h3, h4, h5, h6, _⟩
      · unfold DataW.trod
        rw [hu]
        rfl
      · obtain rfl : m = n := by omega
        obtain ⟨h6, h7⟩ := h6 rfl
        have hin : ∀ y, y ∈ elems ∨ y ∈ rest → ∀ q ∈ y.2, sp q.block = true := fun y hy q hq => hp q (List.mem_append_right _ (List.mem_flatMap.2 ⟨y, List.mem_append.2 hy, hq⟩))
        have go : ∀ (i : Nat) (y : DataW H × List MemPlace), (w.cells? base (a.add (i * P.cellsOf e)) (P.cellsOf e)).bind (DataW.trod enc P w base (fun _ => true) held m e) = some y → (∀ q ∈ y.2, sp q.block = true) → (w'.cells? 0 (a.add (i * P.cellsOf e)) (P.cellsOf e)).bind (DataW.trod enc P w' 0 sp held m e) = some y := fun i y hy hq => by
          obtain ⟨cs, hcs, htr⟩ := Option.bind_eq_some_iff.1 hy
          rw [cells?_move hw hcs]
          exact ih e cs y he htr hq
        have e1 : (List.range len).mapM (fun i => (w'.cells? 0 (a.add (i * P.cellsOf e)) (P.cellsOf e)).bind (DataW.trod enc P w' 0 sp held m e)) = some elems := mapM_some_of_get _ _ (by simp [h4]) fun i y hy => by
          have hi : i < len := by have := (List.getElem?_eq_some_iff.1 hy).1; simpa using this
          rw [List.getElem?_range hi] at hy
          cases hy
          obtain ⟨z, hz⟩ : ∃ z, elems[i]? = some z := ⟨_, List.getElem?_eq_getElem (by omega)⟩
          rw [hz]
          exact go i z (by rw [h5 i hi, hz]) (hin z (.inl (List.mem_of_getElem? hz)))
        have e2 : (List.range (cap - len)).mapM (fun j => (w'.cells? 0 (a.add ((len + j) * P.cellsOf e)) (P.cellsOf e)).bind (DataW.trod enc P w' 0 sp held m e)) = some rest := mapM_some_of_get _ _ (by simp [h6]) fun i y hy => by
          have hi : i < cap - len := by have := (List.getElem?_eq_some_iff.1 hy).1; simpa using this
          rw [List.getElem?_range hi] at hy
          cases hy
          obtain ⟨z, hz⟩ : ∃ z, rest[i]? = some z := ⟨_, List.getElem?_eq_getElem (by omega)⟩
          rw [hz]
          exact go (len + i) z (by rw [h7 i hi, hz]) (hin z (.inr (List.mem_of_getElem? hz)))
        have e3 : (if sp a.block then (List.range (cap - len)).mapM (fun j => (w'.cells? 0 (a.add ((len + j) * P.cellsOf e)) (P.cellsOf e)).bind (DataW.trod enc P w' 0 sp held m e)) else some []) = some rest := by
          by_cases hz : (elems.length + rest.length) * P.cellsOf e = 0
          · have : rest = [] := by
              rcases Nat.mul_eq_zero.1 hz with h | h
              · exact List.eq_nil_of_length_eq_zero (by omega)
              · omega
            subst this
            split
            · exact e2
            · rfl
          · have : sp a.block = true := hp (.cell a.block (a.off + 0)) (List.mem_append_left _ (List.mem_map.2 ⟨0, List.mem_range.2 (by omega), rfl⟩))
            rw [if_pos this]
            exact e2
        unfold DataW.trod
        rw [hu]
        simp only [e1, e3, Option.bind_some, Option.map_some]
        rw [if_pos ⟨Nat.zero_le _, h2, h3⟩]
    · obtain ⟨xs, n, hn, rfl, hl, hlen, hf⟩ := DataW.trod_struct hu h
      obtain rfl : m = n := by omega
      refine trod_struct_mk hu hl (mapM_some_of_get _ _ (by simpa using hlen) fun i f hi => ?_)
      obtain ⟨y, hy⟩ : ∃ y, xs[i]? = some y := ⟨_, List.getElem?_eq_getElem (by have := (List.getElem?_eq_some_iff.1 hi).1; simp at this; omega)⟩
      rw [hy]
      exact ih f.type _ y (hfs f (List.mem_of_getElem? hi)) (by rw [hf i f (by simpa using hi), hy]) (fun q hq => hp q (List.mem_flatMap.2 ⟨y, List.mem_of_getElem? hy, hq⟩))
theorem cell_keep (hk : ∀ k, k < w.heap.size → w'.heap[k]? = w.heap[k]?) (a : Addr) (v : Value) (h : w.cell? a = some v) : w'.cell? a = some v := by
  rw [← h]
  have hb : a.block < w.heap.size := by
    rcases Nat.lt_or_ge a.block w.heap.size with h' | h'
    · exact h'
    · unfold World.cell? at h
      rw [show w.heap[a.block]? = none from Array.getElem?_eq_none h'] at h
      simp at h
  unfold World.cell?
  rw [hk _ hb]
theorem trodAll_move {S : TypeId → Prop} (hS : Flat P S) (hk : ∀ k, k < w.heap.size → w'.heap[k]? = w.heap[k]?) (sp : Nat → Bool) : ∀ (ts : List TypeId) (vs : List Value) (ds : List (DataW H)) (p : List MemPlace), (∀ t ∈ ts, S t) → DataW.TrodAll enc P w base (fun _ => true) held ts vs ds p → (∀ q ∈ p, sp q.block = true) → DataW.TrodAll enc P w' 0 sp held ts vs ds p
  | [], [], [], p, _, h, _ => h
  | t :: ts, v :: vs, d :: ds, p, ht, h, hp => by
    obtain ⟨p1, q1, ⟨m, h1⟩, h2, rfl⟩ := h
    exact ⟨p1, q1, ⟨m, trod_move hS (cell_keep hk) sp m t _ _ (ht t (by simp)) h1 fun q hq => hp q (List.mem_append_left _ hq)⟩, trodAll_move hS hk sp ts vs ds q1 (fun t h => ht t (by simp [h])) h2 (fun q hq => hp q (List.mem_append_right _ hq)), rfl⟩
  | [], _ :: _, _, _, _, h, _ => by simp [DataW.TrodAll] at h
  | [], [], _ :: _, _, _, h, _ => by simp [DataW.TrodAll] at h
  | _ :: _, [], _, _, _, h, _ => by simp [DataW.TrodAll] at h
  | _ :: _, _ :: _, [], _, _, h, _ => by simp [DataW.TrodAll] at h
end
end Go.AS
namespace Go.AS
open Go.RowKit
set_option linter.unusedVariables false
section
variable {G : Prg} {C : Ctx} {Q : AEx → AS → Prop} {st : AS}
end
section
variable {G : Prg} {C : Ctx} {Q : AEx → AS → Prop}
end
end Go.AS
namespace Go.Proofs.YtenpjkcclmmlhaaDoor.Seat
open Go.ChangeShapes Go.WideShapes Go.ChangeAt Go.RowKit Go.AS
set_option linter.unusedVariables false
set_option maxRecDepth 100000
def flatT (t : TypeId) : Prop := t = 3 ∨ t = 2 ∨ t = 9 ∨ t = 23 ∨ t = 25
theorem flat : Flat Tryd.prog flatT := ⟨fun t ht => by
  rcases ht with rfl | rfl | rfl | rfl | rfl
  · exact .inr (.inl ⟨_, Tryd.underlying3⟩)
  · exact .inr (.inl ⟨_, Tryd.underlying2⟩)
  · exact .inr (.inr (.inl Tryd.underlying9))
  · exact .inr (.inr (.inr (.inl ⟨_, Tryd.underlying23, .inr (.inr (.inr (.inr rfl))), by rw [show Tryd.prog.cellsOf 25 = 4 by kernel_rfl]; exact Nat.le_of_ble_eq_true rfl⟩)))
  · refine .inr (.inr (.inr (.inr ⟨_, Tryd.underlying25, fun f hf => ?_⟩)))
    simp only [List.mem_cons, List.not_mem_nil, or_false] at hf
    rcases hf with rfl | rfl | rfl | rfl
    · exact .inl rfl
    · exact .inr (.inl rfl)
    · exact .inr (.inr (.inl rfl))
    · exact .inr (.inr (.inr (.inl rfl)))⟩
end Go.Proofs.YtenpjkcclmmlhaaDoor.Seat
