/- Texts of this session, packed: Do2, Do3, Do4a, Do4, ListsP, Do5, LawQ, LawP, Wit, Eng1, Flat1, Flat2. -/
import Derived.Test.YteimebpgmfhgjaaDoorPd5
namespace Go.Proofs.YteimebpgmfhgjaaDoor
open Go.AS
set_option linter.unusedVariables false
set_option linter.unusedSimpArgs false
set_option maxRecDepth 100000
set_option maxHeartbeats 1000000
namespace Seat
theorem VRep.tsl {E : Env} {w : World} {a b c x : PV} {S : Nat → Prop} {v : Value} (h : VRep E w (.tup [.agg [a, b, c, .nil], x]) v) : VRep E w (.tup [.agg [a, b, c, .sl (OwnN 1 S) 0 []], x]) v := by
  have hn : ∀ (y : PV) (u : Value), VRep E w y u → y = .nil → VRep E w (.sl (OwnN 1 S) 0 []) u := fun y u hu he => by
    subst he
    obtain rfl := hu.nil_inv
    exact .imm (.sl .slice0 rfl fun w' _ => ⟨none, 0, 0, rfl, .inl ⟨rfl, fun _ => rfl⟩⟩)
  obtain ⟨vs, rfl, hvs⟩ := h.tup_inv
  obtain ⟨v0, vs1, rfl, h0, h1⟩ := hvs.cons_inv
  obtain ⟨us, rfl, hus⟩ := h0.agg_inv
  obtain ⟨u0, us, rfl, k0, hus⟩ := hus.cons_inv
  obtain ⟨u1, us, rfl, k1, hus⟩ := hus.cons_inv
  obtain ⟨u2, us, rfl, k2, hus⟩ := hus.cons_inv
  obtain ⟨u3, us, rfl, k3, hus⟩ := hus.cons_inv
  obtain rfl := hus.nil_inv
  have r := VReps.cons (VReps.agg (.cons k0 (.cons k1 (.cons k2 (.cons (hn _ _ k3 rfl) (.nil _ _)))))) h1
  exact .tup r.1 r.2
def Both (s : ByteArray) (ds : Dats) : Prop := ∃ (M : Nat) (e : Dat) (c : Int) (e' : Dat) (c' : Int),
  ((∀ i, i < ds.len → chkD (ds.get i) = 0) → ∀ lo, Pure (G0.at lo) 34 [.str s, .slice ds.len ds.cells] (fun r => r = .tup [.agg (tagD M (newS lo) e), .int .i64 c])) ∧
  Pure G0 13 [.str s, .slice ds.len ds.cells] (fun r => r = .tup [.agg e'.cells, .int .i64 c', .bool true]) ∧
  ((∀ i, i < ds.len → chkD (ds.get i) = 0) → c = c' ∧ eqD e e' = true) ∧ e.ok ∧ e'.ok
theorem mkBoth {s : ByteArray} {ds : Dats} {k n : Int} {t : ByteArray} {c : Int} (a : ∀ lo, Pure (G0.at lo) 34 [.str s, .slice ds.len ds.cells] (fun r => r = .tup [.agg [.int .i64 k, .int .i64 n, .str t, .nil], .int .i64 c]))
    (r : Pure G0 13 [.str s, .slice ds.len ds.cells] (fun r => r = .tup [.agg [.int .i64 k, .int .i64 n, .str t, .nil], .int .i64 c, .bool true])) : Both s ds :=
  ⟨1, .mk k n t .nil, c, .mk k n t .nil, c, fun _ lo => Pure.weak (fun _ _ _ h => VRep.tsl h) (a lo), Pure.weak (fun _ _ _ h => VRep.tnil0 h) r, fun _ => ⟨rfl, eqD_refl _⟩, ⟨Nat.zero_le _, trivial⟩, ⟨Nat.zero_le _, trivial⟩⟩
def FitD : Dat → Prop
  | .mk k n s ks => (Dat.mk k n s ks).ok ∧ (Dat.mk k n s ks).rng ∧ parts (.mk k n s ks) ≤ 100000 ∧ s.size ≤ 1000
theorem u64_pos (n : Int) (h : 0 ≤ n) (h2 : n ≤ 9223372036854775808) : IntKind.u64.wrap n = n := by rw [IntKind.wrap_u64]; omega
theorem u64_neg (n : Int) (h : n < 0) (h2 : -9223372036854775808 ≤ n) : IntKind.u64.wrap (0 - IntKind.u64.wrap n) = -n := by simp only [IntKind.wrap_u64]; omega
theorem i64_u64 (q : Int) : IntKind.i64.wrap (IntKind.u64.wrap q) = IntKind.i64.wrap q := by simp only [IntKind.wrap_u64, IntKind.wrap_i64]; omega
theorem i64_u64n (q : Int) : IntKind.i64.wrap (IntKind.u64.wrap (0 - IntKind.u64.wrap q)) = IntKind.i64.wrap (-q) := by simp only [IntKind.wrap_u64, IntKind.wrap_i64]; omega
theorem i64_u64m (q : Int) : IntKind.i64.wrap (IntKind.u64.wrap (0 - q)) = IntKind.i64.wrap (-q) := by simp only [IntKind.wrap_u64, IntKind.wrap_i64]; omega
theorem i64_in (q : Int) (h : -9223372036854775808 ≤ q) (h2 : q ≤ 9223372036854775807) : IntKind.i64.wrap q = q := by rw [IntKind.wrap_i64]; omega
theorem tmod_in (a b : Int) (h : -9223372036854775808 ≤ a) (h2 : a ≤ 9223372036854775807) : -9223372036854775808 ≤ a.tmod b ∧ a.tmod b ≤ 9223372036854775807 := by
  have h1 := Int.natAbs_tmod a b
  have h3 : a.natAbs % b.natAbs ≤ a.natAbs := Nat.mod_le _ _
  rcases Int.lt_or_le a 0 with ha | ha
  · have h4 : a.tmod b ≤ 0 := by
      rw [← Int.neg_neg a, Int.neg_tmod]
      have := Int.tmod_nonneg (a := -a) b (by omega)
      omega
    omega
  · have h4 : 0 ≤ a.tmod b := Int.tmod_nonneg b ha
    omega
theorem b_add (k0 n0 k1 n1 : Int) (s0 s1 : ByteArray) (ks0 ks1 : Dats) (f0 : FitD (.mk k0 n0 s0 ks0)) (f1 : FitD (.mk k1 n1 s1 ks1)) : Both ⟨#[43]⟩ (.cons (.mk k0 n0 s0 ks0) (.cons (.mk k1 n1 s1 ks1) .nil)) := by
  by_cases h0 : k0 = 1
  · by_cases h1 : k1 = 1
    · exact mkBoth (fun lo => a_add lo k0 n0 k1 n1 s0 s1 ks0 ks1 h0 h1) (r_add k0 n0 k1 n1 s0 s1 ks0 ks1 h0 h1)
    · exact mkBoth (fun lo => a_addT lo k0 n0 k1 n1 s0 s1 ks0 ks1 fun _ => h1) (r_addT1 k0 n0 k1 n1 s0 s1 ks0 ks1 h0 h1)
  · exact mkBoth (fun lo => a_addT lo k0 n0 k1 n1 s0 s1 ks0 ks1 fun h => absurd h h0) (r_addT0 k0 n0 k1 n1 s0 s1 ks0 ks1 h0)
theorem b_sub (k0 n0 k1 n1 : Int) (s0 s1 : ByteArray) (ks0 ks1 : Dats) (f0 : FitD (.mk k0 n0 s0 ks0)) (f1 : FitD (.mk k1 n1 s1 ks1)) : Both ⟨#[45]⟩ (.cons (.mk k0 n0 s0 ks0) (.cons (.mk k1 n1 s1 ks1) .nil)) := by
  by_cases h0 : k0 = 1
  · by_cases h1 : k1 = 1
    · exact mkBoth (fun lo => a_sub lo k0 n0 k1 n1 s0 s1 ks0 ks1 h0 h1) (r_sub k0 n0 k1 n1 s0 s1 ks0 ks1 h0 h1)
    · exact mkBoth (fun lo => a_subT lo k0 n0 k1 n1 s0 s1 ks0 ks1 fun _ => h1) (r_subT1 k0 n0 k1 n1 s0 s1 ks0 ks1 h0 h1)
  · exact mkBoth (fun lo => a_subT lo k0 n0 k1 n1 s0 s1 ks0 ks1 fun h => absurd h h0) (r_subT0 k0 n0 k1 n1 s0 s1 ks0 ks1 h0)
theorem b_mul (k0 n0 k1 n1 : Int) (s0 s1 : ByteArray) (ks0 ks1 : Dats) (f0 : FitD (.mk k0 n0 s0 ks0)) (f1 : FitD (.mk k1 n1 s1 ks1)) : Both ⟨#[42]⟩ (.cons (.mk k0 n0 s0 ks0) (.cons (.mk k1 n1 s1 ks1) .nil)) := by
  by_cases h0 : k0 = 1
  · by_cases h1 : k1 = 1
    · exact mkBoth (fun lo => a_mul lo k0 n0 k1 n1 s0 s1 ks0 ks1 h0 h1) (r_mul k0 n0 k1 n1 s0 s1 ks0 ks1 h0 h1)
    · exact mkBoth (fun lo => a_mulT lo k0 n0 k1 n1 s0 s1 ks0 ks1 fun _ => h1) (r_mulT1 k0 n0 k1 n1 s0 s1 ks0 ks1 h0 h1)
  · exact mkBoth (fun lo => a_mulT lo k0 n0 k1 n1 s0 s1 ks0 ks1 fun h => absurd h h0) (r_mulT0 k0 n0 k1 n1 s0 s1 ks0 ks1 h0)
theorem b_lss (k0 n0 k1 n1 : Int) (s0 s1 : ByteArray) (ks0 ks1 : Dats) (f0 : FitD (.mk k0 n0 s0 ks0)) (f1 : FitD (.mk k1 n1 s1 ks1)) : Both ⟨#[60]⟩ (.cons (.mk k0 n0 s0 ks0) (.cons (.mk k1 n1 s1 ks1) .nil)) := by
  by_cases h0 : k0 = 1
  · by_cases h1 : k1 = 1
    · by_cases hl : n0 < n1
      · exact mkBoth (fun lo => a_lssY lo k0 n0 k1 n1 s0 s1 ks0 ks1 h0 h1 hl) (r_lssY k0 n0 k1 n1 s0 s1 ks0 ks1 h0 h1 hl)
      · exact mkBoth (fun lo => a_lssN lo k0 n0 k1 n1 s0 s1 ks0 ks1 h0 h1 hl) (r_lssN k0 n0 k1 n1 s0 s1 ks0 ks1 h0 h1 hl)
    · exact mkBoth (fun lo => a_lssT lo k0 n0 k1 n1 s0 s1 ks0 ks1 fun _ => h1) (r_lssT1 k0 n0 k1 n1 s0 s1 ks0 ks1 h0 h1)
  · exact mkBoth (fun lo => a_lssT lo k0 n0 k1 n1 s0 s1 ks0 ks1 fun h => absurd h h0) (r_lssT0 k0 n0 k1 n1 s0 s1 ks0 ks1 h0)
theorem b_quot (k0 n0 k1 n1 : Int) (s0 s1 : ByteArray) (ks0 ks1 : Dats) (f0 : FitD (.mk k0 n0 s0 ks0)) (f1 : FitD (.mk k1 n1 s1 ks1)) : Both ⟨#[113, 117, 111, 116]⟩ (.cons (.mk k0 n0 s0 ks0) (.cons (.mk k1 n1 s1 ks1) .nil)) := by
  by_cases h0 : k0 = 1
  · by_cases h1 : k1 = 1
    · by_cases hz : n1 = 0
      · exact mkBoth (fun lo => a_quotZ lo k0 n0 k1 n1 s0 s1 ks0 ks1 h0 h1 hz) (r_quotZ k0 n0 k1 n1 s0 s1 ks0 ks1 h0 h1 hz)
      have hr0 := f0.2.1.1
      have hr1 := f1.2.1.1
      have hR : Pure G0 13 [.str ⟨#[113, 117, 111, 116]⟩, .slice 2 [.int .i64 k0, .int .i64 n0, .str s0, .slice ks0.len ks0.cells, .int .i64 k1, .int .i64 n1, .str s1, .slice ks1.len ks1.cells]] (fun r => r = .tup [.agg [.int .i64 1, .int .i64 (IntKind.i64.wrap (n0.tdiv n1)), .str ⟨#[]⟩, .nil], .int .i64 0, .bool true]) := by
        by_cases ha : n0 < 0
        · by_cases hb : n1 < 0
          · have r := r_quotyy k0 n0 k1 n1 s0 s1 ks0 ks1 h0 h1 hz ha hb hr1
            rw [u64_neg n0 ha hr0.1, u64_neg n1 hb hr1.1] at r
            rw [i64_u64] at r
            rw [Int.neg_tdiv, Int.tdiv_neg, Int.neg_neg] at r
            exact r
          · have r := r_quotyn k0 n0 k1 n1 s0 s1 ks0 ks1 h0 h1 hz ha hb hr1
            rw [u64_neg n0 ha hr0.1, u64_pos n1 (by omega) (by omega)] at r
            rw [i64_u64n] at r
            rw [Int.neg_tdiv, Int.neg_neg] at r
            exact r
        · by_cases hb : n1 < 0
          · have r := r_quotny k0 n0 k1 n1 s0 s1 ks0 ks1 h0 h1 hz ha hb hr1
            rw [u64_pos n0 (by omega) (by omega), u64_neg n1 hb hr1.1] at r
            rw [i64_u64n] at r
            rw [Int.tdiv_neg, Int.neg_neg] at r
            exact r
          · have r := r_quotnn k0 n0 k1 n1 s0 s1 ks0 ks1 h0 h1 hz ha hb hr1
            rw [u64_pos n0 (by omega) (by omega), u64_pos n1 (by omega) (by omega)] at r
            rw [i64_u64] at r
            exact r
      by_cases hm : n1 = -1
      · have a := fun lo => a_quotM lo k0 n0 k1 n1 s0 s1 ks0 ks1 h0 h1 hm
        rw [show (0 - n0 : Int) = n0.tdiv n1 from by rw [hm, Int.tdiv_neg, Int.tdiv_one]; omega] at a
        exact mkBoth a hR
      · exact mkBoth (fun lo => a_quotG lo k0 n0 k1 n1 s0 s1 ks0 ks1 h0 h1 hz hm) hR
    · exact mkBoth (fun lo => a_quotT lo k0 n0 k1 n1 s0 s1 ks0 ks1 fun _ => h1) (r_quotT1 k0 n0 k1 n1 s0 s1 ks0 ks1 h0 h1)
  · exact mkBoth (fun lo => a_quotT lo k0 n0 k1 n1 s0 s1 ks0 ks1 fun h => absurd h h0) (r_quotT0 k0 n0 k1 n1 s0 s1 ks0 ks1 h0)
theorem b_rem (k0 n0 k1 n1 : Int) (s0 s1 : ByteArray) (ks0 ks1 : Dats) (f0 : FitD (.mk k0 n0 s0 ks0)) (f1 : FitD (.mk k1 n1 s1 ks1)) : Both ⟨#[114, 101, 109]⟩ (.cons (.mk k0 n0 s0 ks0) (.cons (.mk k1 n1 s1 ks1) .nil)) := by
  by_cases h0 : k0 = 1
  · by_cases h1 : k1 = 1
    · by_cases hz : n1 = 0
      · exact mkBoth (fun lo => a_remZ lo k0 n0 k1 n1 s0 s1 ks0 ks1 h0 h1 hz) (r_remZ k0 n0 k1 n1 s0 s1 ks0 ks1 h0 h1 hz)
      have hr0 := f0.2.1.1
      have hr1 := f1.2.1.1
      have hR : Pure G0 13 [.str ⟨#[114, 101, 109]⟩, .slice 2 [.int .i64 k0, .int .i64 n0, .str s0, .slice ks0.len ks0.cells, .int .i64 k1, .int .i64 n1, .str s1, .slice ks1.len ks1.cells]] (fun r => r = .tup [.agg [.int .i64 1, .int .i64 (n0.tmod n1), .str ⟨#[]⟩, .nil], .int .i64 0, .bool true]) := by
        by_cases ha : n0 < 0
        · by_cases hb : n1 < 0
          · have r := r_remyy k0 n0 k1 n1 s0 s1 ks0 ks1 h0 h1 hz ha hb hr1
            rw [u64_neg n0 ha hr0.1, u64_neg n1 hb hr1.1] at r
            rw [i64_u64m] at r
            rw [Int.neg_tmod, Int.tmod_neg, Int.neg_neg] at r
            rw [i64_in _ (tmod_in n0 n1 hr0.1 hr0.2).1 (tmod_in n0 n1 hr0.1 hr0.2).2] at r
            exact r
          · have r := r_remyn k0 n0 k1 n1 s0 s1 ks0 ks1 h0 h1 hz ha hb hr1
            rw [u64_neg n0 ha hr0.1, u64_pos n1 (by omega) (by omega)] at r
            rw [i64_u64m] at r
            rw [Int.neg_tmod, Int.neg_neg] at r
            rw [i64_in _ (tmod_in n0 n1 hr0.1 hr0.2).1 (tmod_in n0 n1 hr0.1 hr0.2).2] at r
            exact r
        · by_cases hb : n1 < 0
          · have r := r_remny k0 n0 k1 n1 s0 s1 ks0 ks1 h0 h1 hz ha hb hr1
            rw [u64_pos n0 (by omega) (by omega), u64_neg n1 hb hr1.1] at r
            rw [Int.tmod_neg] at r
            rw [i64_in _ (tmod_in n0 n1 hr0.1 hr0.2).1 (tmod_in n0 n1 hr0.1 hr0.2).2] at r
            exact r
          · have r := r_remnn k0 n0 k1 n1 s0 s1 ks0 ks1 h0 h1 hz ha hb hr1
            rw [u64_pos n0 (by omega) (by omega), u64_pos n1 (by omega) (by omega)] at r
            rw [i64_in _ (tmod_in n0 n1 hr0.1 hr0.2).1 (tmod_in n0 n1 hr0.1 hr0.2).2] at r
            exact r
      by_cases hm : n1 = -1
      · have a := fun lo => a_remM lo k0 n0 k1 n1 s0 s1 ks0 ks1 h0 h1 hm
        rw [show n0.tmod n1 = 0 from by rw [hm, Int.tmod_neg, Int.tmod_one]] at hR
        exact mkBoth a hR
      · exact mkBoth (fun lo => a_remG lo k0 n0 k1 n1 s0 s1 ks0 ks1 h0 h1 hz hm) hR
    · exact mkBoth (fun lo => a_remT lo k0 n0 k1 n1 s0 s1 ks0 ks1 fun _ => h1) (r_remT1 k0 n0 k1 n1 s0 s1 ks0 ks1 h0 h1)
  · exact mkBoth (fun lo => a_remT lo k0 n0 k1 n1 s0 s1 ks0 ks1 fun h => absurd h h0) (r_remT0 k0 n0 k1 n1 s0 s1 ks0 ks1 h0)
theorem b_eq (k0 n0 k1 n1 : Int) (s0 s1 : ByteArray) (ks0 ks1 : Dats) (f0 : FitD (.mk k0 n0 s0 ks0)) (f1 : FitD (.mk k1 n1 s1 ks1)) : Both ⟨#[61]⟩ (.cons (.mk k0 n0 s0 ks0) (.cons (.mk k1 n1 s1 ks1) .nil)) := by
  cases he : eqD (.mk k0 n0 s0 ks0) (.mk k1 n1 s1 ks1) with
  | true => exact mkBoth (fun lo => a_eqY lo k0 n0 k1 n1 s0 s1 ks0 ks1 f0.1 f1.1 he) (r_eqY k0 n0 k1 n1 s0 s1 ks0 ks1 f0.1 f1.1 he)
  | false => exact mkBoth (fun lo => a_eqN lo k0 n0 k1 n1 s0 s1 ks0 ks1 f0.1 f1.1 he) (r_eqN k0 n0 k1 n1 s0 s1 ks0 ks1 f0.1 f1.1 he)
theorem b_list (k0 n0 : Int) (s0 : ByteArray) (ks0 : Dats) (f0 : FitD (.mk k0 n0 s0 ks0)) : Both ⟨#[108, 105, 115, 116, 63]⟩ (.cons (.mk k0 n0 s0 ks0) .nil) := by
  by_cases h0 : k0 = 3
  · exact mkBoth (fun lo => a_listY lo k0 n0 s0 ks0 h0) (r_listY k0 n0 s0 ks0 h0)
  · exact mkBoth (fun lo => a_listN lo k0 n0 s0 ks0 h0) (r_listN k0 n0 s0 ks0 h0)
theorem b_num (k0 n0 : Int) (s0 : ByteArray) (ks0 : Dats) (f0 : FitD (.mk k0 n0 s0 ks0)) : Both ⟨#[110, 117, 109, 63]⟩ (.cons (.mk k0 n0 s0 ks0) .nil) := by
  by_cases h0 : k0 = 1
  · exact mkBoth (fun lo => a_numY lo k0 n0 s0 ks0 h0) (r_numY k0 n0 s0 ks0 h0)
  · exact mkBoth (fun lo => a_numN lo k0 n0 s0 ks0 h0) (r_numN k0 n0 s0 ks0 h0)
theorem b_sym (k0 n0 : Int) (s0 : ByteArray) (ks0 : Dats) (f0 : FitD (.mk k0 n0 s0 ks0)) : Both ⟨#[115, 121, 109, 63]⟩ (.cons (.mk k0 n0 s0 ks0) .nil) := by
  by_cases h0 : k0 = 2
  · exact mkBoth (fun lo => a_symY lo k0 n0 s0 ks0 h0) (r_symY k0 n0 s0 ks0 h0)
  · exact mkBoth (fun lo => a_symN lo k0 n0 s0 ks0 h0) (r_symN k0 n0 s0 ks0 h0)
theorem b_count (k0 n0 : Int) (s0 : ByteArray) (ks0 : Dats) (f0 : FitD (.mk k0 n0 s0 ks0)) : Both ⟨#[99, 111, 117, 110, 116]⟩ (.cons (.mk k0 n0 s0 ks0) .nil) := by
  by_cases h0 : k0 = 3
  · exact mkBoth (fun lo => a_count lo k0 n0 s0 ks0 h0) (r_count k0 n0 s0 ks0 h0)
  · exact mkBoth (fun lo => a_countT lo k0 n0 s0 ks0 h0) (r_countT k0 n0 s0 ks0 h0)
theorem b_stop (k0 n0 : Int) (s0 : ByteArray) (ks0 : Dats) (f0 : FitD (.mk k0 n0 s0 ks0)) : Both ⟨#[115, 116, 111, 112]⟩ (.cons (.mk k0 n0 s0 ks0) .nil) := by
  by_cases h0 : k0 = 1
  · exact mkBoth (fun lo => a_stop lo k0 n0 s0 ks0 h0) (r_stop k0 n0 s0 ks0 h0)
  · exact mkBoth (fun lo => a_stopT lo k0 n0 s0 ks0 h0) (r_stopT k0 n0 s0 ks0 h0)
theorem b_mark (k0 n0 k1 n1 : Int) (s0 s1 : ByteArray) (ks0 ks1 : Dats) (f0 : FitD (.mk k0 n0 s0 ks0)) (f1 : FitD (.mk k1 n1 s1 ks1)) : Both ⟨#[109, 97, 114, 107]⟩ (.cons (.mk k0 n0 s0 ks0) (.cons (.mk k1 n1 s1 ks1) .nil)) := by
  by_cases h0 : k0 = 2
  · by_cases h1 : k1 = 1
    · by_cases hn : n1 < 0
      · exact mkBoth (fun lo => a_markM lo k0 n0 k1 n1 s0 s1 ks0 ks1 h0 h1 hn) (r_markM k0 n0 k1 n1 s0 s1 ks0 ks1 h0 h1 hn)
      have hr1 := f1.2.1.1
      have hi : inR n1 = true := decide_eq_true hr1
      have hd := itoa_len n1 hr1.1 hr1.2
      have hs : s0.size ≤ 1000 := f0.2.2.2
      by_cases hl : s0.size + 1 + (Go.Lib.itoa n1).length ≤ 40
      · have a := fun lo => a_markY lo k0 n0 k1 n1 s0 s1 ks0 ks1 h0 h1 hn hi hs hd hl
        rw [← ByteArray.append_assoc] at a
        exact mkBoth a (r_markY k0 n0 k1 n1 s0 s1 ks0 ks1 h0 h1 hn hi hs hd hl)
      · exact mkBoth (fun lo => a_markN lo k0 n0 k1 n1 s0 s1 ks0 ks1 h0 h1 hn hi hs hd hl) (r_markN k0 n0 k1 n1 s0 s1 ks0 ks1 h0 h1 hn hi hs hd hl)
    · exact mkBoth (fun lo => a_markT lo k0 n0 k1 n1 s0 s1 ks0 ks1 fun _ => h1) (r_markT1 k0 n0 k1 n1 s0 s1 ks0 ks1 h0 h1)
  · exact mkBoth (fun lo => a_markT lo k0 n0 k1 n1 s0 s1 ks0 ks1 fun h => absurd h h0) (r_markT0 k0 n0 k1 n1 s0 s1 ks0 ks1 h0)
theorem b_first (k0 n0 : Int) (s0 : ByteArray) (ks0 : Dats) (f0 : FitD (.mk k0 n0 s0 ks0)) : Both ⟨#[102, 105, 114, 115, 116]⟩ (.cons (.mk k0 n0 s0 ks0) .nil) := by
  by_cases h0 : k0 = 3
  · cases ks0 with
    | nil => exact mkBoth (fun lo => a_firstE lo k0 n0 s0 h0) (r_firstE k0 n0 s0 h0)
    | cons d rs =>
      obtain ⟨k, n, s, ks⟩ := d
      have sw : smallD (.mk k0 n0 s0 (.cons (.mk k n s ks) rs)) := smallD_of _ (by have := f0.2.2.1; omega)
      have sm : smallD (.mk k n s ks) := sw.2.1
      have hN : szC (Dat.mk k n s ks).cells = Dat.size (.mk k n s ks) + 1 := by unfold szC; rw [ofCells_at]
      have e1 : (Dats.cons (.mk k0 n0 s0 (.cons (.mk k n s ks) rs)) .nil).cells = [.int .i64 k0, .int .i64 n0, .str s0, .slice (1 + rs.len) (.int .i64 k :: .int .i64 n :: .str s :: .slice ks.len ks.cells :: rs.cells)] := big1 k0 n0 k n s0 s ks rs
      refine ⟨Dat.size (.mk k n s ks) + 1, (.mk k n s ks), 0, (.mk k n s ks), 0, fun _ lo => ?_, ?_, fun _ => ⟨rfl, eqD_refl _⟩, smallD_ok _ sm, smallD_ok _ sm⟩
      · rw [e1]
        have a := a_first lo k0 n0 k n s0 s ks rs h0 sm
        have hN' : szC [.int .i64 k, .int .i64 n, .str s, .slice ks.len ks.cells] = Dat.size (.mk k n s ks) + 1 := hN
        rw [hN'] at a
        exact a
      · rw [e1]
        have r := r_first k0 n0 k n s0 s ks rs h0 sm
        exact r
  · exact mkBoth (fun lo => a_firstT lo k0 n0 s0 ks0 h0) (r_firstT k0 n0 s0 ks0 h0)
theorem b_rest (k0 n0 : Int) (s0 : ByteArray) (ks0 : Dats) (f0 : FitD (.mk k0 n0 s0 ks0)) : Both ⟨#[114, 101, 115, 116]⟩ (.cons (.mk k0 n0 s0 ks0) .nil) := by
  by_cases h0 : k0 = 3
  · cases ks0 with
    | nil => exact mkBoth (fun lo => a_restE lo k0 n0 s0 h0) (r_restE k0 n0 s0 h0)
    | cons d rs =>
      obtain ⟨k, n, s, ks⟩ := d
      have sw : smallD (.mk k0 n0 s0 (.cons (.mk k n s ks) rs)) := smallD_of _ (by have := f0.2.2.1; omega)
      have sm : smallD (.mk 3 0 ⟨#[]⟩ rs) := ⟨by have := sw.1; simp only [Dats.len] at this; omega, sw.2.2⟩
      have hN : szC (Dat.mk 3 0 ⟨#[]⟩ rs).cells = Dat.size (.mk 3 0 ⟨#[]⟩ rs) + 1 := by unfold szC; rw [ofCells_at]
      have e1 : (Dats.cons (.mk k0 n0 s0 (.cons (.mk k n s ks) rs)) .nil).cells = [.int .i64 k0, .int .i64 n0, .str s0, .slice (1 + rs.len) (.int .i64 k :: .int .i64 n :: .str s :: .slice ks.len ks.cells :: rs.cells)] := big1 k0 n0 k n s0 s ks rs
      refine ⟨Dat.size (.mk 3 0 ⟨#[]⟩ rs) + 1, (.mk 3 0 ⟨#[]⟩ rs), 0, (.mk 3 0 ⟨#[]⟩ rs), 0, fun _ lo => ?_, ?_, fun _ => ⟨rfl, eqD_refl _⟩, smallD_ok _ sm, smallD_ok _ sm⟩
      · rw [e1]
        have a := a_rest lo k0 n0 k n s0 s ks rs h0 sm sw
        have hN' : szC [.int .i64 3, .int .i64 0, .str ⟨#[]⟩, .slice rs.len rs.cells] = Dat.size (.mk 3 0 ⟨#[]⟩ rs) + 1 := hN
        rw [hN'] at a
        exact a
      · rw [e1]
        have r := r_rest k0 n0 k n s0 s ks rs h0 sm sw
        rw [Nat.zero_add] at r
        exact r
  · exact mkBoth (fun lo => a_restT lo k0 n0 s0 ks0 h0) (r_restT k0 n0 s0 ks0 h0)
theorem b_cons (k0 n0 k1 n1 : Int) (s0 s1 : ByteArray) (ks0 ks1 : Dats) (f0 : FitD (.mk k0 n0 s0 ks0)) (f1 : FitD (.mk k1 n1 s1 ks1)) : Both ⟨#[99, 111, 110, 115]⟩ (.cons (.mk k0 n0 s0 ks0) (.cons (.mk k1 n1 s1 ks1) .nil)) := by
  by_cases h1 : k1 = 3
  · have hp : parts (.mk 3 0 ⟨#[]⟩ (.cons (.mk k0 n0 s0 ks0) ks1)) ≤ 200001 := by
      have h0 := f0.2.2.1
      have h2 := f1.2.2.1
      simp only [parts, partsL] at h0 h2 ⊢
      omega
    have sm : smallD (.mk 3 0 ⟨#[]⟩ (.cons (.mk k0 n0 s0 ks0) ks1)) := smallD_of _ (by omega)
    have hS : Small (.mk 3 0 ⟨#[]⟩ (.cons (.mk k0 n0 s0 ks0) ks1)) := ⟨smallD_ok _ sm, ⟨by decide, f0.2.1, f1.2.1.2⟩, by omega⟩
    have s0m : smallD (.mk k0 n0 s0 ks0) := smallD_of _ (by have := f0.2.2.1; omega)
    have s1m : smallD (.mk k1 n1 s1 ks1) := smallD_of _ (by have := f1.2.2.1; omega)
    have a := fun lo b hb => a_cons lo k0 n0 k1 n1 s0 s1 ks0 ks1 h1 hS.good sm b hb
    have r := fun b hb => r_cons k0 n0 k1 n1 s0 s1 ks0 ks1 h1 s0m s1m hS sm b hb
    by_cases hc : chkD (.mk 3 0 ⟨#[]⟩ (.cons (.mk k0 n0 s0 ks0) ks1)) = 0
    · have hN : szC (Dat.mk 3 0 ⟨#[]⟩ (.cons (.mk k0 n0 s0 ks0) ks1)).cells = Dat.size (.mk 3 0 ⟨#[]⟩ (.cons (.mk k0 n0 s0 ks0) ks1)) + 1 := by unfold szC; rw [ofCells_at]
      have a := fun lo => a lo true (decide_eq_true hc)
      have r := r true (decide_eq_true hc)
      simp only [cond_true] at a r
      rw [← cons_cs, hN] at a
      rw [← cons_cs0] at r
      refine ⟨Dat.size (.mk 3 0 ⟨#[]⟩ (.cons (.mk k0 n0 s0 ks0) ks1)) + 1, (.mk 3 0 ⟨#[]⟩ (.cons (.mk k0 n0 s0 ks0) ks1)), 0, (.mk 3 0 ⟨#[]⟩ (.cons (.mk k0 n0 s0 ks0) ks1)), 0, fun _ lo => ?_, r, fun _ => ⟨rfl, eqD_refl _⟩, smallD_ok _ sm, smallD_ok _ sm⟩
      have a := a lo
      rw [Nat.add_comm 1 ks1.len] at a
      exact a
    · exact mkBoth (fun lo => a lo false (decide_eq_false hc)) (r false (decide_eq_false hc))
  · exact mkBoth (fun lo => a_consT lo k0 n0 k1 n1 s0 s1 ks0 ks1 h1) (r_consT k0 n0 k1 n1 s0 s1 ks0 ks1 h1)
end Seat
end Go.Proofs.YteimebpgmfhgjaaDoor
namespace Go.Proofs.YteimebpgmfhgjaaDoor
open Go.AS
set_option linter.unusedVariables false
set_option linter.unusedSimpArgs false
set_option maxRecDepth 100000
set_option maxHeartbeats 1000000
namespace Seat
theorem len_two : ∀ ds : Dats, ds.len = 2 → ∃ k0 n0 s0 ks0 k1 n1 s1 ks1, ds = .cons (.mk k0 n0 s0 ks0) (.cons (.mk k1 n1 s1 ks1) .nil)
  | .nil, h => by simp [Dats.len] at h
  | .cons _ .nil, h => by simp [Dats.len] at h
  | .cons (.mk k0 n0 s0 ks0) (.cons (.mk k1 n1 s1 ks1) .nil), _ => ⟨k0, n0, s0, ks0, k1, n1, s1, ks1, rfl⟩
  | .cons _ (.cons _ (.cons _ _)), h => by simp [Dats.len] at h
theorem len_one : ∀ ds : Dats, ds.len = 1 → ∃ k0 n0 s0 ks0, ds = .cons (.mk k0 n0 s0 ks0) .nil
  | .nil, h => by simp [Dats.len] at h
  | .cons (.mk k0 n0 s0 ks0) .nil, _ => ⟨k0, n0, s0, ks0, rfl⟩
  | .cons _ (.cons _ _), h => by simp [Dats.len] at h
theorem do_name (s : ByteArray) : (∃ n : Nat, Pure G0 30 [.str s] (fun r => r = .tup [.int .i64 (n : Nat), .bool true]) ∧ Pure G0 31 [.str s] (fun r => r = .tup [.int .i64 (n : Nat), .bool true]) ∧ ∀ ds : Dats, ds.len = n → (∀ i, i < ds.len → FitD (ds.get i)) → Both s ds) ∨
    (Pure G0 30 [.str s] (fun r => r = .tup [.int .i64 0, .bool false]) ∧ Pure G0 31 [.str s] (fun r => r = .tup [.int .i64 0, .bool false])) := by
  by_cases h0 : s = ⟨#[43]⟩
  · subst h0
    refine .inl ⟨2, Pure.run (S := S0) 400 (by kernel_rfl), Pure.run (S := S0) 400 (by kernel_rfl), fun ds hl hf => ?_⟩
    obtain ⟨k0, n0, s0, ks0, k1, n1, s1, ks1, rfl⟩ := len_two ds hl
    exact b_add k0 n0 k1 n1 s0 s1 ks0 ks1 (hf 0 (by simp [Dats.len])) (hf 1 (by simp [Dats.len]))
  by_cases h1 : s = ⟨#[45]⟩
  · subst h1
    refine .inl ⟨2, Pure.run (S := S0) 400 (by kernel_rfl), Pure.run (S := S0) 400 (by kernel_rfl), fun ds hl hf => ?_⟩
    obtain ⟨k0, n0, s0, ks0, k1, n1, s1, ks1, rfl⟩ := len_two ds hl
    exact b_sub k0 n0 k1 n1 s0 s1 ks0 ks1 (hf 0 (by simp [Dats.len])) (hf 1 (by simp [Dats.len]))
  by_cases h2 : s = ⟨#[42]⟩
  · subst h2
    refine .inl ⟨2, Pure.run (S := S0) 400 (by kernel_rfl), Pure.run (S := S0) 400 (by kernel_rfl), fun ds hl hf => ?_⟩
    obtain ⟨k0, n0, s0, ks0, k1, n1, s1, ks1, rfl⟩ := len_two ds hl
    exact b_mul k0 n0 k1 n1 s0 s1 ks0 ks1 (hf 0 (by simp [Dats.len])) (hf 1 (by simp [Dats.len]))
  by_cases h3 : s = ⟨#[113, 117, 111, 116]⟩
  · subst h3
    refine .inl ⟨2, Pure.run (S := S0) 400 (by kernel_rfl), Pure.run (S := S0) 400 (by kernel_rfl), fun ds hl hf => ?_⟩
    obtain ⟨k0, n0, s0, ks0, k1, n1, s1, ks1, rfl⟩ := len_two ds hl
    exact b_quot k0 n0 k1 n1 s0 s1 ks0 ks1 (hf 0 (by simp [Dats.len])) (hf 1 (by simp [Dats.len]))
  by_cases h4 : s = ⟨#[114, 101, 109]⟩
  · subst h4
    refine .inl ⟨2, Pure.run (S := S0) 400 (by kernel_rfl), Pure.run (S := S0) 400 (by kernel_rfl), fun ds hl hf => ?_⟩
    obtain ⟨k0, n0, s0, ks0, k1, n1, s1, ks1, rfl⟩ := len_two ds hl
    exact b_rem k0 n0 k1 n1 s0 s1 ks0 ks1 (hf 0 (by simp [Dats.len])) (hf 1 (by simp [Dats.len]))
  by_cases h5 : s = ⟨#[60]⟩
  · subst h5
    refine .inl ⟨2, Pure.run (S := S0) 400 (by kernel_rfl), Pure.run (S := S0) 400 (by kernel_rfl), fun ds hl hf => ?_⟩
    obtain ⟨k0, n0, s0, ks0, k1, n1, s1, ks1, rfl⟩ := len_two ds hl
    exact b_lss k0 n0 k1 n1 s0 s1 ks0 ks1 (hf 0 (by simp [Dats.len])) (hf 1 (by simp [Dats.len]))
  by_cases h6 : s = ⟨#[61]⟩
  · subst h6
    refine .inl ⟨2, Pure.run (S := S0) 400 (by kernel_rfl), Pure.run (S := S0) 400 (by kernel_rfl), fun ds hl hf => ?_⟩
    obtain ⟨k0, n0, s0, ks0, k1, n1, s1, ks1, rfl⟩ := len_two ds hl
    exact b_eq k0 n0 k1 n1 s0 s1 ks0 ks1 (hf 0 (by simp [Dats.len])) (hf 1 (by simp [Dats.len]))
  by_cases h7 : s = ⟨#[99, 111, 110, 115]⟩
  · subst h7
    refine .inl ⟨2, Pure.run (S := S0) 400 (by kernel_rfl), Pure.run (S := S0) 400 (by kernel_rfl), fun ds hl hf => ?_⟩
    obtain ⟨k0, n0, s0, ks0, k1, n1, s1, ks1, rfl⟩ := len_two ds hl
    exact b_cons k0 n0 k1 n1 s0 s1 ks0 ks1 (hf 0 (by simp [Dats.len])) (hf 1 (by simp [Dats.len]))
  by_cases h8 : s = ⟨#[102, 105, 114, 115, 116]⟩
  · subst h8
    refine .inl ⟨1, Pure.run (S := S0) 400 (by kernel_rfl), Pure.run (S := S0) 400 (by kernel_rfl), fun ds hl hf => ?_⟩
    obtain ⟨k0, n0, s0, ks0, rfl⟩ := len_one ds hl
    exact b_first k0 n0 s0 ks0 (hf 0 (by simp [Dats.len]))
  by_cases h9 : s = ⟨#[114, 101, 115, 116]⟩
  · subst h9
    refine .inl ⟨1, Pure.run (S := S0) 400 (by kernel_rfl), Pure.run (S := S0) 400 (by kernel_rfl), fun ds hl hf => ?_⟩
    obtain ⟨k0, n0, s0, ks0, rfl⟩ := len_one ds hl
    exact b_rest k0 n0 s0 ks0 (hf 0 (by simp [Dats.len]))
  by_cases h10 : s = ⟨#[99, 111, 117, 110, 116]⟩
  · subst h10
    refine .inl ⟨1, Pure.run (S := S0) 400 (by kernel_rfl), Pure.run (S := S0) 400 (by kernel_rfl), fun ds hl hf => ?_⟩
    obtain ⟨k0, n0, s0, ks0, rfl⟩ := len_one ds hl
    exact b_count k0 n0 s0 ks0 (hf 0 (by simp [Dats.len]))
  by_cases h11 : s = ⟨#[108, 105, 115, 116, 63]⟩
  · subst h11
    refine .inl ⟨1, Pure.run (S := S0) 400 (by kernel_rfl), Pure.run (S := S0) 400 (by kernel_rfl), fun ds hl hf => ?_⟩
    obtain ⟨k0, n0, s0, ks0, rfl⟩ := len_one ds hl
    exact b_list k0 n0 s0 ks0 (hf 0 (by simp [Dats.len]))
  by_cases h12 : s = ⟨#[110, 117, 109, 63]⟩
  · subst h12
    refine .inl ⟨1, Pure.run (S := S0) 400 (by kernel_rfl), Pure.run (S := S0) 400 (by kernel_rfl), fun ds hl hf => ?_⟩
    obtain ⟨k0, n0, s0, ks0, rfl⟩ := len_one ds hl
    exact b_num k0 n0 s0 ks0 (hf 0 (by simp [Dats.len]))
  by_cases h13 : s = ⟨#[115, 121, 109, 63]⟩
  · subst h13
    refine .inl ⟨1, Pure.run (S := S0) 400 (by kernel_rfl), Pure.run (S := S0) 400 (by kernel_rfl), fun ds hl hf => ?_⟩
    obtain ⟨k0, n0, s0, ks0, rfl⟩ := len_one ds hl
    exact b_sym k0 n0 s0 ks0 (hf 0 (by simp [Dats.len]))
  by_cases h14 : s = ⟨#[109, 97, 114, 107]⟩
  · subst h14
    refine .inl ⟨2, Pure.run (S := S0) 400 (by kernel_rfl), Pure.run (S := S0) 400 (by kernel_rfl), fun ds hl hf => ?_⟩
    obtain ⟨k0, n0, s0, ks0, k1, n1, s1, ks1, rfl⟩ := len_two ds hl
    exact b_mark k0 n0 k1 n1 s0 s1 ks0 ks1 (hf 0 (by simp [Dats.len])) (hf 1 (by simp [Dats.len]))
  by_cases h15 : s = ⟨#[115, 116, 111, 112]⟩
  · subst h15
    refine .inl ⟨1, Pure.run (S := S0) 400 (by kernel_rfl), Pure.run (S := S0) 400 (by kernel_rfl), fun ds hl hf => ?_⟩
    obtain ⟨k0, n0, s0, ks0, rfl⟩ := len_one ds hl
    exact b_stop k0 n0 s0 ks0 (hf 0 (by simp [Dats.len]))
  exact .inr ⟨ Pure.runO (S := { S0 with orc := orcM [(19, [(15, false)])] }) 400 (o := [((⟨#[43]⟩ : ByteArray).toList == s.toList, false), (false, false), ((⟨#[45]⟩ : ByteArray).toList == s.toList, false), (false, false), ((⟨#[42]⟩ : ByteArray).toList == s.toList, false), (false, false), ((⟨#[113, 117, 111, 116]⟩ : ByteArray).toList == s.toList, false), (false, false), ((⟨#[114, 101, 109]⟩ : ByteArray).toList == s.toList, false), (false, false), ((⟨#[60]⟩ : ByteArray).toList == s.toList, false), (false, false), ((⟨#[61]⟩ : ByteArray).toList == s.toList, false), (false, false), ((⟨#[99, 111, 110, 115]⟩ : ByteArray).toList == s.toList, false), (false, false), ((⟨#[102, 105, 114, 115, 116]⟩ : ByteArray).toList == s.toList, false), (false, false), ((⟨#[114, 101, 115, 116]⟩ : ByteArray).toList == s.toList, false), (false, false), ((⟨#[99, 111, 117, 110, 116]⟩ : ByteArray).toList == s.toList, false), (false, false), ((⟨#[108, 105, 115, 116, 63]⟩ : ByteArray).toList == s.toList, false), (false, false), ((⟨#[110, 117, 109, 63]⟩ : ByteArray).toList == s.toList, false), (false, false), ((⟨#[115, 121, 109, 63]⟩ : ByteArray).toList == s.toList, false), (false, false), ((⟨#[109, 97, 114, 107]⟩ : ByteArray).toList == s.toList, false), (false, false), ((⟨#[115, 116, 111, 112]⟩ : ByteArray).toList == s.toList, false), (false, false)]) (by kernel_rfl) (okN (lit_ne h0) (okN (rfl) (okN (lit_ne h1) (okN (rfl) (okN (lit_ne h2) (okN (rfl) (okN (lit_ne h3) (okN (rfl) (okN (lit_ne h4) (okN (rfl) (okN (lit_ne h5) (okN (rfl) (okN (lit_ne h6) (okN (rfl) (okN (lit_ne h7) (okN (rfl) (okN (lit_ne h8) (okN (rfl) (okN (lit_ne h9) (okN (rfl) (okN (lit_ne h10) (okN (rfl) (okN (lit_ne h11) (okN (rfl) (okN (lit_ne h12) (okN (rfl) (okN (lit_ne h13) (okN (rfl) (okN (lit_ne h14) (okN (rfl) (okN (lit_ne h15) (okN (rfl) (okO_nil))))))))))))))))))))))))))))))))),
    Pure.runO (S := { S0 with orc := orcM [(23, [(6, false), (7, false), (8, false), (9, false), (10, false), (11, false), (12, false), (13, false), (14, false), (16, false), (17, false), (18, false), (19, false), (20, false), (21, false), (22, false)])] }) 400 (o := [(s.toList == (⟨#[43]⟩ : ByteArray).toList, false), (s.toList == (⟨#[45]⟩ : ByteArray).toList, false), (s.toList == (⟨#[42]⟩ : ByteArray).toList, false), (s.toList == (⟨#[113, 117, 111, 116]⟩ : ByteArray).toList, false), (s.toList == (⟨#[114, 101, 109]⟩ : ByteArray).toList, false), (s.toList == (⟨#[60]⟩ : ByteArray).toList, false), (s.toList == (⟨#[61]⟩ : ByteArray).toList, false), (s.toList == (⟨#[99, 111, 110, 115]⟩ : ByteArray).toList, false), (s.toList == (⟨#[109, 97, 114, 107]⟩ : ByteArray).toList, false), (s.toList == (⟨#[102, 105, 114, 115, 116]⟩ : ByteArray).toList, false), (s.toList == (⟨#[114, 101, 115, 116]⟩ : ByteArray).toList, false), (s.toList == (⟨#[99, 111, 117, 110, 116]⟩ : ByteArray).toList, false), (s.toList == (⟨#[108, 105, 115, 116, 63]⟩ : ByteArray).toList, false), (s.toList == (⟨#[110, 117, 109, 63]⟩ : ByteArray).toList, false), (s.toList == (⟨#[115, 121, 109, 63]⟩ : ByteArray).toList, false), (s.toList == (⟨#[115, 116, 111, 112]⟩ : ByteArray).toList, false)]) (by kernel_rfl) (okN (lit_ne' h0) (okN (lit_ne' h1) (okN (lit_ne' h2) (okN (lit_ne' h3) (okN (lit_ne' h4) (okN (lit_ne' h5) (okN (lit_ne' h6) (okN (lit_ne' h7) (okN (lit_ne' h14) (okN (lit_ne' h8) (okN (lit_ne' h9) (okN (lit_ne' h10) (okN (lit_ne' h11) (okN (lit_ne' h12) (okN (lit_ne' h13) (okN (lit_ne' h15) (okO_nil)))))))))))))))))⟩
end Seat
end Go.Proofs.YteimebpgmfhgjaaDoor
namespace Go.Proofs.YteimebpgmfhgjaaDoor
open Go.AS
set_option linter.unusedVariables false
set_option linter.unusedSimpArgs false
set_option maxRecDepth 100000
namespace Seat
def ArP (s : ByteArray) (n : Int) (b : Bool) : Prop := Pure G0 30 [.str s] (fun r => r = .tup [.int .i64 n, .bool b])
def ApP (lo : Nat) (s : ByteArray) (a x : PV) : Prop := x = .junk ∨ Pure (G0.at lo) 34 [.str s, a] (fun r => r = x)
theorem XN {lo : Nat} {s : ByteArray} : ApP lo s .nil .junk := .inl rfl
noncomputable def dS (s : ByteArray) (n : Int) (b : Bool) (a x : PV) (f : Nat) (args : List PV) : Option (PV × Ob) := match f, args with
  | 30, [.str t] => some (.tup [.int .i64 n, .bool b], [(same (.str t) (.str s), true)])
  | 24, [.agg cs] => some (.int .i64 (ofCells chkD 0 cs), [(isGood cs, true)])
  | 34, [.str t, y] => match x with
    | .tup l => some (.tup l, [(same (.str t) (.str s), true), (same y a, true)])
    | _ => none
  | _, _ => none
theorem dS_ok {lo : Nat} {s : ByteArray} {n : Int} {b : Bool} {a x : PV} (hA : ArP s n b) (hX : ApP lo s a x) (f : Nat) (args : List PV) (r : PV) (o : Ob) (h : dS s n b a x f args = some (r, o)) (ho : ∀ p ∈ o, p.1 = p.2) (hpu : pureL args = true) : Pure (G0.at lo) f args (fun x => x = r) := by
  unfold dS at h
  split at h
  · cases h
    have := of_same (ho (same _ _, true) (List.mem_singleton.2 rfl))
    cases this
    exact Pure.at rfl hA lo
  · cases h
    obtain ⟨d, rfl, h1⟩ := isGood_of (ho _ (List.mem_singleton.2 rfl))
    rw [ofCells_at]
    exact Pure.at rfl (dcheck_ok d h1) lo
  · split at h
    · cases h
      have h1 := of_same (ho (same _ _, true) (List.mem_cons_self ..))
      have h2 := of_same (ho (same _ a, true) (List.mem_cons_of_mem _ (List.mem_singleton.2 rfl)))
      cases h1; subst h2
      rcases hX with h | h
      · cases h
      · exact h
    · cases h
  · cases h
noncomputable def SDo (lo : Nat) {s : ByteArray} {n : Int} {b : Bool} {a x : PV} (hA : ArP s n b) (hX : ApP lo s a x) (l : List (Nat × List (Nat × Bool))) (v : List (Nat × List (Nat × PV))) : Cfg (G0.at lo) := { F := F, hF := hF, S := dS s n b a x, hS := dS_ok hA hX, orc := orcM l, val := valM v }
end Seat
end Go.Proofs.YteimebpgmfhgjaaDoor
namespace Go.Proofs.YteimebpgmfhgjaaDoor
open Go.AS
set_option linter.unusedVariables false
set_option linter.unusedSimpArgs false
set_option maxRecDepth 100000
namespace Seat
theorem do_none (s : ByteArray) (ds : Dats) (hA : ArP s 0 false) (lo : Nat) : Pure (G0.at lo) 12 [.str s, .slice ds.len ds.cells] (fun r => r = .tup [.agg [.int .i64 0, .int .i64 0, .str ⟨#[]⟩, .nil], .int .i64 0, .int .i64 5]) := by
  refine Fn.enterN Tryd.func12 Tryd.ntmps12 rfl (Nat.le_of_ble_eq_true rfl) fun C fr fp hnt hp hfr hfp => ?_
  refine Q.runSeq (SDo lo hA XN [] []) 60 48 hnt [0, 1, 4] (z := ⟨[(0, .str s), (1, .slice ds.len ds.cells), (4, .ptr 0 0)], ⟨[⟨[.int .i64 0, .int .i64 0, .str ⟨#[]⟩, .nil], 24⟩], []⟩⟩) (o := []) (by kernel_rfl) okO_nil ?_
  refine Q.runSeq (SDo lo hA XN [] []) 60 48 hnt [0, 1, 4, 7, 8] (z := ⟨[(0, .str s), (1, .slice ds.len ds.cells), (4, .ptr 0 0), (7, .int .i64 0), (8, .bool false)], ⟨[⟨[.int .i64 0, .int .i64 0, .str ⟨#[]⟩, .nil], 24⟩], []⟩⟩) (o := [(true, true), (same (.str s) (.str s), true)]) (by kernel_rfl) (okO_cons rfl (okO_cons (same_of rfl) okO_nil)) ?_
  refine Q.seq fun K hK => ?_
  refine SWP.runQ (SDo lo hA XN [] []) 60 48 hnt [4, 5, 6] (e := .ret) (z := ⟨[(4, .ptr 0 0), (5, .int .i64 0), (6, .int .i64 5)], ⟨[⟨[.int .i64 0, .int .i64 0, .str ⟨#[]⟩, .nil], 24⟩], []⟩⟩) (o := []) (by kernel_rfl) okO_nil (fun st hs => hfr st [4, 5, 6] ?_)
  rw [hs]
  exact ⟨0, .tup [.agg [.int .i64 0, .int .i64 0, .str ⟨#[]⟩, .nil], .int .i64 0, .int .i64 5], Nat.le_refl _, Nat.zero_le _, rfl, rfl, rfl, rfl, _, rfl, rfl⟩
def DoR (lo : Nat) (s : ByteArray) (ds : Dats) (n : Int) (r : PV) : Prop := (∃ i, i < ds.len ∧ (∀ j, j < i → chkD (ds.get j) = 0) ∧ chkD (ds.get i) ≠ 0 ∧ r = .tup [.agg [.int .i64 0, .int .i64 0, .str ⟨#[]⟩, .nil], .int .i64 0, .int .i64 (chkD (ds.get i))]) ∨
  ((∀ i, i < ds.len → chkD (ds.get i) = 0) ∧ (((ds.len : Int) ≠ n ∧ r = .tup [.agg [.int .i64 0, .int .i64 0, .str ⟨#[]⟩, .nil], .int .i64 (-2), .int .i64 0]) ∨
    ((ds.len : Int) = n ∧ ∃ k nn ss F kl kc c, ApP lo s (.slice ds.len ds.cells) (.tup [.agg [.int .i64 k, .int .i64 nn, .str ss, .sl F kl kc], .int .i64 c]) ∧ r = .tup [.agg [.int .i64 k, .int .i64 nn, .str ss, .sl F kl kc], .int .i64 c, .int .i64 0])))
theorem do_ok (s : ByteArray) (ds : Dats) (n : Int) (hA : ArP s n true) (hl : ds.len ≤ 1000) (hg : ∀ i, i < ds.len → Good (ds.get i)) (lo : Nat) (r : PV) (hr : DoR lo s ds n r) : Pure (G0.at lo) 12 [.str s, .slice ds.len ds.cells] (fun x => x = r) := by
  refine Fn.enterB Tryd.func12 Tryd.ntmps12 rfl (Nat.le_of_ble_eq_true rfl) fun C fr fp hnt hnb hp hfr hfp => ?_
  refine Q.runSeq (SDo lo hA XN [] []) 60 48 hnt [0, 1, 4] (z := ⟨[(0, .str s), (1, .slice ds.len ds.cells), (4, .ptr 0 0)], ⟨[⟨[.int .i64 0, .int .i64 0, .str ⟨#[]⟩, .nil], 24⟩], []⟩⟩) (o := []) (by kernel_rfl) okO_nil ?_
  refine Q.runSeq (SDo lo hA XN [] []) 60 48 hnt [0, 1, 4, 7, 8] (z := ⟨[(0, .str s), (1, .slice ds.len ds.cells), (4, .ptr 0 0), (7, .int .i64 n), (8, .bool true)], ⟨[⟨[.int .i64 0, .int .i64 0, .str ⟨#[]⟩, .nil], 24⟩], []⟩⟩) (o := [(true, true), (same (.str s) (.str s), true)]) (by kernel_rfl) (okO_cons rfl (okO_cons (same_of rfl) okO_nil)) ?_
  refine Q.runSeq (SDo lo hA XN [] []) 60 48 hnt [0, 1, 4, 7] (z := ⟨[(0, .str s), (1, .slice ds.len ds.cells), (4, .ptr 0 0), (7, .int .i64 n)], ⟨[⟨[.int .i64 0, .int .i64 0, .str ⟨#[]⟩, .nil], 24⟩], []⟩⟩) (o := []) (by kernel_rfl) okO_nil ?_
  refine Q.seq fun K hK => ?_
  let T (i : Nat) : AS := ⟨[(0, .str s), (1, .slice ds.len ds.cells), (4, .ptr 0 0), (7, .int .i64 n), (22, .slice ds.len ds.cells), (23, .int .i64 ds.len), (24, .int .i64 i)], ⟨[⟨[.int .i64 0, .int .i64 0, .str ⟨#[]⟩, .nil], 24⟩], []⟩⟩
  refine Q.runSeq (SDo lo hA XN [] []) 60 48 hnt [0, 1, 4, 7, 22, 23, 24] (z := T 0) (o := []) (by kernel_rfl) okO_nil ?_
  refine Q.block ?_
  refine Q.loopH (σ := { i : Nat // i ≤ ds.len ∧ ∀ j, j < i → chkD (ds.get j) = 0 }) [0, 1, 4, 7, 22, 23, 24] 1 (by rw [hnb]; exact Nat.zero_le _) (fun i => T i.1) (fun i => ds.len - i.1) ⟨0, Nat.zero_le _, fun j h => absurd h (Nat.not_lt_zero _)⟩ (fun x => ⟨rfl, rfl, rfl⟩) ⟨[], rfl⟩ fun ⟨i, hi, hgood⟩ => ?_
  rcases Nat.lt_or_ge i ds.len with hlt | hge
  · obtain ⟨k, nn, ss, ks, hget⟩ := Dats.get_mk ds i
    have hgi := hg i hlt
    rw [hget] at hgi
    have c1 : isGood [.int .i64 k, .int .i64 nn, .str ss, .slice ks.len ks.cells] = true := isGood_at hgi
    have c2 : ofCells chkD (0 : Int) [.int .i64 k, .int .i64 nn, .str ss, .slice ks.len ks.cells] = chkD (ds.get i) := by rw [hget]; exact ofCells_at _ _ (.mk k nn ss ks)
    by_cases hc : chkD (ds.get i) = 0
    · have hgood' : ∀ j, j < i + 1 → chkD (ds.get j) = 0 := fun j hj => by
        rcases Nat.lt_succ_iff_lt_or_eq.1 hj with h | rfl
        · exact hgood j h
        · exact hc
      refine SWP.runQ (SDo lo hA XN [(48, [(25, true), (26, true), (27, true), (31, false)])] [(48, [(27, .agg [.int .i64 k, .int .i64 nn, .str ss, .slice ks.len ks.cells])])]) 100 48 hnt [0, 1, 4, 7, 22, 23, 24] (e := .normal) (z := ⟨[(0, .str s), (1, .slice ds.len ds.cells), (4, .ptr 0 0), (7, .int .i64 n), (22, .slice ds.len ds.cells), (23, .int .i64 ds.len), (24, .int .i64 (IntKind.i64.wrap ((i : Int) + 1)))], ⟨[⟨[.int .i64 0, .int .i64 0, .str ⟨#[]⟩, .nil], 24⟩, ⟨[.int .i64 k, .int .i64 nn, .str ss, .slice ks.len ks.cells], 24⟩], []⟩⟩) (o := [(decide ((i : Int) < (ds.len : Int)), true), (true, true), (decide (0 ≤ (i : Int) ∧ (i : Int) < (ds.len : Int)), true), (decide (4 ≤ (ds.cells.drop ((i : Int).toNat * 4)).length), true), (same (.agg ((ds.cells.drop ((i : Int).toNat * 4)).take 4)) (.agg [.int .i64 k, .int .i64 nn, .str ss, .slice ks.len ks.cells]), true), (true, true), (isGood [.int .i64 k, .int .i64 nn, .str ss, .slice ks.len ks.cells], true), (!ofCells chkD (0 : Int) [.int .i64 k, .int .i64 nn, .str ss, .slice ks.len ks.cells] == (0 : Int),  false), (false, false)]) (by kernel_rfl) (okO_cons (lt_at hlt) (okO_cons (rfl) (okO_cons (in_at hlt) (okO_cons (kid_len hlt) (okO_cons (kid_same' hlt hget) (okO_cons (rfl) (okO_cons (c1) (okO_cons (by rw [c2, hc]; rfl) (okO_cons (rfl) okO_nil))))))))) (fun st hs => ⟨⟨i + 1, hlt, hgood'⟩, Nat.sub_lt_sub_left hlt (Nat.lt_succ_self i), [⟨[.int .i64 k, .int .i64 nn, .str ss, .slice ks.len ks.cells], 24⟩], ?_⟩)
      rw [hs, wrap1 i (by omega)]
      rfl
    · refine SWP.runQ (SDo lo hA XN [(48, [(25, true), (26, true), (27, true), (31, true)])] [(48, [(27, .agg [.int .i64 k, .int .i64 nn, .str ss, .slice ks.len ks.cells])])]) 100 48 hnt [4, 5, 6] (e := .ret) (z := ⟨[(4, .ptr 0 0), (5, .int .i64 0), (6, .int .i64 (ofCells chkD (0 : Int) [.int .i64 k, .int .i64 nn, .str ss, .slice ks.len ks.cells]))], ⟨[⟨[.int .i64 0, .int .i64 0, .str ⟨#[]⟩, .nil], 24⟩, ⟨[.int .i64 k, .int .i64 nn, .str ss, .slice ks.len ks.cells], 24⟩], []⟩⟩) (o := [(decide ((i : Int) < (ds.len : Int)), true), (true, true), (decide (0 ≤ (i : Int) ∧ (i : Int) < (ds.len : Int)), true), (decide (4 ≤ (ds.cells.drop ((i : Int).toNat * 4)).length), true), (same (.agg ((ds.cells.drop ((i : Int).toNat * 4)).take 4)) (.agg [.int .i64 k, .int .i64 nn, .str ss, .slice ks.len ks.cells]), true), (true, true), (isGood [.int .i64 k, .int .i64 nn, .str ss, .slice ks.len ks.cells], true), (!ofCells chkD (0 : Int) [.int .i64 k, .int .i64 nn, .str ss, .slice ks.len ks.cells] == (0 : Int),  true), (true, true)]) (by kernel_rfl) (okO_cons (lt_at hlt) (okO_cons (rfl) (okO_cons (in_at hlt) (okO_cons (kid_len hlt) (okO_cons (kid_same' hlt hget) (okO_cons (rfl) (okO_cons (c1) (okO_cons (by rw [c2]; simpa using hc) (okO_cons (rfl) okO_nil))))))))) (fun st hs => hfr st [4, 5, 6] ?_)
      rw [hs, c2]
      refine ⟨0, .tup [.agg [.int .i64 0, .int .i64 0, .str ⟨#[]⟩, .nil], .int .i64 0, .int .i64 (chkD (ds.get i))], Nat.le_refl _, Nat.zero_le _, rfl, rfl, rfl, rfl, _, rfl, ?_⟩
      rcases hr with ⟨i0, h1, h2, h3, rfl⟩ | ⟨h1, _⟩
      · obtain rfl : i = i0 := by
          rcases Nat.lt_trichotomy i i0 with h | h | h
          · exact absurd (h2 i h) hc
          · exact h
          · exact absurd (hgood i0 h) h3
        rfl
      · exact absurd (h1 i hlt) hc
  · obtain rfl : i = ds.len := Nat.le_antisymm hi hge
    refine SWP.runQ (SDo lo hA XN [(48, [(25, false)])] []) 100 48 hnt [0, 1, 4, 7] (e := .exit 0) (z := ⟨[(0, .str s), (1, .slice ds.len ds.cells), (4, .ptr 0 0), (7, .int .i64 n)], ⟨[⟨[.int .i64 0, .int .i64 0, .str ⟨#[]⟩, .nil], 24⟩], []⟩⟩) (o := [(decide ((ds.len : Int) < (ds.len : Int)), false), (false, false)]) (by kernel_rfl) (okO_cons (ge_at hge) (okO_cons (rfl) okO_nil)) (fun st hs => hK st (.norm [0, 1, 4, 7] ?_))
    rw [hs]
    rcases hr with ⟨i0, h1, _, h3, _⟩ | ⟨_, ⟨h1, rfl⟩ | ⟨h1, k, nn, ss, F, kl, kc, c, hX, rfl⟩⟩
    · exact absurd (hgood i0 h1) h3
    · refine Q.seq fun K2 hK2 => ?_
      refine SWP.runQ (SDo lo hA XN [(48, [(38, true)])] []) 100 48 hnt [4, 5, 6] (e := .ret) (z := ⟨[(4, .ptr 0 0), (5, .int .i64 (-2)), (6, .int .i64 0)], ⟨[⟨[.int .i64 0, .int .i64 0, .str ⟨#[]⟩, .nil], 24⟩], []⟩⟩) (o := [(!Int.ofNat ds.len == n, true), (true, true)]) (by kernel_rfl) (okO_cons (by simpa using h1) (okO_cons (rfl) okO_nil)) (fun st hs => hfr st [4, 5, 6] ?_)
      rw [hs]
      exact ⟨0, .tup [.agg [.int .i64 0, .int .i64 0, .str ⟨#[]⟩, .nil], .int .i64 (-2), .int .i64 0], Nat.le_refl _, Nat.zero_le _, rfl, rfl, rfl, rfl, _, rfl, rfl⟩
    · refine Q.runSeq (SDo lo hA XN [(48, [(38, false)])] []) 100 48 hnt [0, 1, 4] (z := ⟨[(0, .str s), (1, .slice ds.len ds.cells), (4, .ptr 0 0)], ⟨[⟨[.int .i64 0, .int .i64 0, .str ⟨#[]⟩, .nil], 24⟩], []⟩⟩) (o := [(!Int.ofNat ds.len == n, false), (false, false)]) (by kernel_rfl) (okO_cons (by simpa using h1) (okO_cons (rfl) okO_nil)) ?_
      refine SWP.runQ (SDo lo hA hX [] []) 100 48 hnt [4, 5, 6] (e := .ret) (z := ⟨[(4, .ptr 0 0), (5, .int .i64 c), (6, .int .i64 0)], ⟨[⟨[.int .i64 k, .int .i64 nn, .str ss, .sl F kl kc], 24⟩, ⟨[.int .i64 k, .int .i64 nn, .str ss, .sl F kl kc], 24⟩], []⟩⟩) (o := [(true, true), (same (.str s) (.str s), true), (same (.slice ds.len ds.cells) (.slice ds.len ds.cells), true)]) (by kernel_rfl) (okO_cons (rfl) (okO_cons (same_of rfl) (okO_cons (same_of rfl) okO_nil))) (fun st hs => hfr st [4, 5, 6] ?_)
      rw [hs]
      exact ⟨0, .tup [.agg [.int .i64 k, .int .i64 nn, .str ss, .sl F kl kc], .int .i64 c, .int .i64 0], Nat.le_refl _, Nat.zero_le _, rfl, rfl, rfl, rfl, _, rfl, rfl⟩
end Seat
end Go.Proofs.YteimebpgmfhgjaaDoor
namespace Go.Proofs.YteimebpgmfhgjaaDoor
open Go.AS Go.RowKit
set_option linter.unusedVariables false
set_option linter.unusedSimpArgs false
set_option maxRecDepth 100000
set_option maxHeartbeats 4000000
namespace Seat
theorem sameB {a b : Bool} (h : a = b) : same (.bool a) (.bool b) = true := same_of (by rw [h])
theorem eqD_self (d : Dat) : eqD d d = true := eqD_refl d
theorem wrapI (a : Nat) (h : a ≤ 9223372036854775807) : IntKind.wrap IntKind.i64 (Int.ofNat a) = ((a : Nat) : Int) := wrapC a h
noncomputable def eqC (cs ds : List PV) : Bool := ofCells (fun d => ofCells (fun e => eqD d e) false ds) false cs
theorem eqC_at (d e : Dat) : eqC d.cells e.cells = eqD d e := by unfold eqC; rw [ofCells_at, ofCells_at]
noncomputable def rbS (f : Nat) (args : List PV) : Option (PV × Ob) := match f, args with
  | 14, [.agg cs, .agg ds] => some (.bool (eqC cs ds), [(isOk cs, true), (isOk ds, true)])
  | _, _ => none
theorem rbS_ok (f : Nat) (args : List PV) (r : PV) (o : Ob) (h : rbS f args = some (r, o)) (ho : ∀ p ∈ o, p.1 = p.2) (_ : pureL args = true) : Pure G0 f args (fun x => x = r) := by
  unfold rbS at h
  split at h
  · rename_i cs ds _
    cases h
    obtain ⟨d, rfl, h1⟩ := isOk_of (ho (isOk cs, true) (by simp))
    obtain ⟨e, rfl, h2⟩ := isOk_of (ho (isOk ds, true) (by simp))
    rw [eqC_at]
    exact same_ok d e h1 h2
  · cases h
noncomputable def SRb (l : List (Nat × List (Nat × Bool))) (v : List (Nat × List (Nat × PV))) : Cfg G0 := { F := F, hF := hF, S := rbS, hS := rbS_ok, orc := orcM l, val := valM v }
theorem lists_same (ks : Dats) (hok : ks.ok) (hl : ks.len ≤ 9223372036854775807) : Pure G0 18 [.slice ks.len ks.cells, .slice ks.len ks.cells] (fun r => r = .bool true) := by
  refine Fn.enterB Tryd.func18 Tryd.ntmps18 rfl (Nat.le_of_ble_eq_true rfl) fun C fr fp hnt hnb hp hfr hfp => ?_
  have d0 : (!(ks.len : Int) == (ks.len : Int)) = false := by rw [beq_self_eq_true]; rfl
  refine Q.runSeq (SRb [] []) 100 27 hnt [0, 1] (z := ⟨[(0, .slice (Dats.len ks) (Dats.cells ks)), (1, .slice (Dats.len ks) (Dats.cells ks))], ⟨[], []⟩⟩) (o := []) (by kernel_rfl) (by repeat' first | exact okO_nil | refine okN ?_ ?_ | assumption | rfl) ?_
  refine Q.runSeq (SRb [(27, [(10, false)])] []) 100 27 hnt [0, 1] (z := ⟨[(0, .slice (Dats.len ks) (Dats.cells ks)), (1, .slice (Dats.len ks) (Dats.cells ks))], ⟨[], []⟩⟩) (o := [(!Int.ofNat (Dats.len ks) == Int.ofNat (Dats.len ks), false), (false, false)]) (by kernel_rfl) (by repeat' first | exact okO_nil | refine okN ?_ ?_ | assumption | rfl) ?_
  refine Q.seq fun K hK => ?_
  refine Q.runSeq (SRb [] []) 100 27 hnt [0, 1, 5] (z := ⟨[(0, .slice ks.len ks.cells), (1, .slice ks.len ks.cells), (5, .int .i64 (0 : Nat))], ⟨[], []⟩⟩) (o := []) (by kernel_rfl) (by repeat' first | exact okO_nil | refine okN ?_ ?_ | assumption | rfl) ?_
  refine Q.block ?_
  let T (j : Nat) : AS := ⟨[(0, .slice ks.len ks.cells), (1, .slice ks.len ks.cells), (5, .int .i64 j)], ⟨[], []⟩⟩
  refine Q.loopI (σ := { j : Nat // j ≤ ks.len }) [0, 1, 5] (fun j => T j.1) (fun j => ks.len - j.1) ⟨0, Nat.zero_le _⟩ rfl fun ⟨j, hj⟩ => ?_
  show SWP G0 C _ _ ⟨[(0, .slice ks.len ks.cells), (1, .slice ks.len ks.cells), (5, .int .i64 j)], ⟨[], []⟩⟩
  refine Q.seq fun K2 hK2 => ?_
  rcases Nat.lt_or_ge j ks.len with hlt | hge
  · have d1 := lt_at hlt
    have d2 := in_at hlt
    refine SWP.runQ (SRb [(27, [(14, true)])] []) 100 27 hnt [0, 1, 5] (e := .normal) (z := ⟨[(0, .slice (Dats.len ks) (Dats.cells ks)), (1, .slice (Dats.len ks) (Dats.cells ks)), (5, .int .i64 (Int.ofNat j))], ⟨[], []⟩⟩) (o := [(decide ((↑j : Int) < (↑(Dats.len ks) : Int)), true), (true, true)]) (by kernel_rfl) (by repeat' first | exact okO_nil | refine okN ?_ ?_ | assumption | rfl) (fun st hst => hK2 st (.norm [0, 1, 5] ?_))
    rw [hst]
    rcases hget : ks.get j with ⟨k', n', s', ks'⟩
    have hoj := Dats.get_ok ks j hlt hok
    rw [hget] at hoj
    have d4 : decide (TD.size d24 ≤ List.length (List.drop (Int.toNat (j : Int) * TD.size d24) (Dats.cells ks))) = true := kid_len hlt
    have d5 := kid_same' hlt hget
    have d6 : isOk [PV.int IntKind.i64 k', PV.int IntKind.i64 n', PV.str s', PV.slice (Dats.len ks') (Dats.cells ks')] = true := isOk_at (d := .mk k' n' s' ks') hoj
    have d7 : same (PV.bool (eqC [PV.int IntKind.i64 k', PV.int IntKind.i64 n', PV.str s', PV.slice (Dats.len ks') (Dats.cells ks')] [PV.int IntKind.i64 k', PV.int IntKind.i64 n', PV.str s', PV.slice (Dats.len ks') (Dats.cells ks')])) (PV.bool true) = true := sameB ((eqC_at (.mk k' n' s' ks') (.mk k' n' s' ks')).trans (eqD_self _))
    refine Q.seq fun K3 hK3 => ?_
    refine Q.block ?_
    refine Q.seq fun K4 hK4 => ?_
    refine SWP.runLQ (SRb [(27, [(19, true), (20, true), (23, true), (24, true)])] [(27, [(20, .agg [.int .i64 k', .int .i64 n', .str s', .slice ks'.len ks'.cells]), (24, .agg [.int .i64 k', .int .i64 n', .str s', .slice ks'.len ks'.cells]), (25, .bool true)])]) 100 27 hnt [0, 1, 5, 26] (l := List.replicate 1 { t := [(0, PV.slice (Dats.len ks) (Dats.cells ks)), (1, PV.slice (Dats.len ks) (Dats.cells ks)), (5, PV.int IntKind.i64 (Int.ofNat j)), (26, PV.bool false)], h := { bx := [], rw := [] } }) (o := [(decide (0 ≤ (↑j : Int) ∧ (↑j : Int) < (↑(Dats.len ks) : Int)), true), (decide (TD.size d24 ≤ List.length (List.drop (Int.toNat (↑j : Int) * TD.size d24) (Dats.cells ks))), true), (same (PV.agg (List.take 4 (List.drop (Int.toNat (Int.ofNat j) * 4) (Dats.cells ks)))) (PV.agg [PV.int IntKind.i64 k', PV.int IntKind.i64 n', PV.str s', PV.slice (Dats.len ks') (Dats.cells ks')]), true), (decide (0 ≤ (↑j : Int) ∧ (↑j : Int) < (↑(Dats.len ks) : Int)), true), (decide (TD.size d24 ≤ List.length (List.drop (Int.toNat (↑j : Int) * TD.size d24) (Dats.cells ks))), true), (same (PV.agg (List.take 4 (List.drop (Int.toNat (Int.ofNat j) * 4) (Dats.cells ks)))) (PV.agg [PV.int IntKind.i64 k', PV.int IntKind.i64 n', PV.str s', PV.slice (Dats.len ks') (Dats.cells ks')]), true), (true, true), (isOk [PV.int IntKind.i64 k', PV.int IntKind.i64 n', PV.str s', PV.slice (Dats.len ks') (Dats.cells ks')], true), (isOk [PV.int IntKind.i64 k', PV.int IntKind.i64 n', PV.str s', PV.slice (Dats.len ks') (Dats.cells ks')], true), (same (.bool (eqC [PV.int IntKind.i64 k', PV.int IntKind.i64 n', PV.str s', PV.slice (Dats.len ks') (Dats.cells ks')] [PV.int IntKind.i64 k', PV.int IntKind.i64 n', PV.str s', PV.slice (Dats.len ks') (Dats.cells ks')])) (.bool true), true)]) (by kernel_rfl) (by repeat' first | exact okO_nil | refine okN ?_ ?_ | assumption | rfl) (fun st hst => hK4 st (.norm [0, 1, 5, 26] ?_))
    rw [List.eq_of_mem_replicate hst]
    refine Q.cond (b := false) rfl (fun h => by cases h) (fun _ => ?_)
    refine .skip (hK3 _ (.norm [0, 1, 5] ?_))
    have wj : IntKind.wrap IntKind.i64 (Int.ofNat (j + 1)) = ((j + 1 : Nat) : Int) := wrapI (j + 1) (by omega)
    exact SWP.runQ (SRb [] []) 100 27 hnt [0, 1, 5] (e := .normal) (z := ⟨[(0, .slice (Dats.len ks) (Dats.cells ks)), (1, .slice (Dats.len ks) (Dats.cells ks)), (5, .int .i64 (IntKind.wrap IntKind.i64 (Int.ofNat (j + 1))))], ⟨[], []⟩⟩) (o := []) (by kernel_rfl) (by repeat' first | exact okO_nil | refine okN ?_ ?_ | assumption | rfl) (fun st hst => ⟨⟨j + 1, hlt⟩, Nat.sub_lt_sub_left hlt (Nat.lt_succ_self j), by rw [hst, wj]⟩)
  · have d1 := ge_at hge
    refine SWP.runQ (SRb [(27, [(14, false)])] []) 100 27 hnt [0] (e := .exit 0) (z := ⟨[(0, .slice (Dats.len ks) (Dats.cells ks))], ⟨[], []⟩⟩) (o := [(decide ((↑j : Int) < (↑(Dats.len ks) : Int)), false), (false, false)]) (by kernel_rfl) (by repeat' first | exact okO_nil | refine okN ?_ ?_ | assumption | rfl) (fun st hst => hK st (.norm [] ?_))
    have e : nrm [] st = ⟨[], ⟨[], []⟩⟩ := by
      have : st.h = ⟨[], []⟩ := congrArg AS.h hst
      unfold nrm; rw [this]; rfl
    rw [e]
    exact SWP.runQ (SRb [] []) 100 27 hnt [4] (e := .ret) (z := ⟨[(4, .bool true)], ⟨[], []⟩⟩) (o := []) (by kernel_rfl) (by repeat' first | exact okO_nil | refine okN ?_ ?_ | assumption | rfl) (fun st hst => hfr st [4] (by
      rw [hst]
      exact ⟨0, .bool true, Nat.le_refl _, Nat.zero_le _, rfl, rfl, rfl, rfl, _, rfl, rfl⟩))
end Seat
end Go.Proofs.YteimebpgmfhgjaaDoor
namespace Go.Proofs.YteimebpgmfhgjaaDoor
open Go.AS
set_option linter.unusedVariables false
set_option linter.unusedSimpArgs false
set_option maxRecDepth 100000
namespace Seat
def ArR (s : ByteArray) (n : Int) (b : Bool) : Prop := Pure G0 31 [.str s] (fun r => r = .tup [.int .i64 n, .bool b])
noncomputable def rdS (s : ByteArray) (n : Int) (b : Bool) (f : Nat) (args : List PV) : Option (PV × Ob) := match f, args with
  | 31, [.str t] => some (.tup [.int .i64 n, .bool b], [(same (.str t) (.str s), true)])
  | _, _ => none
theorem rdS_ok {s : ByteArray} {n : Int} {b : Bool} (hA : ArR s n b) (f : Nat) (args : List PV) (r : PV) (o : Ob) (h : rdS s n b f args = some (r, o)) (ho : ∀ p ∈ o, p.1 = p.2) (hpu : pureL args = true) : Pure G0 f args (fun x => x = r) := by
  unfold rdS at h
  split at h
  · cases h
    have := of_same (ho (same _ _, true) (List.mem_singleton.2 rfl))
    cases this
    exact hA
  · cases h
noncomputable def SRd {s : ByteArray} {n : Int} {b : Bool} (hA : ArR s n b) (l : List (Nat × List (Nat × Bool))) : Cfg G0 := { F := F, hF := hF, S := rdS s n b, hS := rdS_ok hA, orc := orcM l }
theorem rdo_none (s : ByteArray) (m : Nat) (cs : List PV) (hA : ArR s 0 false) : Pure G0 13 [.str s, .slice m cs] (fun r => r = .tup [.agg [.int .i64 0, .int .i64 0, .str ⟨#[]⟩, .nil], .int .i64 0, .bool false]) :=
  Pure.runO (S := SRd hA []) 200 (o := [(true, true), (same (.str s) (.str s), true)]) (by kernel_rfl) (okO_cons rfl (okO_cons (same_of rfl) okO_nil))
theorem rdo_many (s : ByteArray) (m : Nat) (cs : List PV) (n : Int) (hA : ArR s n true) (h : (m : Int) ≠ n) : Pure G0 13 [.str s, .slice m cs] (fun r => r = .tup [.agg [.int .i64 0, .int .i64 0, .str ⟨#[]⟩, .nil], .int .i64 (-2), .bool true]) :=
  Pure.runO (S := SRd hA [(209, [(24, true)])]) 200 (o := [(true, true), (same (.str s) (.str s), true), (!Int.ofNat m == n, true), (true, true)]) (by kernel_rfl) (okO_cons rfl (okO_cons (same_of rfl) (okO_cons (by simpa using h) (okO_cons rfl okO_nil))))
noncomputable def pS (s : ByteArray) (m : Nat) (cs : List PV) (x y : PV) (f : Nat) (args : List PV) : Option (PV × Ob) := match f, args with
  | 12, [.str t, a] => match x with
    | .tup l => some (.tup l, [(same (.str t) (.str s), true), (same a.strip (.slice m cs), true)])
    | _ => none
  | 13, [.str t, a] => match y with
    | .tup l => some (.tup l, [(same (.str t) (.str s), true), (same a.strip (.slice m cs), true)])
    | _ => none
  | 14, [.agg a, .agg b] => some (.bool (ofCells2 eqD false (stripL a) (stripL b)), [(isOk (stripL a), true), (isOk (stripL b), true)])
  | 16, [.agg a] => some (.int .i64 (ofCells chkD 0 (stripL a)), [(isSmc (stripL a), true)])
  | 18, [a, b] => some (.bool true, [(same a (.slice m cs), true), (same b (.slice m cs), true)])
  | 15, [] => some (.bool true, [])
  | _, _ => none
structure PH (lo : Nat) (s : ByteArray) (m : Nat) (cs : List PV) (x y : PV) : Prop where
  hx : Pure (G0.at lo) 12 [.str s, .slice m cs] (fun r => r = x)
  hy : Pure G0 13 [.str s, .slice m cs] (fun r => r = y)
  hl : Pure G0 18 [.slice m cs, .slice m cs] (fun r => r = .bool true)
theorem pS_ok {lo : Nat} {s : ByteArray} {m : Nat} {cs : List PV} {x y : PV} (hp : PH lo s m cs x y) (f : Nat) (args : List PV) (r : PV) (o : Ob) (h : pS s m cs x y f args = some (r, o)) (ho : ∀ p ∈ o, p.1 = p.2) (hpu : pureL args = true) : Pure (G0.at lo) f args (fun x => x = r) := by
  clear hpu
  unfold pS at h
  split at h
  · rename_i t a
    split at h
    · cases h
      have h1 := of_same (ho (same _ _, true) (List.mem_cons_self ..))
      have h2 := of_same (ho (same _ (.slice m cs), true) (List.mem_cons_of_mem _ (List.mem_singleton.2 rfl)))
      cases h1
      refine Pure.strip ?_
      simp only [stripL, h2]
      exact hp.hx
    · cases h
  · rename_i t a
    split at h
    · cases h
      have h1 := of_same (ho (same _ _, true) (List.mem_cons_self ..))
      have h2 := of_same (ho (same _ (.slice m cs), true) (List.mem_cons_of_mem _ (List.mem_singleton.2 rfl)))
      cases h1
      refine Pure.strip ?_
      simp only [stripL, h2]
      exact Pure.at rfl hp.hy lo
    · cases h
  · rename_i a b
    cases h
    obtain ⟨d, hd, h1⟩ := isOk_of (ho (isOk (stripL a), true) (List.mem_cons_self ..))
    obtain ⟨e, he, h2⟩ := isOk_of (ho (isOk (stripL b), true) (List.mem_cons_of_mem _ (List.mem_singleton.2 rfl)))
    refine Pure.strip ?_
    show Pure _ _ [.agg (stripL a), .agg (stripL b)] _
    rw [← hd, ← he, ofCells2_at]
    exact Pure.at rfl (same_ok d e h1 h2) lo
  · rename_i a
    cases h
    obtain ⟨d, hd, h1⟩ := isSmc_of (ho _ (List.mem_singleton.2 rfl))
    refine Pure.strip ?_
    show Pure _ _ [.agg (stripL a)] _
    rw [← hd, ofCells_at]
    exact Pure.at rfl (rcheck_ok d h1) lo
  · cases h
    have h1 := of_same (ho (same _ (.slice m cs), true) (List.mem_cons_self ..))
    have h2 := of_same (ho (same _ (.slice m cs), true) (List.mem_cons_of_mem _ (List.mem_singleton.2 rfl)))
    subst h1; subst h2
    exact Pure.at rfl hp.hl lo
  · cases h
    exact Pure.at rfl alive lo
  · cases h
noncomputable def SPd {lo : Nat} {s : ByteArray} {m : Nat} {cs : List PV} {x y : PV} (hp : PH lo s m cs x y) (l : List (Nat × List (Nat × Bool))) (v : List (Nat × List (Nat × PV))) : Cfg (G0.at lo) := { F := F, hF := hF, S := pS s m cs x y, hS := pS_ok hp, orc := orcM l, val := valM v }
end Seat
end Go.Proofs.YteimebpgmfhgjaaDoor
namespace Go.Proofs.YteimebpgmfhgjaaDoor
open Go.AS
set_option linter.unusedVariables false
set_option linter.unusedSimpArgs false
set_option maxRecDepth 100000
namespace Seat
def DX2 (k n : Int) (s : ByteArray) (x : PV) : Box := ⟨[.int .i64 k, .int .i64 n, .str s, x], 24⟩
def cuts : Dats → Nat → Dats
  | .nil, _ => .nil
  | .cons _ _, 0 => .nil
  | .cons d ds, i + 1 => .cons (cutD d 1020 2000).1 (cuts ds i)
theorem cuts_zero (ks : Dats) : cuts ks 0 = .nil := by cases ks <;> rfl
theorem cuts_len : ∀ (ks : Dats) (i : Nat), i ≤ ks.len → (cuts ks i).len = i
  | .nil, i, h => by
    simp only [Dats.len, Nat.le_zero] at h
    subst h
    rfl
  | .cons d ds, 0, _ => rfl
  | .cons d ds, i + 1, h => by
    simp only [cuts, Dats.len] at h ⊢
    rw [cuts_len ds i (by omega)]
    try omega
theorem cuts_snoc : ∀ (ks : Dats) (i : Nat), i < ks.len → (cuts ks (i + 1)).cells = (cuts ks i).cells ++ (cutD (ks.get i) 1020 2000).1.cells
  | .nil, i, h => absurd h (Nat.not_lt_zero _)
  | .cons d ds, 0, _ => by simp only [cuts, cuts_zero, Dats.cells, Dats.get, List.append_nil, List.nil_append]
  | .cons d ds, i + 1, h => by
    have h' : i < ds.len := by simp only [Dats.len] at h; omega
    simp only [cuts, Dats.cells, Dats.get, List.append_assoc]
    rw [← cuts_snoc ds i h']
theorem cuts_get : ∀ (ks : Dats) (i j : Nat), j < i → i ≤ ks.len → (cuts ks i).get j = (cutD (ks.get j) 1020 2000).1
  | .nil, i, j, h, h2 => by simp only [Dats.len, Nat.le_zero] at h2; omega
  | .cons d ds, 0, j, h, _ => absurd h (Nat.not_lt_zero _)
  | .cons d ds, i + 1, 0, h, _ => by simp only [cuts, Dats.get]
  | .cons d ds, i + 1, j + 1, h, h2 => by
    simp only [cuts, Dats.get]
    exact cuts_get ds i j (by omega) (by simp only [Dats.len] at h2; omega)
theorem cuts_ok : ∀ (ks : Dats) (i : Nat), ks.ok → (cuts ks i).ok
  | .nil, i, h => h
  | .cons d ds, 0, h => by simp only [cuts, Dats.ok]
  | .cons d ds, i + 1, h => by
    simp only [cuts, Dats.ok] at h ⊢
    exact ⟨cutD_ok d 1020 2000 h.1, cuts_ok ds i h.2⟩
theorem get_rng : ∀ (ks : Dats) (j : Nat), j < ks.len → ks.rng → (ks.get j).rng
  | .nil, j, h, _ => absurd h (Nat.not_lt_zero _)
  | .cons d ds, 0, _, h => by simp only [Dats.rng] at h; exact h.1
  | .cons d ds, j + 1, h, h2 => by
    simp only [Dats.rng] at h2
    simp only [Dats.get]
    exact get_rng ds j (by simp only [Dats.len] at h; omega) h2.2
theorem cutS_size (s : ByteArray) : (cutS s).size ≤ 1000 := by
  unfold cutS
  rw [ByteArray.size_extract]
  omega
theorem fit_cut (d : Dat) (ho : d.ok) (hr : d.rng) : FitD (cutD d 1020 2000).1 := by
  have h1 := cut_small d ho hr 2000 1020 (by omega) (by omega)
  have h2 := cutD_parts d 1020 2000 (by omega)
  obtain ⟨k, n, s, ks⟩ := d
  have e : (cutD (.mk k n s ks) 1020 2000).1 = .mk k n (cutS s) (cutL ks 1020 (2000 - 1)).1 := by simp only [cutD]
  rw [e] at h1 h2 ⊢
  exact ⟨h1.1, h1.2.1, by omega, cutS_size s⟩
theorem VRep.tslL {E : Env} {w : World} {a b c : PV} {xs : List PV} {S : Nat → Prop} {v : Value} (h : VRep E w (.tup (.agg [a, b, c, .nil] :: xs)) v) : VRep E w (.tup (.agg [a, b, c, .sl (OwnN 1 S) 0 []] :: xs)) v := by
  have hn : ∀ (y : PV) (u : Value), VRep E w y u → y = .nil → VRep E w (.sl (OwnN 1 S) 0 []) u := fun y u hu he => by
    subst he
    obtain rfl := hu.nil_inv
    exact .imm (.sl .slice0 rfl fun w' _ => ⟨none, 0, 0, rfl, .inl ⟨rfl, fun _ => rfl⟩⟩)
  obtain ⟨vs, rfl, hvs⟩ := h.tup_inv
  obtain ⟨v0, vs1, rfl, h0, h1⟩ := hvs.cons_inv
  obtain ⟨us, rfl, hus⟩ := h0.agg_inv
  obtain ⟨u0, us, rfl, k0, hus⟩ := hus.cons_inv
  obtain ⟨u1, us, rfl, k1, hus⟩ := hus.cons_inv
  obtain ⟨u2, us, rfl, k2, hus⟩ := hus.cons_inv
  obtain ⟨u3, us, rfl, k3, hus⟩ := hus.cons_inv
  obtain rfl := hus.nil_inv
  have r := VReps.cons (VReps.agg (.cons k0 (.cons k1 (.cons k2 (.cons (hn _ _ k3 rfl) (.nil _ _)))))) h1
  exact .tup r.1 r.2
theorem VRep.tnilL {E : Env} {w : World} {a b c : PV} {xs : List PV} {v : Value} (h : VRep E w (.tup (.agg [a, b, c, .nil] :: xs)) v) : VRep E w (.tup (.agg [a, b, c, .slice 0 []] :: xs)) v := by
  have hn : ∀ (y : PV) (u : Value), VRep E w y u → y = .nil → VRep E w (.slice 0 []) u := fun y u hu he => by
    subst he
    obtain rfl := hu.nil_inv
    exact .imm .slice0
  obtain ⟨vs, rfl, hvs⟩ := h.tup_inv
  obtain ⟨v0, vs1, rfl, h0, h1⟩ := hvs.cons_inv
  obtain ⟨us, rfl, hus⟩ := h0.agg_inv
  obtain ⟨u0, us, rfl, k0, hus⟩ := hus.cons_inv
  obtain ⟨u1, us, rfl, k1, hus⟩ := hus.cons_inv
  obtain ⟨u2, us, rfl, k2, hus⟩ := hus.cons_inv
  obtain ⟨u3, us, rfl, k3, hus⟩ := hus.cons_inv
  obtain rfl := hus.nil_inv
  have r := VReps.cons (VReps.agg (.cons k0 (.cons k1 (.cons k2 (.cons (hn _ _ k3 rfl) (.nil _ _)))))) h1
  exact .tup r.1 r.2
theorem first_bad {p : Nat → Prop} (m : Nat) (h : ¬ ∀ i, i < m → p i) : ∃ i, i < m ∧ (∀ j, j < i → p j) ∧ ¬ p i := by
  refine Classical.byContradiction fun hc => h fun i => ?_
  induction i using Nat.strongRecOn with
  | _ i ih => exact fun hi => Classical.byContradiction fun hp => hc ⟨i, hi, fun j hj => ih j hj (by omega), hp⟩
theorem nil_ok (k n : Int) (s : ByteArray) : (Dat.mk k n s .nil).ok := ⟨Nat.zero_le _, trivial⟩
theorem told_true (lo : Nat) (s : ByteArray) (ks : Dats) (n : Nat) (hA : ArP s n true) (hR : ArR s n true) (hB : ∀ ds : Dats, ds.len = n → (∀ i, i < ds.len → FitD (ds.get i)) → Both s ds) (hl : ks.len ≤ 10) (hok : ks.ok) (hf : ∀ i, i < ks.len → FitD (ks.get i)) (hs : ∀ i, i < ks.len → Small (ks.get i)) :
    ∃ (M : Nat) (k nn : Int) (t : ByteArray) (kl : Dats) (c er k2 n2 : Int) (t2 : ByteArray) (ks2 : Dats) (c2 : Int), PH lo s ks.len ks.cells (.tup [.agg [.int .i64 k, .int .i64 nn, .str t, .sl (OwnN M (newS lo)) kl.len kl.cells], .int .i64 c, .int .i64 er]) (.tup [.agg [.int .i64 k2, .int .i64 n2, .str t2, .slice ks2.len ks2.cells], .int .i64 c2, .bool true]) ∧
      (Dat.mk k nn t kl).ok ∧ (Dat.mk k2 n2 t2 ks2).ok ∧
      (∀ j, j < ks.len → (∀ i, i < j → chkD (ks.get i) = 0) → chkD (ks.get j) ≠ 0 → k = 0 ∧ nn = 0 ∧ t = ⟨#[]⟩ ∧ kl = .nil ∧ c = 0 ∧ er = chkD (ks.get j)) ∧
      ((∀ i, i < ks.len → chkD (ks.get i) = 0) → er = 0 ∧ c = c2 ∧ eqD (.mk k nn t kl) (.mk k2 n2 t2 ks2) = true) := by
  have hls := lists_same ks hok (by omega)
  have hdo := fun r hr => do_ok s ks n hA (by omega) (fun i hi => (hs i hi).good) lo r hr
  by_cases hg : ∀ i, i < ks.len → chkD (ks.get i) = 0
  · by_cases hn : ks.len = n
    · obtain ⟨M, e, c, e', c', h1, h2, h3, ho1, ho2⟩ := hB ks hn hf
      obtain ⟨k, nn, t, kl, rfl⟩ := Dat.is_mk e
      obtain ⟨k2, n2, t2, ks2, rfl⟩ := Dat.is_mk e'
      obtain ⟨rfl, he⟩ := h3 hg
      exact ⟨M, k, nn, t, kl, c, 0, k2, n2, t2, ks2, c, ⟨hdo _ (.inr ⟨hg, .inr ⟨by rw [hn], k, nn, t, OwnN M (newS lo), kl.len, kl.cells, c, .inr (h1 hg lo), rfl⟩⟩), h2, hls⟩, ho1, ho2, fun j hj _ hc => absurd (hg j hj) hc, fun _ => ⟨rfl, rfl, he⟩⟩
    · have hn' : (ks.len : Int) ≠ (n : Int) := fun h => hn (by omega)
      exact ⟨1, 0, 0, ⟨#[]⟩, .nil, -2, 0, 0, 0, ⟨#[]⟩, .nil, -2, ⟨Pure.weak (fun _ _ _ h => VRep.tslL h) (hdo _ (.inr ⟨hg, .inl ⟨hn', rfl⟩⟩)), Pure.weak (fun _ _ _ h => VRep.tnilL h) (rdo_many s ks.len ks.cells n hR hn'), hls⟩, nil_ok _ _ _, nil_ok _ _ _, fun j hj _ hc => absurd (hg j hj) hc, fun _ => ⟨rfl, rfl, eqD_refl _⟩⟩
  · obtain ⟨i, hi, hj, hne⟩ := first_bad ks.len hg
    have hx : Pure (G0.at lo) 12 [.str s, .slice ks.len ks.cells] (fun r => r = .tup [.agg [.int .i64 0, .int .i64 0, .str ⟨#[]⟩, .sl (OwnN 1 (newS lo)) 0 []], .int .i64 0, .int .i64 (chkD (ks.get i))]) := Pure.weak (fun _ _ _ h => VRep.tslL h) (hdo _ (.inl ⟨i, hi, hj, hne, rfl⟩))
    have hb : ∀ j, j < ks.len → (∀ i, i < j → chkD (ks.get i) = 0) → chkD (ks.get j) ≠ 0 → (0 : Int) = 0 ∧ (0 : Int) = 0 ∧ (⟨#[]⟩ : ByteArray) = ⟨#[]⟩ ∧ Dats.nil = .nil ∧ (0 : Int) = 0 ∧ chkD (ks.get i) = chkD (ks.get j) := fun j hj1 hj2 hj3 => by
      have : i = j := by
        rcases Nat.lt_trichotomy i j with h | h | h
        · exact absurd (hj2 i h) hne
        · exact h
        · exact absurd (hj j h) hj3
      exact ⟨rfl, rfl, rfl, rfl, rfl, by rw [this]⟩
    by_cases hn : ks.len = n
    · obtain ⟨M, e, c, e', c', h1, h2, h3, ho1, ho2⟩ := hB ks hn hf
      obtain ⟨k2, n2, t2, ks2, rfl⟩ := Dat.is_mk e'
      exact ⟨1, 0, 0, ⟨#[]⟩, .nil, 0, _, k2, n2, t2, ks2, c', ⟨hx, h2, hls⟩, nil_ok _ _ _, ho2, hb, fun h => absurd (h i hi) hne⟩
    · have hn' : (ks.len : Int) ≠ (n : Int) := fun h => hn (by omega)
      exact ⟨1, 0, 0, ⟨#[]⟩, .nil, 0, _, 0, 0, ⟨#[]⟩, .nil, -2, ⟨hx, Pure.weak (fun _ _ _ h => VRep.tnilL h) (rdo_many s ks.len ks.cells n hR hn'), hls⟩, nil_ok _ _ _, nil_ok _ _ _, hb, fun h => absurd (h i hi) hne⟩
theorem told_false (lo : Nat) (s : ByteArray) (ks : Dats) (hA : ArP s 0 false) (hR : ArR s 0 false) (hl : ks.len ≤ 10) (hok : ks.ok) : PH lo s ks.len ks.cells (.tup [.agg [.int .i64 0, .int .i64 0, .str ⟨#[]⟩, .sl (OwnN 1 (newS lo)) 0 []], .int .i64 0, .int .i64 5]) (.tup [.agg [.int .i64 0, .int .i64 0, .str ⟨#[]⟩, .slice 0 []], .int .i64 0, .bool false]) :=
  ⟨Pure.weak (fun _ _ _ h => VRep.tslL h) (do_none s ks hA lo), Pure.weak (fun _ _ _ h => VRep.tnilL h) (rdo_none s ks.len ks.cells hR), lists_same ks hok (by omega)⟩
theorem spoil_eats (M lo lo0 : Nat) (k n : Int) (t : ByteArray) (kl : Dats) : Eats (G0.at lo0) 17 [.agg [.int .i64 k, .int .i64 n, .str t, .sl (OwnN M (newS lo)) kl.len kl.cells]] (newS lo) (.tup []) := fun E w vs im0 hh hi hg hv => by
  obtain ⟨v0, us, rfl, hv0, hus⟩ := hv.cons_inv
  obtain rfl := hus.nil_inv
  obtain ⟨ws, rfl, hws⟩ := hv0.agg_inv
  obtain ⟨u0, ws, rfl, _, hws⟩ := hws.cons_inv
  obtain ⟨u1, ws, rfl, _, hws⟩ := hws.cons_inv
  obtain ⟨u2, ws, rfl, _, hws⟩ := hws.cons_inv
  obtain ⟨u3, ws, rfl, h3, hws⟩ := hws.cons_inv
  obtain rfl := hws.nil_inv
  have ho : Own w M (newS lo) u3 := (sl_inv (h3.pure rfl)).2.2 w fun _ _ => rfl
  refine (spoil_own M (fun k => newS lo k ∧ k < w.heap.size) im0 w u0 u1 u2 u3 ho.lt (fun k h => h.2) (fun k h => ⟨fun h' => (hi k h).1 h'.1, (hi k h).2⟩) hg).mono ?_
  rintro e w' ⟨rfl, hsz, hos, htp, hou, hk⟩
  exact ⟨_, rfl, fun E' w' => .tup (vs := []) rfl (VReps.nil _ _).2, hsz, hos, htp, hou, fun k h1 h2 => hk k h1 fun h => h2 h.1⟩
end Seat
end Go.Proofs.YteimebpgmfhgjaaDoor
namespace Go.Proofs.YteimebpgmfhgjaaDoor
open Go.AS Go.RowKit
set_option linter.unusedVariables false
set_option linter.unusedSimpArgs false
set_option maxRecDepth 100000
set_option maxHeartbeats 4000000
namespace Seat
theorem SOps.conv {G : Prg} {C : Ctx} {ops : Array Oper} {Q : AEx → AS → Prop} {l : List Oper} {st : AS} (h : ∀ E a w, Rel G C E st a w → ∃ E' st', Rel G C E' st' a w ∧ SOps G C ops Q l st') : SOps G C ops Q l st := fun E a w hr => by
  obtain ⟨E', st', h1, h2⟩ := h E a w hr
  exact h2 E' a w h1
theorem does_at (s : ByteArray) (ds : Dats) (hok : ds.ok) (hrg : ds.rng) (hll : ds.len ≤ 9223372036854775807) : Pure G0 3 [.str s, .slice ds.len ds.cells] (fun r => r = .bool true) := by
  refine Fn.enterB Tryd.func3 Tryd.ntmps3 rfl (Nat.le_of_ble_eq_true rfl) fun C fr fp hnt hnb hp hfr hfp => ?_
  have hfr' : ∀ st, (nrm [4] st).t = [(4, .bool true)] → fr st := fun st h => hfr st [4] (by
    have e : nrm [4] st = ⟨[(4, .bool true)], (nrm [4] st).h⟩ := by rw [← h]
    rw [e]
    exact ⟨0, .bool true, Nat.le_refl _, Nat.zero_le _, rfl, rfl, rfl, rfl, _, rfl, rfl⟩)
  refine Q.runSeq (SLi [] []) 60 121 hnt [0, 1] (z := ⟨[(0, .str s), (1, .slice (Dats.len ds) (Dats.cells ds))], ⟨[], []⟩⟩) (o := []) (by kernel_rfl) (by repeat' first | exact okO_nil | refine okN ?_ ?_ | assumption | rfl) ?_
  refine Q.runSeq (SLi [] []) 60 121 hnt [0, 1, 5, 6] (z := ⟨[(0, .str s), (1, .slice (Dats.len ds) (Dats.cells ds)), (5, PV.nil), (6, PV.nil)], ⟨[], []⟩⟩) (o := []) (by kernel_rfl) (by repeat' first | exact okO_nil | refine okN ?_ ?_ | assumption | rfl) ?_
  refine SWP.conv fun E a w hr1 => ?_
  obtain ⟨E1, hr2⟩ := hr1.adopt (s := 5) rfl 24 4
  obtain ⟨E2, hr3⟩ := hr2.adopt (s := 6) rfl 24 4
  refine ⟨E2, _, hr3, ?_⟩
  clear hr1 hr2 hr3
  refine .norm [0, 1, 5, 6] ?_
  show SWP G0 C _ _ ⟨[(0, .str s), (1, .slice ds.len ds.cells), (5, .own 0 0), (6, .own 1 0)], ⟨[], [some ⟨[], 0, 24, 4⟩, some ⟨[], 0, 24, 4⟩]⟩⟩
  refine Q.seq fun K hK => ?_
  have fin : ∀ i st, i ≤ ds.len → i ≤ 10 → nrm [0, 5, 6] st = { t := [(0, PV.str s), (5, PV.own 0 i), (6, PV.own 1 i)], h := { bx := [], rw := [some { cs := Dats.cells (cuts ds i), n := i, ty := 24, sz := 4 }, some { cs := Dats.cells (cuts ds i), n := i, ty := 24, sz := 4 }] } } → K st := fun i st hi1 hi2 hst => by
    refine hK st (.norm [0, 5, 6] ?_)
    rw [hst]
    refine SWP.frz [0, 1] (.norm [0, 5, 6] ?_)
    obtain ⟨ks, hks⟩ : ∃ ks, ks = cuts ds i := ⟨_, rfl⟩
    have hlen : i = ks.len := by rw [hks, cuts_len ds i hi1]
    have hkok : ks.ok := by rw [hks]; exact cuts_ok ds i hok
    have hget : ∀ j, j < ks.len → ks.get j = (cutD (ds.get j) 1020 2000).1 ∧ j < ds.len := fun j hj => ⟨by rw [hks]; exact cuts_get ds i j (by omega) hi1, by omega⟩
    have hfit : ∀ j, j < ks.len → FitD (ks.get j) := fun j hj => by
      rw [(hget j hj).1]
      exact fit_cut _ (Dats.get_ok ds j (hget j hj).2 hok) (get_rng ds j (hget j hj).2 hrg)
    have hsm : ∀ j, j < ks.len → Small (ks.get j) := fun j hj => by
      rw [(hget j hj).1]
      exact cut_small _ (Dats.get_ok ds j (hget j hj).2 hok) (get_rng ds j (hget j hj).2 hrg) 2000 1020 (by omega) (by omega)
    rw [← hks]
    show SWP G0 C _ _ ⟨[(0, .str s), (5, .slice i ks.cells), (6, .slice i ks.cells)], ⟨[], [none, none]⟩⟩
    rw [hlen]
    have hl10 : ks.len ≤ 10 := by omega
    clear hst hks hlen
    refine SWP.tags [(5, ks.len, ks.cells), (6, ks.len, ks.cells)] (fun p hp => by
      rcases List.mem_cons.1 hp with rfl | hp
      · rfl
      · obtain rfl := List.mem_singleton.1 hp
        rfl) fun E0 a0 w0 hr0 => ?_
    show SWP (G0.at 0) _ _ _ _
    refine SWP.here (G := G0) rfl fun E a w hr => ⟨_, hr, ?_⟩
    obtain ⟨G1, hG1⟩ : ∃ G1, G1 = OldF E0.im ks.len ks.cells := ⟨_, rfl⟩
    refine .norm [0, 5, 6] ?_
    show SWP _ _ _ _ ⟨[(0, .str s), (5, .sl (OldF E0.im ks.len ks.cells) ks.len ks.cells), (6, .sl (OldF E0.im ks.len ks.cells) ks.len ks.cells)], ⟨[], [none, none]⟩⟩
    rw [← hG1]
    have him : ∀ k, E0.im k → E.im k := hr.up
    have hg0 : ∀ g cs, G0.Γ g = some cs → GRep E.im w cs g := hr.hp.gl.2
    have hE0 : ∀ k, E.im k → k < w.heap.size ∧ (∀ i, i < E.nb → E.β i ≠ k) ∧ ¬ ∃ (j : Nat) (s : Row), ([none, none] : List (Option Row))[j]? = some (some s) ∧ (E.ρ j).ownBlock = some k := fun k hk => ⟨hr.hp.im_lt k hk, fun i hi => absurd hi (by rw [hr.hp.nb]; exact Nat.not_lt_zero _), fun ⟨j, s, h1, _⟩ => by
      match j, h1 with
      | 0, h1 => cases h1
      | 1, h1 => cases h1
      | j + 2, h1 => simp at h1⟩
    rcases do_name s with ⟨n0, hA, hR, hB⟩ | ⟨hA, hR⟩
    · obtain ⟨M, k, n, t, kl, c, er, k2, n2, t2, ks2, c2, hp, hok1, hok2, hbad, hgood⟩ := told_true w.heap.size s ks n0 hA hR hB hl10 hkok hfit hsm
      obtain ⟨F, hF⟩ : ∃ F, F = OwnN M (newS w.heap.size) := ⟨_, rfl⟩
      rw [← hF] at hp
      have g1 : isOk [.int .i64 k, .int .i64 n, .str t, .slice kl.len kl.cells] = true := isOk_at (d := .mk k n t kl) hok1
      have g2 : isOk [.int .i64 k2, .int .i64 n2, .str t2, .slice ks2.len ks2.cells] = true := isOk_at (d := .mk k2 n2 t2 ks2) hok2
      have g3 : isOk [.int .i64 0, .int .i64 0, .str ⟨#[]⟩, .slice 0 []] = true := isOk_at (d := .mk 0 0 ⟨#[]⟩ .nil) (nil_ok _ _ _)
      refine Q.runSeq (SPd hp [] []) 100 121 hnt [0, 5, 6, 8, 9, 10] (z := ⟨[(0, .str s), (5, PV.sl G1 (Dats.len ks) (Dats.cells ks)), (6, PV.sl G1 (Dats.len ks) (Dats.cells ks)), (8, .ptr 0 0), (9, .int .i64 c), (10, .int .i64 er)], ⟨[⟨[.int .i64 k, .int .i64 n, .str t, PV.sl F (Dats.len kl) (Dats.cells kl)], 24⟩], [none, none]⟩⟩) (o := [(true, true), (same (.str s) (.str s), true), (same (PV.slice (Dats.len ks) (Dats.cells ks)) (PV.slice (Dats.len ks) (Dats.cells ks)), true)]) (by kernel_rfl) (by ((repeat' (first | exact okO_nil | refine okN ?_ ?_)); all_goals first | assumption | rfl | exact same_of rfl | exact sameS_self _ | (simp only [decide_eq_true_eq, decide_eq_false_iff_not, Nat.ble_eq, Nat.beq_eq, beq_eq_false_iff_ne, beq_iff_eq, ne_eq] <;> omega))) ?_
      refine Q.runSeq (SPd hp [] []) 100 121 hnt [5, 6, 8, 9, 10, 11, 12, 13] (z := ⟨[(5, PV.sl G1 (Dats.len ks) (Dats.cells ks)), (6, PV.sl G1 (Dats.len ks) (Dats.cells ks)), (8, .ptr 0 0), (9, .int .i64 c), (10, .int .i64 er), (11, .ptr 1 0), (12, .int .i64 c2), (13, .bool true)], ⟨[⟨[.int .i64 k, .int .i64 n, .str t, PV.sl F (Dats.len kl) (Dats.cells kl)], 24⟩, ⟨[.int .i64 k2, .int .i64 n2, .str t2, .slice (Dats.len ks2) (Dats.cells ks2)], 24⟩], [none, none]⟩⟩) (o := [(true, true), (same (.str s) (.str s), true), (same (PV.slice (Dats.len ks) (Dats.cells ks)) (PV.slice (Dats.len ks) (Dats.cells ks)), true)]) (by kernel_rfl) (by ((repeat' (first | exact okO_nil | refine okN ?_ ?_)); all_goals first | assumption | rfl | exact same_of rfl | exact sameS_self _ | (simp only [decide_eq_true_eq, decide_eq_false_iff_not, Nat.ble_eq, Nat.beq_eq, beq_eq_false_iff_ne, beq_iff_eq, ne_eq] <;> omega))) ?_
      refine Q.runSeq (SPd hp [] []) 100 121 hnt [5, 6, 8, 9, 10, 11, 12] (z := ⟨[(5, PV.sl G1 (Dats.len ks) (Dats.cells ks)), (6, PV.sl G1 (Dats.len ks) (Dats.cells ks)), (8, .ptr 0 0), (9, .int .i64 c), (10, .int .i64 er), (11, .ptr 1 0), (12, .int .i64 c2)], ⟨[⟨[.int .i64 k, .int .i64 n, .str t, PV.sl F (Dats.len kl) (Dats.cells kl)], 24⟩, ⟨[.int .i64 k2, .int .i64 n2, .str t2, .slice (Dats.len ks2) (Dats.cells ks2)], 24⟩], [none, none]⟩⟩) (o := []) (by kernel_rfl) (by repeat' first | exact okO_nil | refine okN ?_ ?_ | assumption | rfl) ?_
      refine Q.seq fun K3 hK3 => ?_
      refine Q.runSeq (SPd hp [] []) 100 121 hnt [5, 6, 8, 9, 10, 11, 12, 14] (z := ⟨[(5, PV.sl G1 (Dats.len ks) (Dats.cells ks)), (6, PV.sl G1 (Dats.len ks) (Dats.cells ks)), (8, .ptr 0 0), (9, .int .i64 c), (10, .int .i64 er), (11, .ptr 1 0), (12, .int .i64 c2), (14, .int .i64 (0 : Int))], ⟨[⟨[.int .i64 k, .int .i64 n, .str t, PV.sl F (Dats.len kl) (Dats.cells kl)], 24⟩, ⟨[.int .i64 k2, .int .i64 n2, .str t2, .slice (Dats.len ks2) (Dats.cells ks2)], 24⟩], [none, none]⟩⟩) (o := []) (by kernel_rfl) (by repeat' first | exact okO_nil | refine okN ?_ ?_ | assumption | rfl) ?_
      refine Q.block ?_
      let T (j : Nat) : AS := ⟨[(5, .sl G1 ks.len ks.cells), (6, .sl G1 ks.len ks.cells), (8, .ptr 0 0), (9, .int .i64 c), (10, .int .i64 er), (11, .ptr 1 0), (12, .int .i64 c2), (14, .int .i64 j)], ⟨[DX2 k n t (.sl F kl.len kl.cells), DX2 k2 n2 t2 (.slice ks2.len ks2.cells)], [none, none]⟩⟩
      refine Q.loopI (σ := { j : Nat // j ≤ ks.len ∧ ∀ i, i < j → chkD (ks.get i) = 0 }) [5, 6, 8, 9, 10, 11, 12, 14] (fun j => T j.1) (fun j => ks.len - j.1) ⟨0, Nat.zero_le _, fun i h => absurd h (Nat.not_lt_zero _)⟩ rfl fun ⟨j, hj, hgj⟩ => ?_
      show SWP _ _ _ _ ⟨[(5, .sl G1 ks.len ks.cells), (6, .sl G1 ks.len ks.cells), (8, .ptr 0 0), (9, .int .i64 c), (10, .int .i64 er), (11, .ptr 1 0), (12, .int .i64 c2), (14, .int .i64 j)], ⟨[DX2 k n t (.sl F kl.len kl.cells), DX2 k2 n2 t2 (.slice ks2.len ks2.cells)], [none, none]⟩⟩
      rcases Nat.lt_or_ge j ks.len with hlt | hge
      · have d1 := lt_at hlt
        have d2 := in_at hlt
        have hsj := hsm j hlt
        rcases hgetj : ks.get j with ⟨k', n', s', ks'⟩
        rw [hgetj] at hsj
        have d4 : decide (TD.size d24 ≤ List.length (List.drop (Int.toNat (j : Int) * TD.size d24) (Dats.cells ks))) = true := kid_len hlt
        have d5 := kid_same' hlt hgetj
        have d6 : isSmc [.int .i64 k', .int .i64 n', .str s', .slice ks'.len ks'.cells] = true := isSmc_at (d := .mk k' n' s' ks') rfl hsj
        have d7 : ofCells chkD 0 [.int .i64 k', .int .i64 n', .str s', .slice ks'.len ks'.cells] = chkD (ks.get j) := by rw [hgetj]; exact ofCells_at _ _ (.mk k' n' s' ks')
        by_cases hc : chkD (ks.get j) = 0
        · have d8 : (!ofCells chkD 0 [.int .i64 k', .int .i64 n', .str s', .slice ks'.len ks'.cells] == 0) = false := by rw [d7, hc]; rfl
          have wj : IntKind.wrap IntKind.i64 (Int.ofNat (j + 1)) = ((j + 1 : Nat) : Int) := wrapI (j + 1) (by omega)
          have hgj' : ∀ i, i < j + 1 → chkD (ks.get i) = 0 := fun i hi => by
            rcases Nat.lt_or_eq_of_le (Nat.le_of_lt_succ hi) with h | h
            · exact hgj i h
            · rw [h]; exact hc
          exact SWP.runQ (SPd hp [(121, [(75, true), (80, true), (81, true), (84, false)])] [(121, [(81, .agg [.int .i64 k', .int .i64 n', .str s', .slice ks'.len ks'.cells])])]) 100 121 hnt [5, 6, 8, 9, 10, 11, 12, 14] (e := .normal) (z := ⟨[(5, PV.sl G1 (Dats.len ks) (Dats.cells ks)), (6, PV.sl G1 (Dats.len ks) (Dats.cells ks)), (8, .ptr 0 0), (9, .int .i64 c), (10, .int .i64 er), (11, .ptr 1 0), (12, .int .i64 c2), (14, .int .i64 (IntKind.wrap IntKind.i64 (Int.ofNat (j + 1))))], ⟨[⟨[.int .i64 k, .int .i64 n, .str t, PV.sl F (Dats.len kl) (Dats.cells kl)], 24⟩, ⟨[.int .i64 k2, .int .i64 n2, .str t2, .slice (Dats.len ks2) (Dats.cells ks2)], 24⟩], [none, none]⟩⟩) (o := [(decide ((↑j : Int) < (↑(Dats.len ks) : Int)), true), (true, true), (decide (0 ≤ (↑j : Int) ∧ (↑j : Int) < (↑(Dats.len ks) : Int)), true), (decide (TD.size d24 ≤ List.length (List.drop (Int.toNat (↑j : Int) * TD.size d24) (Dats.cells ks))), true), (same (PV.agg (List.take 4 (List.drop (Int.toNat (Int.ofNat j) * 4) (Dats.cells ks)))) (PV.agg [PV.int IntKind.i64 k', PV.int IntKind.i64 n', PV.str s', PV.slice (Dats.len ks') (Dats.cells ks')]), true), (true, true), (isSmc [PV.int IntKind.i64 k', PV.int IntKind.i64 n', PV.str s', PV.slice (Dats.len ks') (Dats.cells ks')], true), (!ofCells chkD (0 : Int) [PV.int IntKind.i64 k', PV.int IntKind.i64 n', PV.str s', PV.slice (Dats.len ks') (Dats.cells ks')] == (0 : Int), false), (false, false)]) (by kernel_rfl) (by repeat' first | exact okO_nil | refine okN ?_ ?_ | assumption | rfl) (fun st hst => ⟨⟨j + 1, hlt, hgj'⟩, Nat.sub_lt_sub_left hlt (Nat.lt_succ_self j), by
            show _ = T (j + 1)
            rw [hst, wj]; rfl⟩)
        · obtain ⟨h1, h2, h3, h4, h5, h6⟩ := hbad j hlt hgj hc
          have d8 : (!ofCells chkD 0 [.int .i64 k', .int .i64 n', .str s', .slice ks'.len ks'.cells] == 0) = true := by rw [d7]; simpa using hc
          have d9 : ofCells2 eqD false [.int .i64 k, .int .i64 n, .str t, .slice kl.len kl.cells] [.int .i64 0, .int .i64 0, .str ⟨#[]⟩, .slice 0 []] = true := (ofCells2_at eqD false (.mk k n t kl) (.mk 0 0 ⟨#[]⟩ .nil)).trans (by rw [h1, h2, h3, h4]; exact eqD_refl _)
          have d10 : (c == 0) = true := by rw [h5]; rfl
          have d11 : (er == ofCells chkD 0 [.int .i64 k', .int .i64 n', .str s', .slice ks'.len ks'.cells]) = true := by rw [d7, h6]; exact beq_self_eq_true _
          exact SWP.runQ (SPd hp [(121, [(75, true), (80, true), (81, true), (84, true), (87, true), (90, true), (95, true)])] [(121, [(81, .agg [.int .i64 k', .int .i64 n', .str s', .slice ks'.len ks'.cells])])]) 100 121 hnt [4] (e := .ret) (z := ⟨[(4, .bool true)], ⟨[⟨[.int .i64 k, .int .i64 n, .str t, PV.sl F (Dats.len kl) (Dats.cells kl)], 24⟩, ⟨[.int .i64 k2, .int .i64 n2, .str t2, .slice (Dats.len ks2) (Dats.cells ks2)], 24⟩], [none, none]⟩⟩) (o := [(decide ((↑j : Int) < (↑(Dats.len ks) : Int)), true), (true, true), (decide (0 ≤ (↑j : Int) ∧ (↑j : Int) < (↑(Dats.len ks) : Int)), true), (decide (TD.size d24 ≤ List.length (List.drop (Int.toNat (↑j : Int) * TD.size d24) (Dats.cells ks))), true), (same (PV.agg (List.take 4 (List.drop (Int.toNat (Int.ofNat j) * 4) (Dats.cells ks)))) (PV.agg [PV.int IntKind.i64 k', PV.int IntKind.i64 n', PV.str s', PV.slice (Dats.len ks') (Dats.cells ks')]), true), (true, true), (isSmc [PV.int IntKind.i64 k', PV.int IntKind.i64 n', PV.str s', PV.slice (Dats.len ks') (Dats.cells ks')], true), (!ofCells chkD (0 : Int) [PV.int IntKind.i64 k', PV.int IntKind.i64 n', PV.str s', PV.slice (Dats.len ks') (Dats.cells ks')] == (0 : Int), true), (true, true), (true, true), (isOk [PV.int IntKind.i64 k, PV.int IntKind.i64 n, PV.str t, PV.slice (Dats.len kl) (Dats.cells kl)], true), (isOk [PV.int IntKind.i64 (0 : Int), PV.int IntKind.i64 (0 : Int), PV.str ⟨#[]⟩, PV.slice 0 []], true), (ofCells2 eqD false [PV.int IntKind.i64 k, PV.int IntKind.i64 n, PV.str t, PV.slice (Dats.len kl) (Dats.cells kl)] [PV.int IntKind.i64 (0 : Int), PV.int IntKind.i64 (0 : Int), PV.str ⟨#[]⟩, PV.slice 0 []], true), (c == (0 : Int), true), (er == ofCells chkD (0 : Int) [PV.int IntKind.i64 k', PV.int IntKind.i64 n', PV.str s', PV.slice (Dats.len ks') (Dats.cells ks')], true), (true, true)]) (by kernel_rfl) (by repeat' first | exact okO_nil | refine okN ?_ ?_ | assumption | rfl) (fun st hst => hfr' st (by rw [hst]))
      · have d1 := ge_at hge
        refine Q.seq fun K4 hK4 => ?_
        refine SWP.runQ (SPd hp [(121, [(75, false)])] []) 100 121 hnt [5, 6, 8, 9, 10, 11, 12] (e := .exit 2) (z := ⟨[(5, PV.sl G1 (Dats.len ks) (Dats.cells ks)), (6, PV.sl G1 (Dats.len ks) (Dats.cells ks)), (8, .ptr 0 0), (9, .int .i64 c), (10, .int .i64 er), (11, .ptr 1 0), (12, .int .i64 c2)], ⟨[⟨[.int .i64 k, .int .i64 n, .str t, PV.sl F (Dats.len kl) (Dats.cells kl)], 24⟩, ⟨[.int .i64 k2, .int .i64 n2, .str t2, .slice (Dats.len ks2) (Dats.cells ks2)], 24⟩], [none, none]⟩⟩) (o := [(decide ((↑j : Int) < (↑(Dats.len ks) : Int)), false), (false, false)]) (by kernel_rfl) (by repeat' first | exact okO_nil | refine okN ?_ ?_ | assumption | rfl) (fun st hst => hK3 st (.norm [5, 6, 8, 9, 10, 11, 12] ?_))
        rw [hst]
        obtain ⟨h1, h2, h3⟩ := hgood fun i hi => hgj i (by omega)
        have d2 : (!er == 0) = false := by rw [h1]; rfl
        have d3 : (!c == c2) = false := by rw [h2, beq_self_eq_true]; rfl
        have d4 : ofCells2 eqD false [.int .i64 k, .int .i64 n, .str t, .slice kl.len kl.cells] [.int .i64 k2, .int .i64 n2, .str t2, .slice ks2.len ks2.cells] = true := (ofCells2_at eqD false (.mk k n t kl) (.mk k2 n2 t2 ks2)).trans h3
        refine Q.runSeq (SPd hp [(121, [(101, false), (105, false), (110, true)])] []) 100 121 hnt [5, 6, 8] (z := ⟨[(5, PV.sl G1 (Dats.len ks) (Dats.cells ks)), (6, PV.sl G1 (Dats.len ks) (Dats.cells ks)), (8, .ptr 0 0)], ⟨[⟨[.int .i64 k, .int .i64 n, .str t, PV.sl F (Dats.len kl) (Dats.cells kl)], 24⟩, ⟨[.int .i64 k2, .int .i64 n2, .str t2, .slice (Dats.len ks2) (Dats.cells ks2)], 24⟩], [none, none]⟩⟩) (o := [(!er == (0 : Int), false), (!c == c2, false), (true, true), (isOk [PV.int IntKind.i64 k, PV.int IntKind.i64 n, PV.str t, PV.slice (Dats.len kl) (Dats.cells kl)], true), (isOk [PV.int IntKind.i64 k2, PV.int IntKind.i64 n2, PV.str t2, PV.slice (Dats.len ks2) (Dats.cells ks2)], true), (ofCells2 eqD false [PV.int IntKind.i64 k, PV.int IntKind.i64 n, PV.str t, PV.slice (Dats.len kl) (Dats.cells kl)] [PV.int IntKind.i64 k2, PV.int IntKind.i64 n2, PV.str t2, PV.slice (Dats.len ks2) (Dats.cells ks2)], true)]) (by kernel_rfl) (by repeat' first | exact okO_nil | refine okN ?_ ?_ | assumption | rfl) ?_
        refine Q.seq fun K5 hK5 => ?_
        refine SWP.region ?_
        refine SOps.val rfl (x := .agg [.int .i64 k, .int .i64 n, .str t, .sl F kl.len kl.cells]) (by kernel_rfl) (by show dstOk C.nt (some 113) = true; rw [hnt]; rfl) ?_
        refine SOps.conv fun E5 a5 w5 hr5 => ⟨_, _, (hr5.norm [5, 6, 113]).dropB (m := 0) (by show E.nb ≤ 0; rw [hr.hp.nb]; exact Nat.le_refl _) (Nat.zero_le _) rfl rfl, ?_⟩
        refine SOps.cons rfl ?_
        refine SOp.eat (S := newS w.heap.size) (f := 17) (args := [.agg [.int .i64 k, .int .i64 n, .str t, .sl F kl.len kl.cells]]) (r := .tup []) [(5, .slice ks.len ks.cells), (6, .slice ks.len ks.cells)] rfl (by kernel_rfl) Tryd.func17 (by kernel_rfl) (by kernel_rfl) rfl (by show dstOk C.nt (some 114) = true; rw [hnt]; rfl) (by rw [hF]; exact spoil_eats M w.heap.size _ k n t kl) (fun k h => h) hg0 hE0 rfl ?_ ?_ ?_
        · intro j x h
          match j, h with
          | 0, h => cases h
          | 1, h => cases h
          | j + 2, h =>
            have h' : ([none, none] : List (Option Row))[j + 2]? = some (some x) := h
            simp at h'
        · intro q
          by_cases h5 : q = 5
          · subst h5; exact .inr (.inr ⟨E0.im, ks.len, ks.cells, him, by rw [← hG1]; rfl, rfl⟩)
          · by_cases h6 : q = 6
            · subst h6; exact .inr (.inr ⟨E0.im, ks.len, ks.cells, him, by rw [← hG1]; rfl, rfl⟩)
            · refine .inl ?_
              simp only [lk, if_neg (Ne.symm h5), if_neg (Ne.symm h6)]
        · refine SOps.nil (hK5 _ (.norm [5, 6] ?_))
          show SWP _ _ _ _ ⟨[(5, .slice ks.len ks.cells), (6, .slice ks.len ks.cells)], ⟨[], [none, none]⟩⟩
          exact SWP.runQ (SPd hp [] []) 100 121 hnt [4] (e := .ret) (z := ⟨[(4, .bool true)], ⟨[], [none, none]⟩⟩) (o := [(true, true), (same (PV.slice (Dats.len ks) (Dats.cells ks)) (PV.slice (Dats.len ks) (Dats.cells ks)), true), (same (PV.slice (Dats.len ks) (Dats.cells ks)) (PV.slice (Dats.len ks) (Dats.cells ks)), true), (true, true)]) (by kernel_rfl) (by ((repeat' (first | exact okO_nil | refine okN ?_ ?_)); all_goals first | assumption | rfl | exact same_of rfl | exact sameS_self _ | (simp only [decide_eq_true_eq, decide_eq_false_iff_not, Nat.ble_eq, Nat.beq_eq, beq_eq_false_iff_ne, beq_iff_eq, ne_eq] <;> omega))) (fun st hst => hfr' st (by rw [hst]))
    · have hp := told_false w.heap.size s ks hA hR hl10 hkok
      obtain ⟨F, hF⟩ : ∃ F, F = OwnN 1 (newS w.heap.size) := ⟨_, rfl⟩
      rw [← hF] at hp
      have g3 : isOk [.int .i64 0, .int .i64 0, .str ⟨#[]⟩, .slice 0 []] = true := isOk_at (d := .mk 0 0 ⟨#[]⟩ .nil) (nil_ok _ _ _)
      have g4 : ofCells2 eqD false [.int .i64 0, .int .i64 0, .str ⟨#[]⟩, .slice 0 []] [.int .i64 0, .int .i64 0, .str ⟨#[]⟩, .slice 0 []] = true := (ofCells2_at eqD false (.mk 0 0 ⟨#[]⟩ .nil) (.mk 0 0 ⟨#[]⟩ .nil)).trans (eqD_refl _)
      exact SWP.runQ (SPd hp [(121, [(60, true)])] []) 100 121 hnt [4] (e := .ret) (z := ⟨[(4, .bool true)], ⟨[⟨[.int .i64 (0 : Int), .int .i64 (0 : Int), .str ⟨#[]⟩, PV.sl F 0 []], 24⟩, ⟨[.int .i64 (0 : Int), .int .i64 (0 : Int), .str ⟨#[]⟩, .slice 0 []], 24⟩], [none, none]⟩⟩) (o := [(true, true), (same (.str s) (.str s), true), (same (PV.slice (Dats.len ks) (Dats.cells ks)) (PV.slice (Dats.len ks) (Dats.cells ks)), true), (true, true), (same (.str s) (.str s), true), (same (PV.slice (Dats.len ks) (Dats.cells ks)) (PV.slice (Dats.len ks) (Dats.cells ks)), true), (true, true), (isOk [PV.int IntKind.i64 (0 : Int), PV.int IntKind.i64 (0 : Int), PV.str ⟨#[]⟩, PV.slice 0 []], true), (isOk [PV.int IntKind.i64 (0 : Int), PV.int IntKind.i64 (0 : Int), PV.str ⟨#[]⟩, PV.slice 0 []], true), (ofCells2 eqD false [PV.int IntKind.i64 (0 : Int), PV.int IntKind.i64 (0 : Int), PV.str ⟨#[]⟩, PV.slice 0 []] [PV.int IntKind.i64 (0 : Int), PV.int IntKind.i64 (0 : Int), PV.str ⟨#[]⟩, PV.slice 0 []], true), (true, true)]) (by kernel_rfl) (by ((repeat' (first | exact okO_nil | refine okN ?_ ?_)); all_goals first | assumption | rfl | exact same_of rfl | exact sameS_self _ | (simp only [decide_eq_true_eq, decide_eq_false_iff_not, Nat.ble_eq, Nat.beq_eq, beq_eq_false_iff_ne, beq_iff_eq, ne_eq] <;> omega))) (fun st hst => hfr' st (by rw [hst]))
  refine Q.runSeq (SLi [] []) 100 121 hnt [0, 1, 5, 6, 7] (z := ⟨[(0, .str s), (1, .slice (Dats.len ds) (Dats.cells ds)), (5, .own 0 0), (6, .own 1 0), (7, .int .i64 (0 : Int))], ⟨[], [some ⟨[], 0, 24, 4⟩, some ⟨[], 0, 24, 4⟩]⟩⟩) (o := []) (by kernel_rfl) (by repeat' first | exact okO_nil | refine okN ?_ ?_ | assumption | rfl) ?_
  refine Q.block ?_
  let T (i : Nat) : AS := ⟨[(0, .str s), (1, .slice ds.len ds.cells), (5, .own 0 i), (6, .own 1 i), (7, .int .i64 i)], ⟨[], [some ⟨(cuts ds i).cells, i, 24, 4⟩, some ⟨(cuts ds i).cells, i, 24, 4⟩]⟩⟩
  refine Q.loopI (σ := { i : Nat // i ≤ ds.len ∧ i ≤ 10 }) [0, 1, 5, 6, 7] (fun i => T i.1) (fun i => ds.len - i.1) ⟨0, Nat.zero_le _, Nat.zero_le _⟩ (by show _ = T 0; show _ = (⟨_, ⟨[], [some ⟨(cuts ds 0).cells, 0, _, 4⟩, some ⟨(cuts ds 0).cells, 0, _, 4⟩]⟩⟩ : AS); rw [cuts_zero]; rfl) fun ⟨i, hi, hi10⟩ => ?_
  show SWP G0 C _ _ ⟨[(0, .str s), (1, .slice ds.len ds.cells), (5, .own 0 i), (6, .own 1 i), (7, .int .i64 i)], ⟨[], [some ⟨(cuts ds i).cells, i, 24, 4⟩, some ⟨(cuts ds i).cells, i, 24, 4⟩]⟩⟩
  rcases Nat.lt_or_ge i ds.len with hlt | hge
  · have d1 := lt_at hlt
    rcases Nat.lt_or_ge i 10 with hlt2 | hge2
    · have d2 := in_at hlt
      have d3 : decide ((i : Int) < 10) = true := by simpa using (by omega : (i : Int) < 10)
      have hsn := cuts_snoc ds i hlt
      have hoj := Dats.get_ok ds i hlt hok
      rcases hget : ds.get i with ⟨k, n, t, ks⟩
      rw [hget] at hsn hoj
      obtain ⟨k2, n2, t2, ks2, he⟩ := Dat.is_mk (cutD (.mk k n t ks) 1020 2000).1
      rw [he] at hsn
      have d4 : decide (TD.size d24 ≤ List.length (List.drop (Int.toNat (i : Int) * TD.size d24) (Dats.cells ds))) = true := kid_len hlt
      have d5 := kid_same' hlt hget
      have d6 : isOk [.int .i64 k, .int .i64 n, .str t, .slice ks.len ks.cells] = true := isOk_at (d := .mk k n t ks) hoj
      have d7 : same (.agg (ofCells (fun d => Dat.cells (Prod.fst (cutD d 1020 2000))) [] [.int .i64 k, .int .i64 n, .str t, .slice ks.len ks.cells])) (.agg [.int .i64 k2, .int .i64 n2, .str t2, .slice ks2.len ks2.cells]) = true := same_of (by
        have := ofCells_at (fun d => Dat.cells (Prod.fst (cutD d 1020 2000))) [] (.mk k n t ks)
        rw [he] at this
        exact congrArg PV.agg this)
      have d8 : Nat.ble ((i + 1) * 56) 140737488355328 = true := Nat.ble_eq_true_of_le (by omega)
      have d9 : Nat.ble (i + 1) 9223372036854775807 = true := Nat.ble_eq_true_of_le (by omega)
      have wi : IntKind.wrap IntKind.i64 (Int.ofNat (i + 1)) = ((i + 1 : Nat) : Int) := wrapI (i + 1) (by omega)
      exact SWP.runQ (SLi [(121, [(19, true), (22, true), (29, true), (30, true), (33, true), (37, true), (38, true), (41, true)])] [(121, [(30, .agg [.int .i64 k, .int .i64 n, .str t, .slice ks.len ks.cells]), (38, .agg [.int .i64 k, .int .i64 n, .str t, .slice ks.len ks.cells])]), (5, [(4, .agg [.int .i64 k2, .int .i64 n2, .str t2, .slice ks2.len ks2.cells])])]) 100 121 hnt [0, 1, 5, 6, 7] (e := .normal) (z := ⟨[(0, .str s), (1, .slice (Dats.len ds) (Dats.cells ds)), (5, .own 0 (i + 1)), (6, .own 1 (i + 1)), (7, .int .i64 (IntKind.wrap IntKind.i64 (Int.ofNat (i + 1))))], ⟨[], [some ⟨Dats.cells (cuts ds i) ++ [.int .i64 k2, .int .i64 n2, .str t2, .slice (Dats.len ks2) (Dats.cells ks2)], i + 1, 24, 4⟩, some ⟨Dats.cells (cuts ds i) ++ [.int .i64 k2, .int .i64 n2, .str t2, .slice (Dats.len ks2) (Dats.cells ks2)], i + 1, 24, 4⟩]⟩⟩) (o := [(decide ((↑i : Int) < (↑(Dats.len ds) : Int)), true), (decide ((↑i : Int) < 10), true), (decide (0 ≤ (↑i : Int) ∧ (↑i : Int) < (↑(Dats.len ds) : Int)), true), (decide (TD.size d24 ≤ List.length (List.drop (Int.toNat (↑i : Int) * TD.size d24) (Dats.cells ds))), true), (same (PV.agg (List.take 4 (List.drop (Int.toNat (Int.ofNat i) * 4) (Dats.cells ds)))) (PV.agg [PV.int IntKind.i64 k, PV.int IntKind.i64 n, PV.str t, PV.slice (Dats.len ks) (Dats.cells ks)]), true), (true, true), (isOk [PV.int IntKind.i64 k, PV.int IntKind.i64 n, PV.str t, PV.slice (Dats.len ks) (Dats.cells ks)], true), (true, true), (same (PV.agg (ofCells (fun d => Dat.cells (Prod.fst (cutD d 1020 2000))) [] [PV.int IntKind.i64 k, PV.int IntKind.i64 n, PV.str t, PV.slice (Dats.len ks) (Dats.cells ks)])) (PV.agg [PV.int IntKind.i64 k2, PV.int IntKind.i64 n2, PV.str t2, PV.slice (Dats.len ks2) (Dats.cells ks2)]), true), (true, true), (Nat.ble ((i + 1) * 56) 140737488355328, true), (Nat.ble (i + 1) 9223372036854775807, true), (decide (0 ≤ (↑i : Int) ∧ (↑i : Int) < (↑(Dats.len ds) : Int)), true), (decide (TD.size d24 ≤ List.length (List.drop (Int.toNat (↑i : Int) * TD.size d24) (Dats.cells ds))), true), (same (PV.agg (List.take 4 (List.drop (Int.toNat (Int.ofNat i) * 4) (Dats.cells ds)))) (PV.agg [PV.int IntKind.i64 k, PV.int IntKind.i64 n, PV.str t, PV.slice (Dats.len ks) (Dats.cells ks)]), true), (true, true), (isOk [PV.int IntKind.i64 k, PV.int IntKind.i64 n, PV.str t, PV.slice (Dats.len ks) (Dats.cells ks)], true), (true, true), (same (PV.agg (ofCells (fun d => Dat.cells (Prod.fst (cutD d 1020 2000))) [] [PV.int IntKind.i64 k, PV.int IntKind.i64 n, PV.str t, PV.slice (Dats.len ks) (Dats.cells ks)])) (PV.agg [PV.int IntKind.i64 k2, PV.int IntKind.i64 n2, PV.str t2, PV.slice (Dats.len ks2) (Dats.cells ks2)]), true), (true, true), (Nat.ble ((i + 1) * 56) 140737488355328, true), (Nat.ble (i + 1) 9223372036854775807, true)]) (by kernel_rfl) (by repeat' first | exact okO_nil | refine okN ?_ ?_ | assumption | rfl) (fun st hst => ⟨⟨i + 1, hlt, hlt2⟩, Nat.sub_lt_sub_left hlt (Nat.lt_succ_self i), by
        show _ = (⟨[(0, .str s), (1, .slice ds.len ds.cells), (5, .own 0 (i + 1)), (6, .own 1 (i + 1)), (7, .int .i64 ((i + 1 : Nat) : Int))], ⟨[], [some ⟨(cuts ds (i + 1)).cells, i + 1, 24, 4⟩, some ⟨(cuts ds (i + 1)).cells, i + 1, 24, 4⟩]⟩⟩ : AS)
        rw [hst, wi, hsn]; rfl⟩)
    · have d3 : decide ((i : Int) < 10) = false := by simpa using (by omega : (10 : Int) ≤ i)
      exact SWP.runQ (SLi [(121, [(19, true), (22, false)])] []) 100 121 hnt [0, 5, 6] (e := .exit 0) (z := ⟨[(0, .str s), (5, .own 0 i), (6, .own 1 i)], ⟨[], [some ⟨Dats.cells (cuts ds i), i, 24, 4⟩, some ⟨Dats.cells (cuts ds i), i, 24, 4⟩]⟩⟩) (o := [(decide ((↑i : Int) < (↑(Dats.len ds) : Int)), true), (decide ((↑i : Int) < 10), false)]) (by kernel_rfl) (by repeat' first | exact okO_nil | refine okN ?_ ?_ | assumption | rfl) (fun st hst => fin i st hi hi10 hst)
  · have d1 := ge_at hge
    exact SWP.runQ (SLi [(121, [(19, false)])] []) 100 121 hnt [0, 5, 6] (e := .exit 0) (z := ⟨[(0, .str s), (5, .own 0 i), (6, .own 1 i)], ⟨[], [some ⟨Dats.cells (cuts ds i), i, 24, 4⟩, some ⟨Dats.cells (cuts ds i), i, 24, 4⟩]⟩⟩) (o := [(decide ((↑i : Int) < (↑(Dats.len ds) : Int)), false)]) (by kernel_rfl) (by repeat' first | exact okO_nil | refine okN ?_ ?_ | assumption | rfl) (fun st hst => fin i st hi hi10 hst)
end Seat
end Go.Proofs.YteimebpgmfhgjaaDoor
namespace Go.Proofs.YteimebpgmfhgjaaDoor
open Go.ChangeShapes Go.WideShapes Go.ChangeAt Go.RowKit
set_option linter.unusedVariables false
set_option maxRecDepth 100000
namespace Seat
def putG (h : Array Obj) (g : Nat) (cs : Array Value) : Array Obj := h.modify g fun
  | .cells _ t frozen => .cells cs t frozen
  | o => o
noncomputable def laidWorld (os : Os) : World :=
  let w0 := World.holding Tryd.prog os ⟨#[.cells #[.string ⟨#[43]⟩, .int .i64 2, .string ⟨#[45]⟩, .int .i64 2, .string ⟨#[42]⟩, .int .i64 2, .string ⟨#[113, 117, 111, 116]⟩, .int .i64 2, .string ⟨#[114, 101, 109]⟩, .int .i64 2, .string ⟨#[60]⟩, .int .i64 2, .string ⟨#[61]⟩, .int .i64 2, .string ⟨#[99, 111, 110, 115]⟩, .int .i64 2, .string ⟨#[102, 105, 114, 115, 116]⟩, .int .i64 1, .string ⟨#[114, 101, 115, 116]⟩, .int .i64 1, .string ⟨#[99, 111, 117, 110, 116]⟩, .int .i64 1, .string ⟨#[108, 105, 115, 116, 63]⟩, .int .i64 1, .string ⟨#[110, 117, 109, 63]⟩, .int .i64 1, .string ⟨#[115, 121, 109, 63]⟩, .int .i64 1, .string ⟨#[109, 97, 114, 107]⟩, .int .i64 2, .string ⟨#[115, 116, 111, 112]⟩, .int .i64 1] 76], #[], []⟩
  { w0 with heap := putG (putG (putG (putG (w0.heap) 3 #[.int .u8 0, .int .u8 1, .int .u8 28, .int .u8 2, .int .u8 29, .int .u8 14, .int .u8 24, .int .u8 3, .int .u8 30, .int .u8 22, .int .u8 20, .int .u8 15, .int .u8 25, .int .u8 17, .int .u8 4, .int .u8 8, .int .u8 31, .int .u8 27, .int .u8 13, .int .u8 23, .int .u8 21, .int .u8 19, .int .u8 16, .int .u8 7, .int .u8 26, .int .u8 12, .int .u8 18, .int .u8 6, .int .u8 11, .int .u8 5, .int .u8 10, .int .u8 9]) 4 #[.int .u8 0, .int .u8 1, .int .u8 56, .int .u8 2, .int .u8 57, .int .u8 49, .int .u8 28, .int .u8 3, .int .u8 61, .int .u8 58, .int .u8 42, .int .u8 50, .int .u8 38, .int .u8 29, .int .u8 17, .int .u8 4, .int .u8 62, .int .u8 47, .int .u8 59, .int .u8 36, .int .u8 45, .int .u8 43, .int .u8 51, .int .u8 22, .int .u8 53, .int .u8 39, .int .u8 33, .int .u8 30, .int .u8 24, .int .u8 18, .int .u8 12, .int .u8 5, .int .u8 63, .int .u8 55, .int .u8 48, .int .u8 27, .int .u8 60, .int .u8 41, .int .u8 37, .int .u8 16, .int .u8 46, .int .u8 35, .int .u8 44, .int .u8 21, .int .u8 52, .int .u8 32, .int .u8 23, .int .u8 11, .int .u8 54, .int .u8 26, .int .u8 40, .int .u8 15, .int .u8 34, .int .u8 20, .int .u8 31, .int .u8 10, .int .u8 25, .int .u8 14, .int .u8 19, .int .u8 9, .int .u8 13, .int .u8 8, .int .u8 7, .int .u8 6]) 1 #[.int .u64 1, .int .u64 10, .int .u64 100, .int .u64 1000, .int .u64 10000, .int .u64 100000, .int .u64 1000000, .int .u64 10000000, .int .u64 100000000, .int .u64 1000000000, .int .u64 10000000000, .int .u64 100000000000, .int .u64 1000000000000, .int .u64 10000000000000, .int .u64 100000000000000, .int .u64 1000000000000000, .int .u64 10000000000000000, .int .u64 100000000000000000, .int .u64 1000000000000000000, .int .u64 10000000000000000000]) 0 #[.slice (some ⟨(World.settled Tryd.prog os).heap.size + 0, 0, none⟩) 16 16] }
theorem laid_met (os : Os) (args : Array Value) : laidMet Tryd.prog Rows.primDoesRow.laid ((laidWorld os).forCall (fun _ _ => 0) ⟨#[], args, []⟩).memory :=
  laidMet_of_run' 9 (by kernel_rfl) (by kernel_rfl)
theorem own : ownKnob Tryd.prog.godebug = none := by kernel_rfl
end Seat
end Go.Proofs.YteimebpgmfhgjaaDoor
namespace Go.AS
open Go.ChangeShapes Go.WideShapes Go.ChangeAt Go.RowKit
set_option linter.unusedVariables false
set_option linter.unusedSimpArgs false
section
variable {H : Type} {enc : TypeId × Value → H} {P : Program} {w w' : World} {base : Nat} {held : Bool}
structure Flat (P : Program) (S : TypeId → Prop) : Prop where
  at' : ∀ t, S t → P.underlying t = some .bool ∨ (∃ k, P.underlying t = some (.int k)) ∨ P.underlying t = some .string ∨ (∃ e, P.underlying t = some (.slice e) ∧ S e ∧ 0 < P.cellsOf e) ∨ (∃ fs, P.underlying t = some (.struct fs) ∧ ∀ f ∈ fs.toList, S f.type)
theorem cells?_move {a : Addr} {n : Nat} {cs : List Value} (hw : ∀ a v, w.cell? a = some v → w'.cell? a = some v) (h : w.cells? base a n = some cs) : w'.cells? 0 a n = some cs := by
  obtain ⟨_, hl, hc⟩ := World.cells?_some h
  unfold World.cells?
  rw [if_pos (Nat.zero_le _)]
  refine mapM_some_of_get _ _ (by simp [hl]) fun i x hx => ?_
  have hi : i < n := by have := (List.getElem?_eq_some_iff.1 hx).1; simpa using this
  rw [List.getElem?_range hi] at hx
  cases hx
  rw [← hc i hi]
  cases hv : w.cell? (a.add i) with
  | none => rw [hc i hi] at hv; rw [List.getElem?_eq_none_iff] at hv; omega
  | some v => exact hw _ _ hv
theorem trod_move {S : TypeId → Prop} (hS : Flat P S) (hw : ∀ a v, w.cell? a = some v → w'.cell? a = some v) (sp : Nat → Bool) : ∀ (m : Nat) (t : TypeId) (cs : List Value) (x : DataW H × List MemPlace), S t → DataW.trod enc P w base (fun _ => true) held m t cs = some x → (∀ q ∈ x.2, sp q.block = true) → DataW.trod enc P w' 0 sp held m t cs = some x := by
  intro m
  induction m with
  | zero => intro t cs x _ h; simp [DataW.trod] at h
  | succ m ih =>
    intro t cs x ht h hp
    rcases hS.at' t ht with hu | ⟨k, hu⟩ | hu | ⟨e, hu, he, hpos⟩ | ⟨fs, hu, hfs⟩
    · obtain ⟨b, rfl, rfl⟩ := DataW.trod_bool hu h
      unfold DataW.trod
      rw [hu]
    · obtain ⟨n, rfl, rfl, hwf⟩ := DataW.trod_int hu h
      exact trod_int_mk m hu hwf
    · obtain ⟨s, rfl, rfl, hs⟩ := DataW.trod_string hu h
      unfold DataW.trod
      rw [hu]
      simp [hs]
    · rcases DataW.trod_slice hu h with ⟨rfl, rfl⟩ | ⟨a, len, cap, elems, rest, n, hn, rfl, rfl, h1, h2, h3, h4, h5, h6, _⟩
      · unfold DataW.trod
        rw [hu]
        rfl
      · obtain rfl : m = n := by omega
        obtain ⟨h6, h7⟩ := h6 rfl
        have hin : ∀ y, y ∈ elems ∨ y ∈ rest → ∀ q ∈ y.2, sp q.block = true := fun y hy q hq => hp q (List.mem_append_right _ (List.mem_flatMap.2 ⟨y, List.mem_append.2 hy, hq⟩))
        have go : ∀ (i : Nat) (y : DataW H × List MemPlace), (w.cells? base (a.add (i * P.cellsOf e)) (P.cellsOf e)).bind (DataW.trod enc P w base (fun _ => true) held m e) = some y → (∀ q ∈ y.2, sp q.block = true) → (w'.cells? 0 (a.add (i * P.cellsOf e)) (P.cellsOf e)).bind (DataW.trod enc P w' 0 sp held m e) = some y := fun i y hy hq => by
          obtain ⟨cs, hcs, htr⟩ := Option.bind_eq_some_iff.1 hy
          rw [cells?_move hw hcs]
          exact ih e cs y he htr hq
        have e1 : (List.range len).mapM (fun i => (w'.cells? 0 (a.add (i * P.cellsOf e)) (P.cellsOf e)).bind (DataW.trod enc P w' 0 sp held m e)) = some elems := mapM_some_of_get _ _ (by simp [h4]) fun i y hy => by
          have hi : i < len := by have := (List.getElem?_eq_some_iff.1 hy).1; simpa using this
          rw [List.getElem?_range hi] at hy
          cases hy
          obtain ⟨z, hz⟩ : ∃ z, elems[i]? = some z := ⟨_, List.getElem?_eq_getElem (by omega)⟩
          rw [hz]
          exact go i z (by rw [h5 i hi, hz]) (hin z (.inl (List.mem_of_getElem? hz)))
        have e2 : (List.range (cap - len)).mapM (fun j => (w'.cells? 0 (a.add ((len + j) * P.cellsOf e)) (P.cellsOf e)).bind (DataW.trod enc P w' 0 sp held m e)) = some rest := mapM_some_of_get _ _ (by simp [h6]) fun i y hy => by
          have hi : i < cap - len := by have := (List.getElem?_eq_some_iff.1 hy).1; simpa using this
          rw [List.getElem?_range hi] at hy
          cases hy
          obtain ⟨z, hz⟩ : ∃ z, rest[i]? = some z := ⟨_, List.getElem?_eq_getElem (by omega)⟩
          rw [hz]
          exact go (len + i) z (by rw [h7 i hi, hz]) (hin z (.inr (List.mem_of_getElem? hz)))
        have e3 : (if sp a.block then (List.range (cap - len)).mapM (fun j => (w'.cells? 0 (a.add ((len + j) * P.cellsOf e)) (P.cellsOf e)).bind (DataW.trod enc P w' 0 sp held m e)) else some []) = some rest := by
          by_cases hz : (elems.length + rest.length) * P.cellsOf e = 0
          · have : rest = [] := by
              rcases Nat.mul_eq_zero.1 hz with h | h
              · exact List.eq_nil_of_length_eq_zero (by omega)
              · omega
            subst this
            split
            · exact e2
            · rfl
          · have : sp a.block = true := hp (.cell a.block (a.off + 0)) (List.mem_append_left _ (List.mem_map.2 ⟨0, List.mem_range.2 (by omega), rfl⟩))
            rw [if_pos this]
            exact e2
        unfold DataW.trod
        rw [hu]
        simp only [e1, e3, Option.bind_some, Option.map_some]
        rw [if_pos ⟨Nat.zero_le _, h2, h3⟩]
    · obtain ⟨xs, n, hn, rfl, hl, hlen, hf⟩ := DataW.trod_struct hu h
      obtain rfl : m = n := by omega
      refine trod_struct_mk hu hl (mapM_some_of_get _ _ (by simpa using hlen) fun i f hi => ?_)
      obtain ⟨y, hy⟩ : ∃ y, xs[i]? = some y := ⟨_, List.getElem?_eq_getElem (by have := (List.getElem?_eq_some_iff.1 hi).1; simp at this; omega)⟩
      rw [hy]
      exact ih f.type _ y (hfs f (List.mem_of_getElem? hi)) (by rw [hf i f (by simpa using hi), hy]) (fun q hq => hp q (List.mem_flatMap.2 ⟨y, List.mem_of_getElem? hy, hq⟩))
theorem cell_keep (hk : ∀ k, k < w.heap.size → w'.heap[k]? = w.heap[k]?) (a : Addr) (v : Value) (h : w.cell? a = some v) : w'.cell? a = some v := by
  rw [← h]
  have hb : a.block < w.heap.size := by
    rcases Nat.lt_or_ge a.block w.heap.size with h' | h'
    · exact h'
    · unfold World.cell? at h
      rw [show w.heap[a.block]? = none from Array.getElem?_eq_none h'] at h
      simp at h
  unfold World.cell?
  rw [hk _ hb]
theorem trodAll_move {S : TypeId → Prop} (hS : Flat P S) (hk : ∀ k, k < w.heap.size → w'.heap[k]? = w.heap[k]?) (sp : Nat → Bool) : ∀ (ts : List TypeId) (vs : List Value) (ds : List (DataW H)) (p : List MemPlace), (∀ t ∈ ts, S t) → DataW.TrodAll enc P w base (fun _ => true) held ts vs ds p → (∀ q ∈ p, sp q.block = true) → DataW.TrodAll enc P w' 0 sp held ts vs ds p
  | [], [], [], p, _, h, _ => h
  | t :: ts, v :: vs, d :: ds, p, ht, h, hp => by
    obtain ⟨p1, q1, ⟨m, h1⟩, h2, rfl⟩ := h
    exact ⟨p1, q1, ⟨m, trod_move hS (cell_keep hk) sp m t _ _ (ht t (by simp)) h1 fun q hq => hp q (List.mem_append_left _ hq)⟩, trodAll_move hS hk sp ts vs ds q1 (fun t h => ht t (by simp [h])) h2 (fun q hq => hp q (List.mem_append_right _ hq)), rfl⟩
  | [], _ :: _, _, _, _, h, _ => by simp [DataW.TrodAll] at h
  | [], [], _ :: _, _, _, h, _ => by simp [DataW.TrodAll] at h
  | _ :: _, [], _, _, _, h, _ => by simp [DataW.TrodAll] at h
  | _ :: _, _ :: _, [], _, _, h, _ => by simp [DataW.TrodAll] at h
structure DatT (P : Program) (tD tK : TypeId) : Prop where
  st : ∃ fs f0 f1 f2 f3, P.underlying tD = some (.struct fs) ∧ fs.toList = [f0, f1, f2, f3] ∧ f0.offset = 0 ∧ f1.offset = 1 ∧ f2.offset = 2 ∧ f3.offset = 3 ∧ P.underlying f0.type = some (.int .i64) ∧ P.underlying f1.type = some (.int .i64) ∧ P.underlying f2.type = some .string ∧ f3.type = tK ∧ P.cellsOf f0.type = 1 ∧ P.cellsOf f1.type = 1 ∧ P.cellsOf f2.type = 1 ∧ P.cellsOf f3.type = 1
  sl : P.underlying tK = some (.slice tD)
  sz : P.cellsOf tD = 4
theorem dats_row {tD : TypeId} {sp : Nat → Bool} {n : Nat} {a : Addr} (hsz : P.cellsOf tD = 4)
    (ih : ∀ cs d p, DataW.trod enc P w base sp held n tD cs = some (d, p) → ∃ D : Dat, D.ok ∧ IReps (old w) w D.cells cs ∧ allOne D.cells = true ∧ D.rng) : ∀ (len k : Nat),
    (∀ i, i < len → ∃ x, (w.cells? base (a.add ((k + i) * 4)) 4).bind (DataW.trod enc P w base sp held n tD) = some x) →
    ∃ (ks : Dats) (vs : List Value), ks.len = len ∧ ks.ok ∧ vs.length = len * 4 ∧ (∀ (j : Nat) (v : Value), vs[j]? = some v → w.cell? (a.add (k * 4 + j)) = some v) ∧ IReps (old w) w ks.cells vs ∧ allOne ks.cells = true ∧ (0 < vs.length → a.block < w.heap.size) ∧ ks.rng := by
  intro len
  induction len with
  | zero => intro k _; exact ⟨.nil, [], rfl, trivial, rfl, (fun j v h => by simp at h), .nil _ _, rfl, (fun h => by simp at h), trivial⟩
  | succ len ihl =>
    intro k h
    obtain ⟨⟨d, p⟩, hp⟩ := h 0 (by omega)
    obtain ⟨cs, hcs, htr⟩ := Option.bind_eq_some_iff.1 hp
    obtain ⟨hb, hlen, hcell⟩ := World.cells?_some hcs
    obtain ⟨D, hok, h1, h2, h9⟩ := ih cs d p htr
    obtain ⟨ks, vs, g0, g1, g2, g3, g4, g5, g6, g9⟩ := ihl (k + 1) (fun i hi => by
      have := h (i + 1) (by omega)
      rw [show k + (i + 1) = k + 1 + i from by omega] at this
      exact this)
    refine ⟨.cons D ks, cs ++ vs, by simp [Dats.len, g0], ⟨hok, g1⟩, by simp [hlen, g2]; omega, fun j v hv => ?_, h1.append g4, allOne_append h2 g5, fun _ => ?_, ⟨h9, g9⟩⟩
    · rcases Nat.lt_or_ge j cs.length with hlt | hge
      · rw [List.getElem?_append_left hlt] at hv
        have := hcell j (by omega)
        rw [add_of_add, Nat.add_zero] at this
        rw [this]; exact hv
      · rw [List.getElem?_append_right hge] at hv
        have := g3 _ v hv
        rw [← this]
        congr 2
        omega
    · have := World.cells?_block hcs (by omega)
      rw [block_of_add] at this
      exact this
theorem trod_dat {tD tK : TypeId} (hT : DatT P tD tK) {sp : Nat → Bool} : ∀ (m : Nat), ∀ m', m' ≤ m → ∀ (cs : List Value) (d : DataW H) (p : List MemPlace), DataW.trod enc P w base sp held m' tD cs = some (d, p) → ∃ D : Dat, D.ok ∧ IReps (old w) w D.cells cs ∧ allOne D.cells = true ∧ D.rng := by
  obtain ⟨fs, f0, f1, f2, f3, hu, hfs, o0, o1, o2, o3, u0, u1, u2, rfl, c0, c1, c2, c3⟩ := hT.st
  intro m
  induction m with
  | zero => intro m' hm cs d p h; obtain rfl : m' = 0 := by omega
            simp [DataW.trod] at h
  | succ m ih =>
    intro m' hm cs d p h
    obtain ⟨xs, n, rfl, hx, hl, hlen, hf⟩ := DataW.trod_struct hu h
    have hsz := hT.sz
    have hcl : cs.length = 4 := by omega
    match cs, hcl with
    | [v0, v1, v2, v3], _ =>
      have e0 := hf 0 f0 (by rw [← Array.getElem?_toList, hfs]; rfl)
      have e1 := hf 1 f1 (by rw [← Array.getElem?_toList, hfs]; rfl)
      have e2 := hf 2 f2 (by rw [← Array.getElem?_toList, hfs]; rfl)
      have e3 := hf 3 f3 (by rw [← Array.getElem?_toList, hfs]; rfl)
      rw [o0, c0] at e0; rw [o1, c1] at e1; rw [o2, c2] at e2; rw [o3, c3] at e3
      simp only [List.drop_zero, List.drop_succ_cons, List.take_succ_cons, List.take_zero] at e0 e1 e2 e3
      have hxl : xs.length = 4 := by rw [hlen, ← Array.length_toList, hfs]; rfl
      match xs, hxl with
      | [x0, x1, x2, x3], _ =>
        simp only [List.getElem?_cons_zero, List.getElem?_cons_succ] at e0 e1 e2 e3
        obtain ⟨k, ek, _⟩ := DataW.trod_int u0 e0
        obtain ⟨z, ez, _, wz⟩ := DataW.trod_int u1 e1
        obtain ⟨s, es, _⟩ := DataW.trod_string u2 e2
        simp only [List.cons.injEq, and_true] at ek ez es
        subst ek ez es
        have fin : ∀ (ks : Dats), ks.len ≤ 9223372036854775807 → ks.ok → ks.rng → IRep (old w) w (.slice ks.len ks.cells) v3 → ∃ D : Dat, D.ok ∧ IReps (old w) w D.cells [.int .i64 k, .int .i64 z, .string s, v3] ∧ allOne D.cells = true ∧ D.rng := fun ks h1 h2 h9 h3 =>
          ⟨.mk k z s ks, ⟨h1, h2⟩, ⟨rfl, fun j x v hx hv => by
            match j with
            | 0 => simp [Dat.cells] at hx hv; subst hx; subst hv; exact .int _ _
            | 1 => simp [Dat.cells] at hx hv; subst hx; subst hv; exact .int _ _
            | 2 => simp [Dat.cells] at hx hv; subst hx; subst hv; exact .str _
            | 3 => simp [Dat.cells] at hx hv; subst hx; subst hv; exact h3
            | j + 4 => simp at hv⟩, rfl, bounds_i64 wz, h9⟩
        rcases DataW.trod_slice hT.sl e3 with ⟨hcs, _⟩ | ⟨a, len, cap, elems, rest, n', hn', hcs, _, h1, h2, h3, h4, h5, _⟩
        · simp only [List.cons.injEq, and_true] at hcs
          subst hcs
          exact fin .nil (by simp [Dats.len]) trivial trivial .slice0
        · simp only [List.cons.injEq, and_true] at hcs
          subst hcs
          obtain ⟨ks, vs, g0, g1, g2, g3, g4, g5, g6, g9⟩ := dats_row (a := a) hsz (ih n' (by omega)) len 0 (fun i hi => by
            have := h5 i hi
            rw [hsz] at this
            rw [Nat.zero_add]
            exact ⟨_, this.trans (List.getElem?_eq_getElem (by omega))⟩)
          unfold maxLen at h3
          refine fin ks (by omega) g1 g9 ?_
          rw [g0]
          exact .slice h2 g4.1 (fun h => g6 h) (fun j v hv => by have := g3 j v hv; rwa [Nat.zero_mul, Nat.zero_add] at this) (iones g4 g5) g4.2
end
end Go.AS
namespace Go.AS
open Go.RowKit
set_option linter.unusedVariables false
section
variable {G : Prg} {C : Ctx} {Q : AEx → AS → Prop} {st : AS}
end
section
variable {G : Prg} {C : Ctx} {Q : AEx → AS → Prop}
end
end Go.AS
namespace Go.Proofs.YteimebpgmfhgjaaDoor.Seat
open Go.ChangeShapes Go.WideShapes Go.ChangeAt Go.RowKit Go.AS
set_option linter.unusedVariables false
set_option maxRecDepth 100000
def flatT (t : TypeId) : Prop := t = 3 ∨ t = 2 ∨ t = 9 ∨ t = 22 ∨ t = 24
theorem flat : Flat Tryd.prog flatT := ⟨fun t ht => by
  rcases ht with rfl | rfl | rfl | rfl | rfl
  · exact .inr (.inl ⟨_, Tryd.underlying3⟩)
  · exact .inr (.inl ⟨_, Tryd.underlying2⟩)
  · exact .inr (.inr (.inl Tryd.underlying9))
  · exact .inr (.inr (.inr (.inl ⟨_, Tryd.underlying22, .inr (.inr (.inr (.inr rfl))), by rw [show Tryd.prog.cellsOf 24 = 4 by kernel_rfl]; exact Nat.le_of_ble_eq_true rfl⟩)))
  · refine .inr (.inr (.inr (.inr ⟨_, Tryd.underlying24, fun f hf => ?_⟩)))
    simp only [List.mem_cons, List.not_mem_nil, or_false] at hf
    rcases hf with rfl | rfl | rfl | rfl
    · exact .inl rfl
    · exact .inr (.inl rfl)
    · exact .inr (.inr (.inl rfl))
    · exact .inr (.inr (.inr (.inl rfl)))⟩
theorem datT : DatT Tryd.prog 24 22 :=
  ⟨⟨_, _, _, _, _, Tryd.underlying24, rfl, rfl, rfl, rfl, rfl, Tryd.underlying3, Tryd.underlying2, Tryd.underlying9, rfl, by kernel_rfl, by kernel_rfl, by kernel_rfl, by kernel_rfl⟩, Tryd.underlying22, by kernel_rfl⟩
end Go.Proofs.YteimebpgmfhgjaaDoor.Seat
namespace Go.Proofs.YteimebpgmfhgjaaDoor.Seat
open Go.ChangeShapes Go.WideShapes Go.ChangeAt Go.RowKit Go.AS
set_option linter.unusedVariables false
set_option maxRecDepth 100000
theorem open_dats {H : Type} {enc : TypeId × Value → H} {W : World} {base b0 : Nat} {sp : Nat → Bool} {held : Bool} {v : Value} {d : DataW H} {p : List MemPlace} (hv : Value.okWide Tryd.prog W .any base 22 v) (h : DataW.Trod enc Tryd.prog W b0 sp held 22 v d p) :
    ∃ ks : Dats, ks.len ≤ 9223372036854775807 ∧ ks.ok ∧ IRep (old W) W (.slice ks.len ks.cells) v ∧ ks.rng := by
  obtain ⟨sa, sl, sc, rfl⟩ := okWide_slice Tryd.underlying22 hv
  obtain ⟨m, h⟩ := h
  rcases DataW.trod_slice Tryd.underlying22 h with ⟨hcs, _⟩ | ⟨a, len, cap, elems, rest, n', hn', hcs, _, h1, h2, h3, h4, h5, _⟩
  · simp only [Value.cells, List.cons.injEq, and_true] at hcs
    rw [hcs]
    exact ⟨.nil, by simp [Dats.len], trivial, .slice0, trivial⟩
  · simp only [Value.cells, List.cons.injEq, and_true] at hcs
    rw [hcs]
    obtain ⟨ks, vs, g0, g1, g2, g3, g4, g5, g6, g9⟩ := dats_row (a := a) datT.sz (fun cs d p h => trod_dat datT n' n' (Nat.le_refl _) cs d p h) len 0 (fun i hi => by
      have := h5 i hi
      rw [datT.sz] at this
      rw [Nat.zero_add]
      exact ⟨_, this.trans (List.getElem?_eq_getElem (by omega))⟩)
    unfold maxLen at h3
    refine ⟨ks, by omega, g1, ?_, g9⟩
    rw [g0]
    exact .slice h2 g4.1 (fun h => g6 h) (fun j v hv => by have := g3 j v hv; rwa [Nat.zero_mul, Nat.zero_add] at this) (iones g4 g5) g4.2
end Go.Proofs.YteimebpgmfhgjaaDoor.Seat
