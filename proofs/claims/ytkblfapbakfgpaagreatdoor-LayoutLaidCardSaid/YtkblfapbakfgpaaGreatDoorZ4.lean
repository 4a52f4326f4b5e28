/- Texts of this session, packed: DatA, DatB, DatC, Text2, Text3, Text4, Lay0, Lay1, Lay2. -/
import Derived.Test.YtkblfapbakfgpaaGreatDoorZ3
/- pagodaref01.Parts: how many parts a datum has. -/
namespace Go.Proofs.YtkblfapbakfgpaaGreatDoor
open Go.AS
set_option linter.unusedVariables false
set_option linter.unusedSimpArgs false
set_option maxRecDepth 100000
namespace Seat
abbrev w64 (n : Int) : Int := IntKind.i64.wrap n
mutual
def parts : Dat → Nat
  | .mk _ _ _ ks => partsL ks + 1
def partsL : Dats → Nat
  | .nil => 0
  | .cons d ds => parts d + partsL ds
end
def psum (ks : Dats) : Nat → Nat
  | 0 => 0
  | j + 1 => psum ks j + parts (ks.get j)
def partsO (b : Bool) (nt k : Nat) : Option Bool := match Nat.beq nt 21 with
  | true => match k with
    | 9 => some b
    | 16 => some true
    | 17 => some true
    | _ => none
  | false => none
theorem wrap_in (n : Int) (h : -9223372036854775808 ≤ n ∧ n ≤ 9223372036854775807) : w64 n = n := by unfold w64; rw [IntKind.wrap_i64]; omega
end Seat
end Go.Proofs.YtkblfapbakfgpaaGreatDoor
/- pagodaref01.Deep: how deep a datum is. -/
namespace Go.Proofs.YtkblfapbakfgpaaGreatDoor
open Go.AS
set_option linter.unusedVariables false
set_option linter.unusedSimpArgs false
set_option maxRecDepth 100000
namespace Seat
abbrev w64' (n : Int) : Int := IntKind.i64.wrap n
def mx (x y : Int) : Int := if y > x then y else x
mutual
def deep : Dat → Int
  | .mk _ _ _ ks => w64' (deepL ks 0 + 1)
def deepL : Dats → Int → Int
  | .nil, acc => acc
  | .cons d ds, acc => deepL ds (mx acc (deep d))
end
end Seat
end Go.Proofs.YtkblfapbakfgpaaGreatDoor
/- datum.each: what its yields do: Parts$1 counts, Deep$1 keeps the greatest length. -/
namespace Go.Proofs.YtkblfapbakfgpaaGreatDoor
open Go.AS
set_option linter.unusedVariables false
set_option linter.unusedSimpArgs false
set_option maxRecDepth 100000
namespace Seat
def ctr (n : Int) : Box := ⟨[.int .i64 n], 3⟩
def scr (m : Nat) : Box := ⟨List.replicate m .junk, 3⟩
theorem scL_rep (k m : Nat) : scL k (List.replicate m PV.junk) = true := by
  induction m with
  | zero => rfl
  | succ m ih => rw [List.replicate_succ]; simp only [scL, ih, Bool.and_true]; rfl
def yOf (Y : Nat) : PV := .func (.func Y) [.ptr 0 0]
structure Yok (Y : Nat) (f : Int → Nat → Int) : Prop where
  fn : ∃ q, F Y = some q
  nil : ∀ (k n : Int) (s : ByteArray) (m : Nat) (cs : List PV) (cnt : Int), PCalls G0 Y [.agg [.int .i64 k, .int .i64 n, .str s, .slice m cs], .nil, .ptr 0 0] [ctr cnt] (fun o b => o = .ret (.bool true) ∧ b = [ctr (f cnt 0)])
  scr : ∀ (k n : Int) (s : ByteArray) (m : Nat) (cs : List PV) (cnt : Int) (pl pm : Nat), pl ≤ pm → PCalls G0 Y [.agg [.int .i64 k, .int .i64 n, .str s, .slice m cs], .bsl 1 pl pm, .ptr 0 0] [ctr cnt, scr pm] (fun o b => o = .ret (.bool true) ∧ b = [ctr (f cnt pl), scr pm])
def fParts (c : Int) (_ : Nat) : Int := IntKind.i64.wrap (c + 1)
def mxi (x y : Int) : Int := if y > x then y else x
def fDeep (c : Int) (n : Nat) : Int := mxi c (IntKind.i64.wrap ((n : Int) + 1))
theorem yParts : Yok 53 fParts where
  fn := ⟨_, rfl⟩
  nil := fun k n s m cs cnt => PCalls.run (S := S0) (o := []) 100 (by kernel_rfl) (fun p h => by cases h)
  scr := fun k n s m cs cnt pl pm h => by
    refine Fn.enterN Tryz.func53 Tryz.ntmps53 rfl (Nat.le_of_ble_eq_true rfl) fun C fr fp hnt hp hfr hfp => ?_
    refine SWP.runQ S0 60 8 hnt [5] (e := .ret) (z := ⟨[(5, .bool true)], ⟨[ctr (fParts cnt pl), Seat.scr pm, ⟨[.int .i64 k, .int .i64 n, .str s, .slice m cs], 24⟩], []⟩⟩) (o := []) (by kernel_rfl) (fun p h => by cases h) (fun s hs => hfr s [5] ?_)
    rw [hs]
    exact ⟨2, .bool true, Nat.le_of_ble_eq_true rfl, Nat.le_of_ble_eq_true rfl, rfl, rfl, by simp only [Seat.scr, ctr, List.take, List.all_cons, List.all_nil, scL_rep]; rfl, rfl, rfl⟩
theorem yDeep : Yok 54 fDeep where
  fn := ⟨_, rfl⟩
  nil := fun k n s m cs cnt => PCalls.run (S := S0) (o := []) 100 (by kernel_rfl) (fun p h => by cases h)
  scr := fun k n s m cs cnt pl pm h => by
    refine Fn.enterN Tryz.func54 Tryz.ntmps54 rfl (Nat.le_of_ble_eq_true rfl) fun C fr fp hnt hp hfr hfp => ?_
    refine SWP.runQ S0 60 11 hnt [5] (e := .ret) (z := ⟨[(5, .bool true)], ⟨[ctr (fDeep cnt pl), Seat.scr pm, ⟨[.int .i64 k, .int .i64 n, .str s, .slice m cs], 24⟩], []⟩⟩) (o := []) (by kernel_rfl) (fun p h => by cases h) (fun s hs => hfr s [5] ?_)
    rw [hs]
    exact ⟨2, .bool true, Nat.le_of_ble_eq_true rfl, Nat.le_of_ble_eq_true rfl, rfl, rfl, by simp only [Seat.scr, ctr, List.take, List.all_cons, List.all_nil, scL_rep]; rfl, rfl, rfl⟩
end Seat
end Go.Proofs.YtkblfapbakfgpaaGreatDoor
/- datum.each: what it comes to; the yield's call. -/
namespace Go.Proofs.YtkblfapbakfgpaaGreatDoor
open Go.AS
set_option linter.unusedVariables false
set_option linter.unusedSimpArgs false
set_option maxRecDepth 100000
namespace Seat
mutual
def eachF (f : Int → Nat → Int) : Dat → Int → Nat → Int
  | .mk _ _ _ ks, c, n => eachL f ks (f c n) (n + 1)
def eachL (f : Int → Nat → Int) : Dats → Int → Nat → Int
  | .nil, c, _ => c
  | .cons d ds, c, n => eachL f ds (eachF f d c n) n
end
def eachP (f : Int → Nat → Int) (ks : Dats) (c : Int) (n : Nat) : Nat → Int
  | 0 => c
  | j + 1 => eachF f (ks.get j) (eachP f ks c n j) n
theorem eachP_len (f : Int → Nat → Int) (n : Nat) : ∀ (ks : Dats) (c : Int), eachP f ks c n ks.len = eachL f ks c n := by
  have shift : ∀ (d : Dat) (ds : Dats) (c : Int) (j : Nat), eachP f (.cons d ds) c n (j + 1) = eachP f ds (eachF f d c n) n j := by
    intro d ds c j
    induction j with
    | zero => simp [eachP, Dats.get]
    | succ j ih => rw [eachP, ih]; simp only [eachP, Dats.get]
  intro ks
  induction ks using Dats.rec (motive_1 := fun _ => True) with
  | mk => trivial
  | nil => intro c; rfl
  | cons d ds _ ih => intro c; simp only [Dats.len, eachL]; rw [shift, ih]
mutual
def deepN : Dat → Nat
  | .mk _ _ _ ks => deepNL ks + 1
def deepNL : Dats → Nat
  | .nil => 0
  | .cons d ds => max (deepN d) (deepNL ds)
end
theorem deepN_get : ∀ (ks : Dats) (j : Nat), j < ks.len → deepN (ks.get j) ≤ deepNL ks
  | .nil, j, h => by simp [Dats.len] at h
  | .cons d ds, 0, h => by simp only [Dats.get, deepNL]; omega
  | .cons d ds, j + 1, h => by
    have := deepN_get ds j (by simp only [Dats.len] at h; omega)
    simp only [Dats.get, deepNL]; omega
theorem wrapN (n : Nat) (h : n ≤ 9223372036854775807) : IntKind.i64.wrap (n : Int) = n := by rw [IntKind.wrap_i64]; omega
section
variable {Y : Nat} {f : Int → Nat → Int}
theorem yield_scr (hY : Yok Y f) (k n : Int) (s : ByteArray) (m : Nat) (cs : List PV) (cnt : Int) (pl pm : Nat) (hp : pl ≤ pm) {C : Ctx} {Q : AEx → AS → Prop} {K : AS → Prop} (hnt : C.nt = 31) (st : AS) (h3 : lk st.t 9 = yOf Y) (h4 : lk st.t 10 = .agg [.int .i64 k, .int .i64 n, .str s, .slice m cs]) (h5 : lk st.t 11 = .bsl 1 pl pm) (hb : st.h.bx[0]? = some (ctr cnt)) (hb1 : st.h.bx[1]? = some (scr pm))
    (hK : K (({ st with h := ⟨st.h.bx.set 0 (ctr (f cnt pl)), st.h.rw⟩ } : AS).put (some 12) (.bool true))) :
    SOne G0 C (some 12) (.call ⟨.value (.tmp 9), #[.tmp 10, .tmp 11], #[24, 112]⟩) Q K st := fun o h1 h2 => by
  obtain ⟨q, hq⟩ := hY.fn
  obtain ⟨a1, a2, a3⟩ := hF _ _ hq
  refine SOp.callF (f := Y) (ys := [.agg [.int .i64 k, .int .i64 n, .str s, .slice m cs], .bsl 1 pl pm, .ptr 0 0]) (xs := [.agg [.int .i64 k, .int .i64 n, .str s, .slice m cs], .bsl 1 pl pm, .ptr 0 0]) (fun i => i) [ctr cnt, scr pm] h2 ?_ a1 a2 a3 rfl ?_ ?_ ?_ ?_ ?_ (hY.scr k n s m cs cnt pl pm hp) ?_
  · simp only [target, AS.ev, h3, yOf, List.map_cons, List.map_nil, h4, h5, List.cons_append, List.nil_append]
  · intro j y x hy hx
    match j with
    | 0 => simp at hy hx; subst hy; subst hx; exact .pure rfl
    | 1 => simp at hy hx; subst hy; subst hx; exact .bsl (by simp)
    | 2 => simp at hy hx; subst hy; subst hx; exact .ptr (by simp)
    | j + 3 => simp at hy
  · intro i b hi
    match i with
    | 0 => simp at hi; subst hi; exact hb
    | 1 => simp at hi; subst hi; exact hb1
    | i + 2 => simp at hi
  · simp only [List.all_cons, List.all_nil, scr, ctr, scL_rep]; rfl
  · intro i j hi hj h; exact h
  · rw [h1, hnt]; rfl
  · rintro o' b ⟨rfl, rfl⟩
    refine ⟨_, _, rfl, rfl, by simp only [List.take, List.length_cons, List.length_nil, List.all_cons, List.all_nil, scr, ctr, scL_rep]; rfl, List.length_set .., fun i hi => ?_, fun j hj => ?_, by rw [h1]; exact hK⟩
    · match i with
      | 0 => rw [List.getElem?_set_self (List.getElem?_eq_some_iff.1 hb).1]; rfl
      | 1 => rw [List.getElem?_set_ne (by simp)]; exact hb1
      | i + 2 => exact absurd hi (by simp only [List.length_cons, List.length_nil]; omega)
    · rw [List.getElem?_set_ne (hj 0 (by simp))]
theorem yield_nil (hY : Yok Y f) (k n : Int) (s : ByteArray) (m : Nat) (cs : List PV) (cnt : Int) {C : Ctx} {Q : AEx → AS → Prop} {K : AS → Prop} (hnt : C.nt = 31) (st : AS) (h3 : lk st.t 9 = yOf Y) (h4 : lk st.t 10 = .agg [.int .i64 k, .int .i64 n, .str s, .slice m cs]) (h5 : lk st.t 11 = .nil) (hb : st.h.bx[0]? = some (ctr cnt))
    (hK : K (({ st with h := ⟨st.h.bx.set 0 (ctr (f cnt 0)), st.h.rw⟩ } : AS).put (some 12) (.bool true))) :
    SOne G0 C (some 12) (.call ⟨.value (.tmp 9), #[.tmp 10, .tmp 11], #[24, 112]⟩) Q K st := fun o h1 h2 => by
  obtain ⟨q, hq⟩ := hY.fn
  obtain ⟨a1, a2, a3⟩ := hF _ _ hq
  refine SOp.callF (f := Y) (ys := [.agg [.int .i64 k, .int .i64 n, .str s, .slice m cs], .nil, .ptr 0 0]) (xs := [.agg [.int .i64 k, .int .i64 n, .str s, .slice m cs], .nil, .ptr 0 0]) (fun i => i) [ctr cnt] h2 ?_ a1 a2 a3 rfl ?_ ?_ rfl ?_ ?_ (hY.nil k n s m cs cnt) ?_
  · simp only [target, AS.ev, h3, yOf, List.map_cons, List.map_nil, h4, h5, List.cons_append, List.nil_append]
  · intro j y x hy hx
    match j with
    | 0 => simp at hy hx; subst hy; subst hx; exact .pure rfl
    | 1 => simp at hy hx; subst hy; subst hx; exact .pure rfl
    | 2 => simp at hy hx; subst hy; subst hx; exact .ptr (by simp)
    | j + 3 => simp at hy
  · intro i b hi
    match i with
    | 0 => simp at hi; subst hi; exact hb
    | i + 1 => simp at hi
  · intro i j hi hj h; exact h
  · rw [h1, hnt]; rfl
  · rintro o' b ⟨rfl, rfl⟩
    refine ⟨_, _, rfl, rfl, rfl, List.length_set .., fun i hi => ?_, fun j hj => ?_, by rw [h1]; exact hK⟩
    · have : i = 0 := by simp at hi; exact hi
      subst this
      rw [List.getElem?_set_self (List.getElem?_eq_some_iff.1 hb).1]
      rfl
    · rw [List.getElem?_set_ne (hj 0 (by simp))]
def EachAt (Y : Nat) (f : Int → Nat → Int) (N : Nat) : Prop := ∀ d : Dat, d.size < N → d.ok → ∀ (cnt : Int) (n m : Nat), n ≤ m → n + deepN d ≤ 17592186044415 → PCalls G0 52 [.agg d.cells, .bsl 1 n m, yOf Y] [ctr cnt, scr m] (fun o b => o = .ret (.bool true) ∧ b = [ctr (eachF f d cnt n), scr m])
theorem each_call {N : Nat} (hN : EachAt Y f N) (d : Dat) (hd : d.size < N) (hok : d.ok) (cnt : Int) (q n m : Nat) (hq : q ≠ 0) (hnm : n ≤ m) (hdeep : n + deepN d ≤ 17592186044415) {C : Ctx} {Q : AEx → AS → Prop} {K : AS → Prop} (hnt : C.nt = 31) (st : AS) (h3 : lk st.t 22 = .agg d.cells) (h4 : lk st.t 26 = .bsl q n m) (h5 : lk st.t 27 = yOf Y) (hb : st.h.bx[0]? = some (ctr cnt)) (hb1 : st.h.bx[q]? = some (scr m))
    (hK : K (({ st with h := ⟨st.h.bx.set 0 (ctr (eachF f d cnt n)), st.h.rw⟩ } : AS).put (some 28) (.bool true))) :
    SOne G0 C (some 28) (.call ⟨.value (.func 52), #[.tmp 22, .tmp 26, .tmp 27], #[24, 112, 113]⟩) Q K st := fun o h1 h2 => by
  obtain ⟨a1, a2, a3⟩ := hF 52 _ rfl
  refine SOp.callF (f := 52) (ys := [.agg d.cells, .bsl q n m, yOf Y]) (xs := [.agg d.cells, .bsl 1 n m, yOf Y]) (fun i => match i with | 0 => 0 | _ => q) [ctr cnt, scr m] h2 ?_ a1 a2 a3 rfl ?_ ?_ ?_ ?_ ?_ (hN d hd hok cnt n m hnm hdeep) ?_
  · simp only [target, AS.ev, h3, yOf, List.map_cons, List.map_nil, h4, h5, List.cons_append, List.nil_append, List.append_nil]
  · intro j y x hy hx
    match j with
    | 0 => simp at hy hx; subst hy; subst hx; exact .pure (by simp only [PV.pure, Dat.pure])
    | 1 => simp at hy hx; subst hy; subst hx; exact .bsl (pos := fun i => match i with | 0 => 0 | _ => q) (b := 1) (by simp)
    | 2 =>
      simp [yOf] at hy hx; subst hy; subst hx
      refine .func rfl fun j y x hy hx => ?_
      match j with
      | 0 => simp at hy hx; subst hy; subst hx; exact .ptr (pos := fun i => match i with | 0 => 0 | _ => q) (b := 0) (by simp)
      | j + 1 => simp at hy
    | j + 3 => simp at hy
  · intro i b hi
    match i with
    | 0 => simp at hi; subst hi; exact hb
    | 1 => simp at hi; subst hi; exact hb1
    | i + 2 => simp at hi
  · simp only [List.all_cons, List.all_nil, scr, ctr, scL_rep]; rfl
  · intro i j hi hj h
    match i, j with
    | 0, 0 => rfl
    | 0, 1 => exact absurd h.symm hq
    | 1, 0 => exact absurd h hq
    | 1, 1 => rfl
    | i + 2, _ => exact absurd hi (by simp only [List.length_cons, List.length_nil]; omega)
    | _, j + 2 => exact absurd hj (by simp only [List.length_cons, List.length_nil]; omega)
  · rw [h1, hnt]; rfl
  · rintro o' b ⟨rfl, rfl⟩
    refine ⟨_, _, rfl, rfl, by simp only [List.take, List.length_cons, List.length_nil, List.all_cons, List.all_nil, scr, ctr, scL_rep]; rfl, List.length_set .., fun i hi => ?_, fun j hj => ?_, by rw [h1]; exact hK⟩
    · match i with
      | 0 => exact (List.getElem?_set_self (List.getElem?_eq_some_iff.1 hb).1).trans rfl
      | 1 => exact (List.getElem?_set_ne (Ne.symm hq)).trans hb1
      | i + 2 => exact absurd hi (by simp only [List.length_cons, List.length_nil]; omega)
    · have := hj 0 (by simp)
      exact List.getElem?_set_ne this
end
end Seat
end Go.Proofs.YtkblfapbakfgpaaGreatDoor
/- datum.each, of a path that is a box's: the walk. -/
namespace Go.Proofs.YtkblfapbakfgpaaGreatDoor
open Go.AS
set_option linter.unusedVariables false
set_option linter.unusedSimpArgs false
set_option maxRecDepth 100000
namespace Seat
def eachO (b : Bool) (nt k : Nat) : Option Bool := match Nat.beq nt 31 with
  | true => match k with
    | 18 => some b
    | 20 => some true
    | 21 => some true
    | _ => none
  | false => none
def eachV (v : PV) (nt k : Nat) : Option PV := match Nat.beq nt 31 with
  | true => match k with
    | 21 => some v
    | _ => none
  | false => none
theorem eachAt {Y : Nat} {f : Int → Nat → Int} (hY : Yok Y f) (N : Nat) : EachAt Y f N := by
  induction N with
  | zero => intro d h; omega
  | succ N ih =>
    intro d hN hok cnt n m hnm hdeep
    obtain ⟨dk, dn, ds, ks⟩ := d
    let D : Box := ⟨[.int .i64 dk, .int .i64 dn, .str ds, .slice ks.len ks.cells], 24⟩
    let S (b : Bool) (v : PV) : Cfg G0 := { F := F, hF := hF, S := fun _ _ => none, hS := fun _ _ _ _ h => (by cases h), orc := eachO b, val := eachV v }
    refine Fn.enterB Tryz.func52 Tryz.ntmps52 rfl (Nat.le_of_ble_eq_true rfl) fun C fr fp hnt hnb hp hfr hfp => ?_
    refine Q.runSeq S0 50 31 hnt [1, 2, 3] (z := ⟨[(1, .bsl 1 n m), (2, yOf Y), (3, .ptr 2 0)], ⟨[ctr cnt, scr m, D], []⟩⟩) (o := []) (by kernel_rfl) (fun p h => by cases h) ?_
    refine Q.seq fun K hK => ?_
    refine Q.seq fun K2 hK2 => ?_
    (with_reducible refine Q.region (l := ?_) ?_ ?_); rotate_left; focus (simp only [strip, SO.of, List.toList_toArray, List.getElem?_cons_zero, List.getElem?_cons_succ, Option.bind_some]; rfl)
    refine SRun.step _ (by simp only [push_cast, hnt, Nat.reduceEqDiff, reduceIte, Nat.reduceAdd, Nat.reduceSub, Nat.reduceMul, Nat.reduceLeDiff, Nat.reduceLT, Nat.reduceBEq, Nat.reduceBNe, decide_true, decide_false, Nat.le_refl, Bool.not_true, Bool.not_false, Bool.false_eq_true, reduceCtorEq, Bool.true_and, Bool.and_true, ge_iff_le, Nat.lt_irrefl, Nat.zero_le]; rfl) ?_
    refine SRun.step _ (by simp only [push_cast, hnt, Nat.reduceEqDiff, reduceIte, Nat.reduceAdd, Nat.reduceSub, Nat.reduceMul, Nat.reduceLeDiff, Nat.reduceLT, Nat.reduceBEq, Nat.reduceBNe, decide_true, decide_false, Nat.le_refl, Bool.not_true, Bool.not_false, Bool.false_eq_true, reduceCtorEq, Bool.true_and, Bool.and_true, ge_iff_le, Nat.lt_irrefl, Nat.zero_le]; rfl) ?_
    refine SRun.step _ (by simp only [push_cast, hnt, Nat.reduceEqDiff, reduceIte, Nat.reduceAdd, Nat.reduceSub, Nat.reduceMul, Nat.reduceLeDiff, Nat.reduceLT, Nat.reduceBEq, Nat.reduceBNe, decide_true, decide_false, Nat.le_refl, Bool.not_true, Bool.not_false, Bool.false_eq_true, reduceCtorEq, Bool.true_and, Bool.and_true, ge_iff_le, Nat.lt_irrefl, Nat.zero_le]; rfl) ?_
    refine SRun.cons (yield_scr hY dk dn ds ks.len ks.cells cnt n m hnm hnt _ rfl rfl rfl rfl rfl ?_)
    refine SRun.step _ (by simp only [push_cast, hnt, Nat.reduceEqDiff, reduceIte, Nat.reduceAdd, Nat.reduceSub, Nat.reduceMul, Nat.reduceLeDiff, Nat.reduceLT, Nat.reduceBEq, Nat.reduceBNe, decide_true, decide_false, Nat.le_refl, Bool.not_true, Bool.not_false, Bool.false_eq_true, reduceCtorEq, Bool.true_and, Bool.and_true, ge_iff_le, Nat.lt_irrefl, Nat.zero_le]; rfl) ?_
    refine Q.nil (hK2 _ ?_)
    refine Q.cond (b := false) rfl (fun h => by cases h) (fun _ => ?_)
    refine Q.skip (hK _ (.norm [1, 2, 3] ?_))
    have e1 : ∀ (a : Int) t, nrm [1, 2, 3] ⟨t, ⟨[ctr cnt, scr m, D].set 0 (ctr a), []⟩⟩ = nrm [1, 2, 3] ⟨t, ⟨[ctr a, scr m, D], []⟩⟩ := fun _ _ => rfl
    refine Q.seq fun K3 hK3 => ?_
    refine Q.runSeq S0 50 31 hnt [1, 2, 3, 15, 16, 17] (z := ⟨[(1, .bsl 1 n m), (2, yOf Y), (3, .ptr 2 0), (15, .slice ks.len ks.cells), (16, .int .i64 ks.len), (17, .int .i64 0)], ⟨[ctr (f cnt n), scr m, D], []⟩⟩) (o := []) (by kernel_rfl) (fun p h => by cases h) ?_
    refine Q.block ?_
    let T (j : Nat) : AS := ⟨[(1, .bsl 1 n m), (2, yOf Y), (3, .ptr 2 0), (15, .slice ks.len ks.cells), (16, .int .i64 ks.len), (17, .int .i64 j)], ⟨[ctr (eachP f ks (f cnt n) (n + 1) j), scr m, D], []⟩⟩
    refine Q.loopI (σ := { j : Nat // j ≤ ks.len }) [1, 2, 3, 15, 16, 17] (fun j => T j.1) (fun j => ks.len - j.1) ⟨0, Nat.zero_le _⟩ rfl fun ⟨j, hj⟩ => ?_
    rcases Nat.lt_or_ge j ks.len with hlt | hge
    · refine Q.runSeq (S true .nil) 50 31 hnt [1, 2, 3, 15, 16, 17, 18] (z := ⟨(T j).t ++ [(18, .bool true)], (T j).h⟩) (o := [(decide ((j : Int) < (ks.len : Int)), true)]) (by kernel_rfl) (fun p hm => ?_) ?_
      · simp only [List.mem_cons, List.not_mem_nil, or_false] at hm
        subst hm
        simpa using hlt
      refine Q.runSeq S0 50 31 hnt [1, 2, 3, 15, 16, 17] (z := T j) (o := []) (by kernel_rfl) (fun p h => by cases h) ?_
      refine Q.seq fun K4 hK4 => ?_
      refine Q.block ?_
      obtain ⟨k', n', s', ks', hget⟩ : ∃ k' n' s' ks', ks.get j = .mk k' n' s' ks' := by cases h : ks.get j with | mk k n s ks => exact ⟨k, n, s, ks, rfl⟩
      let Kb : Box := ⟨[.int .i64 k', .int .i64 n', .str s', .slice ks'.len ks'.cells], 24⟩
      refine Q.runSeq (S true (.agg Kb.cs)) 50 31 hnt [1, 2, 3, 7, 8, 15, 16, 17] (z := ⟨[(1, .bsl 1 n m), (2, yOf Y), (3, .ptr 2 0), (7, .int .i64 j), (8, .ptr 3 0), (15, .slice ks.len ks.cells), (16, .int .i64 ks.len), (17, .int .i64 j)], ⟨[ctr (eachP f ks (f cnt n) (n + 1) j), scr m, D, Kb], []⟩⟩)
        (o := [(decide (0 ≤ (j : Int) ∧ (j : Int) < (ks.len : Int)), true), (decide (4 ≤ (ks.cells.drop ((j : Int).toNat * 4)).length), true), (same (.agg ((ks.cells.drop ((j : Int).toNat * 4)).take 4)) (.agg Kb.cs), true)]) (by kernel_rfl) (fun p hm => ?_) ?_
      · simp only [List.mem_cons, List.not_mem_nil, or_false, Int.toNat_natCast, Dats.get_cells ks j hlt] at hm
        rcases hm with rfl | rfl | rfl
        · simpa using hlt
        · simp only [List.length_drop, Dats.cells_len, decide_eq_true_eq]; omega
        · exact same_of (by rw [hget]; rfl)
      refine Q.seq fun K6 hK6 => ?_
      have hsz : (ks.get j).size < N := by have := Dats.get_size ks j hlt; simp only [Dat.size] at hN; omega
      have hokj : (ks.get j).ok := Dats.get_ok ks j hlt hok.2
      have hdp : n + 1 + deepN (ks.get j) ≤ 17592186044415 := by have := deepN_get ks j hlt; simp only [deepN] at hdeep; omega
      have hcs : (ks.get j).cells = Kb.cs := by rw [hget]; rfl
      have fin6 : ∀ (s : AS) (more : List Box), nrm [1, 2, 3, 15, 16, 17, 29] s = ⟨(T j).t ++ [(29, .bool false)], ⟨ctr (eachP f ks (f cnt n) (n + 1) (j + 1)) :: scr m :: D :: more, []⟩⟩ → K6 s := fun s more hs => by
        refine hK6 s (.norm [1, 2, 3, 15, 16, 17, 29] ?_)
        rw [hs]
        refine .drop 3 (by rw [hnb]; exact Nat.le_of_ble_eq_true rfl) (by simp) (by simp only [Seat.scr, ctr, List.take, List.all_cons, List.all_nil, scL_rep]; rfl) rfl rfl ?_
        refine SWP.runQ S0 50 31 hnt [1, 2, 3, 15, 16, 17] (e := .normal) (z := ⟨(T j).t, ⟨[ctr (eachP f ks (f cnt n) (n + 1) (j + 1)), scr m, D], []⟩⟩) (o := []) (by kernel_rfl) (fun p h => by cases h) (fun s hs => hK4 s (.norm [1, 2, 3, 15, 16, 17] ?_))
        rw [hs]
        refine SWP.runQ S0 50 31 hnt [1, 2, 3, 15, 16, 17] (e := .normal) (z := ⟨[(1, .bsl 1 n m), (2, yOf Y), (3, .ptr 2 0), (15, .slice ks.len ks.cells), (16, .int .i64 ks.len), (17, .int .i64 (IntKind.i64.wrap ((j : Int) + 1)))], ⟨[ctr (eachP f ks (f cnt n) (n + 1) (j + 1)), scr m, D], []⟩⟩) (o := []) (by kernel_rfl) (fun p h => by cases h) (fun s hs => ⟨⟨j + 1, hlt⟩, Nat.sub_lt_sub_left hlt (Nat.lt_succ_self j), ?_⟩)
        rw [hs]
        have := hok.1
        have e := wrapN (j + 1) (by omega)
        push_cast at e
        rw [e]
        rfl
      refine SWP.draw [4, 6] #[false, false, false, false, false, false, false, false] rfl ?_
      refine SAny.with 2 #[true, true, true, true, true, true, false, false] (fun s => ∃ (q c : Nat) (more : List Box), q ≠ 0 ∧ n + 1 ≤ c ∧ (scr m :: D :: Kb :: more)[q - 1]? = some (scr c) ∧ nrm [1, 2, 3, 15, 16, 17, 22, 26, 27] s = ⟨(T j).t ++ [(22, .agg Kb.cs), (26, .bsl q (n + 1) c), (27, yOf Y)], ⟨ctr (eachP f ks (f cnt n) (n + 1) j) :: scr m :: D :: Kb :: more, []⟩⟩) ?_ ?_
      · rintro s ⟨q, c, more, hq, hc, hbq, hs⟩
        refine SAny.norm [1, 2, 3, 15, 16, 17, 22, 26, 27] ?_
        rw [hs]
        refine SAny.last (i := 6) #[true, true, true, true, true, true, true, false] rfl rfl (by kernel_rfl) rfl ?_
        refine each_call ih (ks.get j) hsz hokj (eachP f ks (f cnt n) (n + 1) j) q (n + 1) c hq hc hdp hnt _ ?_ rfl rfl rfl ?_ ?_ _ rfl rfl
        · rw [hcs]; rfl
        · cases q with
          | zero => exact absurd rfl hq
          | succ q => simpa using hbq
        refine SAny.one (i := 7) #[true, true, true, true, true, true, true, true] rfl rfl (by kernel_rfl) ?_
        refine SOpG.val (x := .bool false) rfl (by rw [hnt]; rfl) ?_
        exact SAny.done (by kernel_rfl) (fin6 _ (Kb :: more) rfl)
      intro tail
      refine SAny.free (i := 1) (l' := #[false, true, false, false, false, false, false, false]) (x := .bsl 1 n m) rfl rfl rfl (by rw [hnt]; rfl) (by kernel_rfl) hp.q ?_
      refine SAny.free (i := 2) (l' := #[false, true, true, false, false, false, false, false]) (x := .int .i64 j) rfl rfl rfl (by rw [hnt]; rfl) (by kernel_rfl) hp.q ?_
      refine SAny.free (i := 5) (l' := #[false, true, true, false, false, true, false, false]) (x := yOf Y) rfl rfl rfl (by rw [hnt]; rfl) (by kernel_rfl) hp.q ?_
      have app : ∀ (Q : AEx → AS → Prop) (K : AS → Prop) (s : AS) (o : Oper), o.op = .call ⟨.builtin .append, #[.tmp 23, .tmp 25], #[112, 112]⟩ → o.dst = some 26 → lk s.t 23 = .bsl 1 n m → lk s.t 25 = .slice 1 [.int .i64 j] → s.h = ⟨[ctr (eachP f ks (f cnt n) (n + 1) j), scr m, D, Kb], []⟩ →
          (∀ (q c : Nat) (more : List Box), q ≠ 0 → n + 1 ≤ c → (scr m :: D :: Kb :: more)[q - 1]? = some (scr c) → K (({ s with h := ⟨ctr (eachP f ks (f cnt n) (n + 1) j) :: scr m :: D :: Kb :: more, []⟩ } : AS).put (some 26) (.bsl q (n + 1) c))) → SOp G0 C o Q K s := fun Q K s o ho hd h23 h25 hh h => by
        have hdo : dstOk C.nt o.dst = true := by rw [hd, hnt]; rfl
        rcases Nat.lt_or_ge m (n + 1) with hm | hm
        · refine SOp.scrGrow (b := 1) (n := n) (m := m) (k := 1) (cs := [.int .i64 j]) (e := 3) (td := d3) (tdt := d112) ho h23 h25 (by rw [hh]; rfl) rfl rfl rfl rfl rfl rfl (by omega) hm ?_ (by omega) hdo fun c hc => ?_
          · show (n + 1) * 8 ≤ _
            omega
          · rw [hd, hh]
            exact h 4 c [scr c] (by omega) hc rfl
        · refine SOp.scrRoom (b := 1) (n := n) (m := m) (k := 1) (cs := [.int .i64 j]) (e := 3) (td := d3) (tdt := d112) ho h23 h25 (by rw [hh]; rfl) rfl rfl rfl rfl rfl (by omega) hm hdo ?_
          rw [hd]
          have := h 1 m [] (by omega) hm rfl
          rw [← hh] at this
          exact this
      refine SAny.two (i := 0) (j := 3) #[true, true, true, false, false, true, false, false] #[false, true, true, true, false, true, false, false] rfl rfl rfl rfl (by kernel_rfl) ?_ ?_
      · refine SOpG.val (x := .agg Kb.cs) rfl (by rw [hnt]; rfl) ?_
        refine SAny.one (i := 3) #[true, true, true, true, false, true, false, false] rfl rfl (by kernel_rfl) ?_
        refine SOpG.buildSlice (e := 3) (td := d3) (tdt := d112) (out := [.int .i64 j]) rfl rfl rfl rfl rfl (by decide) rfl rfl (by rw [hnt]; rfl) ?_
        refine SAny.last (i := 4) #[true, true, true, true, true, true, false, false] rfl rfl (by kernel_rfl) rfl ?_
        refine app _ _ _ _ rfl rfl rfl rfl rfl fun q c more hq hc hb => ?_
        exact tail _ ⟨q, c, more, hq, hc, hb, rfl⟩
      · refine SOpG.buildSlice (e := 3) (td := d3) (tdt := d112) (out := [.int .i64 j]) rfl rfl rfl rfl rfl (by decide) rfl rfl (by rw [hnt]; rfl) ?_
        refine SAny.twoL (i := 0) (j := 4) #[true, true, true, true, false, true, false, false] #[false, true, true, true, true, true, false, false] rfl rfl rfl rfl (by kernel_rfl) rfl ?_ ?_
        · refine SOpG.val (x := .agg Kb.cs) rfl (by rw [hnt]; rfl) ?_
          refine SAny.last (i := 4) #[true, true, true, true, true, true, false, false] rfl rfl (by kernel_rfl) rfl ?_
          refine app _ _ _ _ rfl rfl rfl rfl rfl fun q c more hq hc hb => ?_
          exact tail _ ⟨q, c, more, hq, hc, hb, rfl⟩
        · refine app _ _ _ _ rfl rfl rfl rfl rfl fun q c more hq hc hb => ?_
          refine SAny.one (i := 0) #[true, true, true, true, true, true, false, false] rfl rfl (by kernel_rfl) ?_
          refine SOpG.val (x := .agg Kb.cs) rfl (by rw [hnt]; rfl) ?_
          exact tail _ ⟨q, c, more, hq, hc, hb, rfl⟩
    · have hje : j = ks.len := by omega
      subst hje
      refine SWP.runQ (S false .nil) 60 31 hnt [1, 2, 3, 15, 16, 17] (e := .exit 0) (z := T ks.len) (o := [(decide ((ks.len : Int) < (ks.len : Int)), false), (false, false)]) (by kernel_rfl) ?_ ?_
      · intro p hm
        simp only [List.mem_cons, List.not_mem_nil, or_false] at hm
        rcases hm with rfl | rfl
        · simp
        · rfl
      · intro s' hs
        refine hK3 s' (.norm [1, 2, 3, 15, 16, 17] ?_)
        rw [hs]
        refine SWP.runQ S0 50 31 hnt [6] (e := .ret) (z := ⟨[(6, .bool true)], ⟨[ctr (eachP f ks (f cnt n) (n + 1) ks.len), scr m, D], []⟩⟩) (o := []) (by kernel_rfl) (fun p h => by cases h) (fun s hs => hfr s [6] ?_)
        rw [hs]
        refine ⟨2, .bool true, Nat.le_of_ble_eq_true rfl, Nat.le_of_ble_eq_true rfl, rfl, rfl, by simp only [Seat.scr, ctr, List.take, List.all_cons, List.all_nil, scL_rep]; rfl, rfl, ?_⟩
        rw [eachP_len]
        rfl
end Seat
end Go.Proofs.YtkblfapbakfgpaaGreatDoor
/- datum.each, of no path: the walk. -/
namespace Go.Proofs.YtkblfapbakfgpaaGreatDoor
open Go.AS
set_option linter.unusedVariables false
set_option linter.unusedSimpArgs false
set_option maxRecDepth 100000
namespace Seat
theorem each_nil {Y : Nat} {f : Int → Nat → Int} (hY : Yok Y f) (d : Dat) (hok : d.ok) (cnt : Int) (hdeep : deepN d ≤ 17592186044415) : PCalls G0 52 [.agg d.cells, .nil, yOf Y] [ctr cnt] (fun o b => o = .ret (.bool true) ∧ b = [ctr (eachF f d cnt 0)]) := by
  have ih := eachAt hY
  have hZ : True := trivial
  ·
    obtain ⟨dk, dn, ds, ks⟩ := d
    let D : Box := ⟨[.int .i64 dk, .int .i64 dn, .str ds, .slice ks.len ks.cells], 24⟩
    let S (b : Bool) (v : PV) : Cfg G0 := { F := F, hF := hF, S := fun _ _ => none, hS := fun _ _ _ _ h => (by cases h), orc := eachO b, val := eachV v }
    refine Fn.enterB Tryz.func52 Tryz.ntmps52 rfl (Nat.le_of_ble_eq_true rfl) fun C fr fp hnt hnb hp hfr hfp => ?_
    refine Q.runSeq S0 50 31 hnt [1, 2, 3] (z := ⟨[(1, .nil), (2, yOf Y), (3, .ptr 1 0)], ⟨[ctr cnt, D], []⟩⟩) (o := []) (by kernel_rfl) (fun p h => by cases h) ?_
    refine Q.seq fun K hK => ?_
    refine Q.seq fun K2 hK2 => ?_
    (with_reducible refine Q.region (l := ?_) ?_ ?_); rotate_left; focus (simp only [strip, SO.of, List.toList_toArray, List.getElem?_cons_zero, List.getElem?_cons_succ, Option.bind_some]; rfl)
    refine SRun.step _ (by simp only [push_cast, hnt, Nat.reduceEqDiff, reduceIte, Nat.reduceAdd, Nat.reduceSub, Nat.reduceMul, Nat.reduceLeDiff, Nat.reduceLT, Nat.reduceBEq, Nat.reduceBNe, decide_true, decide_false, Nat.le_refl, Bool.not_true, Bool.not_false, Bool.false_eq_true, reduceCtorEq, Bool.true_and, Bool.and_true, ge_iff_le, Nat.lt_irrefl, Nat.zero_le]; rfl) ?_
    refine SRun.step _ (by simp only [push_cast, hnt, Nat.reduceEqDiff, reduceIte, Nat.reduceAdd, Nat.reduceSub, Nat.reduceMul, Nat.reduceLeDiff, Nat.reduceLT, Nat.reduceBEq, Nat.reduceBNe, decide_true, decide_false, Nat.le_refl, Bool.not_true, Bool.not_false, Bool.false_eq_true, reduceCtorEq, Bool.true_and, Bool.and_true, ge_iff_le, Nat.lt_irrefl, Nat.zero_le]; rfl) ?_
    refine SRun.step _ (by simp only [push_cast, hnt, Nat.reduceEqDiff, reduceIte, Nat.reduceAdd, Nat.reduceSub, Nat.reduceMul, Nat.reduceLeDiff, Nat.reduceLT, Nat.reduceBEq, Nat.reduceBNe, decide_true, decide_false, Nat.le_refl, Bool.not_true, Bool.not_false, Bool.false_eq_true, reduceCtorEq, Bool.true_and, Bool.and_true, ge_iff_le, Nat.lt_irrefl, Nat.zero_le]; rfl) ?_
    refine SRun.cons (yield_nil hY dk dn ds ks.len ks.cells cnt hnt _ rfl rfl rfl rfl ?_)
    refine SRun.step _ (by simp only [push_cast, hnt, Nat.reduceEqDiff, reduceIte, Nat.reduceAdd, Nat.reduceSub, Nat.reduceMul, Nat.reduceLeDiff, Nat.reduceLT, Nat.reduceBEq, Nat.reduceBNe, decide_true, decide_false, Nat.le_refl, Bool.not_true, Bool.not_false, Bool.false_eq_true, reduceCtorEq, Bool.true_and, Bool.and_true, ge_iff_le, Nat.lt_irrefl, Nat.zero_le]; rfl) ?_
    refine Q.nil (hK2 _ ?_)
    refine Q.cond (b := false) rfl (fun h => by cases h) (fun _ => ?_)
    refine Q.skip (hK _ (.norm [1, 2, 3] ?_))
    have e1 : ∀ (a : Int) t, nrm [1, 2, 3] ⟨t, ⟨[ctr cnt, D].set 0 (ctr a), []⟩⟩ = nrm [1, 2, 3] ⟨t, ⟨[ctr a, D], []⟩⟩ := fun _ _ => rfl
    refine Q.seq fun K3 hK3 => ?_
    refine Q.runSeq S0 50 31 hnt [1, 2, 3, 15, 16, 17] (z := ⟨[(1, .nil), (2, yOf Y), (3, .ptr 1 0), (15, .slice ks.len ks.cells), (16, .int .i64 ks.len), (17, .int .i64 0)], ⟨[ctr (f cnt 0), D], []⟩⟩) (o := []) (by kernel_rfl) (fun p h => by cases h) ?_
    refine Q.block ?_
    let T (j : Nat) : AS := ⟨[(1, .nil), (2, yOf Y), (3, .ptr 1 0), (15, .slice ks.len ks.cells), (16, .int .i64 ks.len), (17, .int .i64 j)], ⟨[ctr (eachP f ks (f cnt 0) (0 + 1) j), D], []⟩⟩
    refine Q.loopI (σ := { j : Nat // j ≤ ks.len }) [1, 2, 3, 15, 16, 17] (fun j => T j.1) (fun j => ks.len - j.1) ⟨0, Nat.zero_le _⟩ rfl fun ⟨j, hj⟩ => ?_
    rcases Nat.lt_or_ge j ks.len with hlt | hge
    · refine Q.runSeq (S true .nil) 50 31 hnt [1, 2, 3, 15, 16, 17, 18] (z := ⟨(T j).t ++ [(18, .bool true)], (T j).h⟩) (o := [(decide ((j : Int) < (ks.len : Int)), true)]) (by kernel_rfl) (fun p hm => ?_) ?_
      · simp only [List.mem_cons, List.not_mem_nil, or_false] at hm
        subst hm
        simpa using hlt
      refine Q.runSeq S0 50 31 hnt [1, 2, 3, 15, 16, 17] (z := T j) (o := []) (by kernel_rfl) (fun p h => by cases h) ?_
      refine Q.seq fun K4 hK4 => ?_
      refine Q.block ?_
      obtain ⟨k', n', s', ks', hget⟩ : ∃ k' n' s' ks', ks.get j = .mk k' n' s' ks' := by cases h : ks.get j with | mk k n s ks => exact ⟨k, n, s, ks, rfl⟩
      let Kb : Box := ⟨[.int .i64 k', .int .i64 n', .str s', .slice ks'.len ks'.cells], 24⟩
      refine Q.runSeq (S true (.agg Kb.cs)) 50 31 hnt [1, 2, 3, 7, 8, 15, 16, 17] (z := ⟨[(1, .nil), (2, yOf Y), (3, .ptr 1 0), (7, .int .i64 j), (8, .ptr 2 0), (15, .slice ks.len ks.cells), (16, .int .i64 ks.len), (17, .int .i64 j)], ⟨[ctr (eachP f ks (f cnt 0) (0 + 1) j), D, Kb], []⟩⟩)
        (o := [(decide (0 ≤ (j : Int) ∧ (j : Int) < (ks.len : Int)), true), (decide (4 ≤ (ks.cells.drop ((j : Int).toNat * 4)).length), true), (same (.agg ((ks.cells.drop ((j : Int).toNat * 4)).take 4)) (.agg Kb.cs), true)]) (by kernel_rfl) (fun p hm => ?_) ?_
      · simp only [List.mem_cons, List.not_mem_nil, or_false, Int.toNat_natCast, Dats.get_cells ks j hlt] at hm
        rcases hm with rfl | rfl | rfl
        · simpa using hlt
        · simp only [List.length_drop, Dats.cells_len, decide_eq_true_eq]; omega
        · exact same_of (by rw [hget]; rfl)
      refine Q.seq fun K6 hK6 => ?_
      have hsz : (ks.get j).size < (ks.get j).size + 1 := Nat.lt_succ_self _
      have hokj : (ks.get j).ok := Dats.get_ok ks j hlt hok.2
      have hdp : 0 + 1 + deepN (ks.get j) ≤ 17592186044415 := by have := deepN_get ks j hlt; simp only [deepN] at hdeep; omega
      have hcs : (ks.get j).cells = Kb.cs := by rw [hget]; rfl
      have fin6 : ∀ (s : AS) (more : List Box), nrm [1, 2, 3, 15, 16, 17, 29] s = ⟨(T j).t ++ [(29, .bool false)], ⟨ctr (eachP f ks (f cnt 0) (0 + 1) (j + 1)) :: D :: more, []⟩⟩ → K6 s := fun s more hs => by
        refine hK6 s (.norm [1, 2, 3, 15, 16, 17, 29] ?_)
        rw [hs]
        refine .drop 2 (by rw [hnb]; exact Nat.le_of_ble_eq_true rfl) (by simp) (by simp only [Seat.scr, ctr, List.take, List.all_cons, List.all_nil, scL_rep]; rfl) rfl rfl ?_
        refine SWP.runQ S0 50 31 hnt [1, 2, 3, 15, 16, 17] (e := .normal) (z := ⟨(T j).t, ⟨[ctr (eachP f ks (f cnt 0) (0 + 1) (j + 1)), D], []⟩⟩) (o := []) (by kernel_rfl) (fun p h => by cases h) (fun s hs => hK4 s (.norm [1, 2, 3, 15, 16, 17] ?_))
        rw [hs]
        refine SWP.runQ S0 50 31 hnt [1, 2, 3, 15, 16, 17] (e := .normal) (z := ⟨[(1, .nil), (2, yOf Y), (3, .ptr 1 0), (15, .slice ks.len ks.cells), (16, .int .i64 ks.len), (17, .int .i64 (IntKind.i64.wrap ((j : Int) + 1)))], ⟨[ctr (eachP f ks (f cnt 0) (0 + 1) (j + 1)), D], []⟩⟩) (o := []) (by kernel_rfl) (fun p h => by cases h) (fun s hs => ⟨⟨j + 1, hlt⟩, Nat.sub_lt_sub_left hlt (Nat.lt_succ_self j), ?_⟩)
        rw [hs]
        have := hok.1
        have e := wrapN (j + 1) (by omega)
        push_cast at e
        rw [e]
        rfl
      refine SWP.draw [4, 6] #[false, false, false, false, false, false, false, false] rfl ?_
      refine SAny.with 2 #[true, true, true, true, true, true, false, false] (fun s => ∃ (q c : Nat) (more : List Box), q ≠ 0 ∧ 0 + 1 ≤ c ∧ (D :: Kb :: more)[q - 1]? = some (scr c) ∧ nrm [1, 2, 3, 15, 16, 17, 22, 26, 27] s = ⟨(T j).t ++ [(22, .agg Kb.cs), (26, .bsl q (0 + 1) c), (27, yOf Y)], ⟨ctr (eachP f ks (f cnt 0) (0 + 1) j) :: D :: Kb :: more, []⟩⟩) ?_ ?_
      · rintro s ⟨q, c, more, hq, hc, hbq, hs⟩
        refine SAny.norm [1, 2, 3, 15, 16, 17, 22, 26, 27] ?_
        rw [hs]
        refine SAny.last (i := 6) #[true, true, true, true, true, true, true, false] rfl rfl (by kernel_rfl) rfl ?_
        refine each_call (ih ((ks.get j).size + 1)) (ks.get j) hsz hokj (eachP f ks (f cnt 0) (0 + 1) j) q (0 + 1) c hq hc hdp hnt _ ?_ rfl rfl rfl ?_ ?_ _ rfl rfl
        · rw [hcs]; rfl
        · cases q with
          | zero => exact absurd rfl hq
          | succ q => simpa using hbq
        refine SAny.one (i := 7) #[true, true, true, true, true, true, true, true] rfl rfl (by kernel_rfl) ?_
        refine SOpG.val (x := .bool false) rfl (by rw [hnt]; rfl) ?_
        exact SAny.done (by kernel_rfl) (fin6 _ (Kb :: more) rfl)
      intro tail
      refine SAny.free (i := 1) (l' := #[false, true, false, false, false, false, false, false]) (x := .nil) rfl rfl rfl (by rw [hnt]; rfl) (by kernel_rfl) hp.q ?_
      refine SAny.free (i := 2) (l' := #[false, true, true, false, false, false, false, false]) (x := .int .i64 j) rfl rfl rfl (by rw [hnt]; rfl) (by kernel_rfl) hp.q ?_
      refine SAny.free (i := 5) (l' := #[false, true, true, false, false, true, false, false]) (x := yOf Y) rfl rfl rfl (by rw [hnt]; rfl) (by kernel_rfl) hp.q ?_
      have app : ∀ (Q : AEx → AS → Prop) (K : AS → Prop) (s : AS) (o : Oper), o.op = .call ⟨.builtin .append, #[.tmp 23, .tmp 25], #[112, 112]⟩ → o.dst = some 26 → lk s.t 23 = .nil → lk s.t 25 = .slice 1 [.int .i64 j] → s.h = ⟨[ctr (eachP f ks (f cnt 0) (0 + 1) j), D, Kb], []⟩ →
          (∀ (q c : Nat) (more : List Box), q ≠ 0 → 0 + 1 ≤ c → (D :: Kb :: more)[q - 1]? = some (scr c) → K (({ s with h := ⟨ctr (eachP f ks (f cnt 0) (0 + 1) j) :: D :: Kb :: more, []⟩ } : AS).put (some 26) (.bsl q (0 + 1) c))) → SOp G0 C o Q K s := fun Q K s o ho hd h23 h25 hh h => by
        have hdo : dstOk C.nt o.dst = true := by rw [hd, hnt]; rfl
        refine SOp.scrNil (k := 1) (cs := [.int .i64 j]) (e := 3) (td := d3) (tdt := d112) ho h23 h25 rfl rfl rfl rfl rfl rfl (by omega) (by show 1 * 8 ≤ _; omega) (by omega) hdo fun c hc => ?_
        rw [hd, hh]
        exact h 3 c [scr c] (by omega) hc rfl
      refine SAny.two (i := 0) (j := 3) #[true, true, true, false, false, true, false, false] #[false, true, true, true, false, true, false, false] rfl rfl rfl rfl (by kernel_rfl) ?_ ?_
      · refine SOpG.val (x := .agg Kb.cs) rfl (by rw [hnt]; rfl) ?_
        refine SAny.one (i := 3) #[true, true, true, true, false, true, false, false] rfl rfl (by kernel_rfl) ?_
        refine SOpG.buildSlice (e := 3) (td := d3) (tdt := d112) (out := [.int .i64 j]) rfl rfl rfl rfl rfl (by decide) rfl rfl (by rw [hnt]; rfl) ?_
        refine SAny.last (i := 4) #[true, true, true, true, true, true, false, false] rfl rfl (by kernel_rfl) rfl ?_
        refine app _ _ _ _ rfl rfl rfl rfl rfl fun q c more hq hc hb => ?_
        exact tail _ ⟨q, c, more, hq, hc, hb, rfl⟩
      · refine SOpG.buildSlice (e := 3) (td := d3) (tdt := d112) (out := [.int .i64 j]) rfl rfl rfl rfl rfl (by decide) rfl rfl (by rw [hnt]; rfl) ?_
        refine SAny.twoL (i := 0) (j := 4) #[true, true, true, true, false, true, false, false] #[false, true, true, true, true, true, false, false] rfl rfl rfl rfl (by kernel_rfl) rfl ?_ ?_
        · refine SOpG.val (x := .agg Kb.cs) rfl (by rw [hnt]; rfl) ?_
          refine SAny.last (i := 4) #[true, true, true, true, true, true, false, false] rfl rfl (by kernel_rfl) rfl ?_
          refine app _ _ _ _ rfl rfl rfl rfl rfl fun q c more hq hc hb => ?_
          exact tail _ ⟨q, c, more, hq, hc, hb, rfl⟩
        · refine app _ _ _ _ rfl rfl rfl rfl rfl fun q c more hq hc hb => ?_
          refine SAny.one (i := 0) #[true, true, true, true, true, true, false, false] rfl rfl (by kernel_rfl) ?_
          refine SOpG.val (x := .agg Kb.cs) rfl (by rw [hnt]; rfl) ?_
          exact tail _ ⟨q, c, more, hq, hc, hb, rfl⟩
    · have hje : j = ks.len := by omega
      subst hje
      refine SWP.runQ (S false .nil) 60 31 hnt [1, 2, 3, 15, 16, 17] (e := .exit 0) (z := T ks.len) (o := [(decide ((ks.len : Int) < (ks.len : Int)), false), (false, false)]) (by kernel_rfl) ?_ ?_
      · intro p hm
        simp only [List.mem_cons, List.not_mem_nil, or_false] at hm
        rcases hm with rfl | rfl
        · simp
        · rfl
      · intro s' hs
        refine hK3 s' (.norm [1, 2, 3, 15, 16, 17] ?_)
        rw [hs]
        refine SWP.runQ S0 50 31 hnt [6] (e := .ret) (z := ⟨[(6, .bool true)], ⟨[ctr (eachP f ks (f cnt 0) (0 + 1) ks.len), D], []⟩⟩) (o := []) (by kernel_rfl) (fun p h => by cases h) (fun s hs => hfr s [6] ?_)
        rw [hs]
        refine ⟨1, .bool true, Nat.le_of_ble_eq_true rfl, Nat.le_of_ble_eq_true rfl, rfl, rfl, by simp only [Seat.scr, ctr, List.take, List.all_cons, List.all_nil, scL_rep]; rfl, rfl, ?_⟩
        rw [eachP_len]
        rfl
end Seat
end Go.Proofs.YtkblfapbakfgpaaGreatDoor
/- datum.Parts, datum.Deep. -/
namespace Go.Proofs.YtkblfapbakfgpaaGreatDoor
open Go.AS
set_option linter.unusedVariables false
set_option linter.unusedSimpArgs false
set_option maxRecDepth 100000
namespace Seat
mutual
theorem eachF_parts : ∀ (d : Dat) (c : Int) (n : Nat), eachF fParts d c n = w64 (c + parts d)
  | .mk k n' s ks, c, n => by
    simp only [eachF, parts, fParts]
    rw [eachL_parts ks]
    congr 1
    push_cast
    omega
theorem eachL_parts : ∀ (ks : Dats) (c : Int) (n : Nat), eachL fParts ks (w64 c) n = w64 (c + partsL ks)
  | .nil, c, n => by simp [eachL, partsL]
  | .cons d ds, c, n => by
    simp only [eachL, partsL]
    rw [eachF_parts d]
    have e : w64 (w64 c + (parts d : Int)) = w64 (c + parts d) := by unfold w64; simp only [IntKind.wrap_i64]; omega
    rw [e, eachL_parts ds]
    congr 1
    push_cast
    omega
end
mutual
theorem eachF_deep : ∀ (d : Dat) (c : Int) (n : Nat), n + deepN d ≤ 17592186044415 → eachF fDeep d c n = max c ((n + deepN d : Nat) : Int)
  | .mk k n' s ks, c, n, h => by
    simp only [deepN] at h
    have e : fDeep c n = max c ((n + 1 : Nat) : Int) := by
      unfold fDeep mxi
      have := wrapN (n + 1) (by omega)
      push_cast at this ⊢
      rw [this]
      split <;> omega
    simp only [eachF, deepN]
    rw [eachL_deep ks _ _ (by omega) (by rw [e]; omega), e]
    omega
theorem eachL_deep : ∀ (ks : Dats) (c : Int) (n : Nat), n + deepNL ks ≤ 17592186044415 → (n : Int) ≤ c → eachL fDeep ks c n = max c ((n + deepNL ks : Nat) : Int)
  | .nil, c, n, h, hc => by simp only [eachL, deepNL]; omega
  | .cons d ds, c, n, h, hc => by
    simp only [deepNL] at h
    simp only [eachL, deepNL]
    rw [eachF_deep d _ _ (by omega), eachL_deep ds _ _ (by omega) (by omega)]
    omega
end
def Good (d : Dat) : Prop := d.ok ∧ deepN d ≤ 17592186044415
open Classical in
noncomputable def isGood (cs : List PV) : Bool := decide (∃ d : Dat, d.cells = cs ∧ Good d)
theorem isGood_at {d : Dat} (h : Good d) : isGood d.cells = true := by
  unfold isGood
  classical exact decide_eq_true ⟨d, rfl, h⟩
theorem isGood_of {cs : List PV} (h : isGood cs = true) : ∃ d : Dat, d.cells = cs ∧ Good d := by
  unfold isGood at h
  classical exact of_decide_eq_true h
noncomputable def eachB (f : Nat) (args : List PV) (x : Box) : Option (PV × Box × Ob) := match f, args, x with
  | 52, [.agg cs, .nil, .func (.func Y) [.ptr 0 0]], ⟨[.int .i64 cnt], 3⟩ => match Y with
      | 53 => some (.bool true, ctr (ofCells (fun d => eachF fParts d cnt 0) 0 cs), [(isGood cs, true)])
      | 54 => some (.bool true, ctr (ofCells (fun d => eachF fDeep d cnt 0) 0 cs), [(isGood cs, true)])
      | _ => none
  | _, _, _ => none
theorem eachB_ok : ∀ f xs x r x' o, eachB f xs x = some (r, x', o) → (∀ p ∈ o, p.1 = p.2) → PCalls G0 f xs [x] (fun o' b' => o' = .ret r ∧ b' = [x']) ∧ r.sc 0 = true ∧ scL 0 x.cs = true ∧ scL 0 x'.cs = true := by
  intro f args x r b o h ho
  unfold eachB at h
  split at h
  · rename_i cs Y cnt
    split at h
    · cases h
      obtain ⟨d, rfl, h1⟩ := isGood_of (ho _ (List.mem_singleton.2 rfl))
      simp only [ofCells_at]
      exact ⟨each_nil yParts d h1.1 cnt h1.2, rfl, rfl, rfl⟩
    · cases h
      obtain ⟨d, rfl, h1⟩ := isGood_of (ho _ (List.mem_singleton.2 rfl))
      simp only [ofCells_at]
      exact ⟨each_nil yDeep d h1.1 cnt h1.2, rfl, rfl, rfl⟩
    · cases h
  · cases h
noncomputable def SE : Cfg G0 := { F := F, hF := hF, S := fun _ _ => none, hS := fun _ _ _ _ h => (by cases h), B := eachB, hB := eachB_ok }
theorem dparts_ok (d : Dat) (hd : Good d) : Pure G0 36 [.agg d.cells] (fun r => r = .int .i64 (w64 (parts d))) := by
  have e : w64 (parts d) = ofCells (fun d => eachF fParts d 0 0) 0 d.cells := by rw [ofCells_at, eachF_parts, Int.zero_add]
  rw [e]
  obtain ⟨k, n, s, ks⟩ := d
  exact Pure.runO (S := SE) 100 (o := [(isGood (Dat.mk k n s ks).cells, true)]) (by kernel_rfl) (fun p hp => by
    rw [List.mem_singleton.1 hp]; exact isGood_at hd)
theorem ddeep_ok (d : Dat) (hd : Good d) : Pure G0 37 [.agg d.cells] (fun r => r = .int .i64 (deepN d)) := by
  have e : (deepN d : Int) = ofCells (fun d => eachF fDeep d 0 0) 0 d.cells := by rw [ofCells_at, eachF_deep _ _ _ (by have := hd.2; omega)]; omega
  rw [e]
  obtain ⟨k, n, s, ks⟩ := d
  exact Pure.runO (S := SE) 100 (o := [(isGood (Dat.mk k n s ks).cells, true)]) (by kernel_rfl) (fun p hp => by
    rw [List.mem_singleton.1 hp]; exact isGood_at hd)
end Seat
end Go.Proofs.YtkblfapbakfgpaaGreatDoor
/- pagodaref01.Cut: what it comes to. -/
namespace Go.Proofs.YtkblfapbakfgpaaGreatDoor
open Go.AS
set_option linter.unusedVariables false
set_option linter.unusedSimpArgs false
namespace Seat
def Dats.snoc : Dats → Dat → Dats
  | .nil, e => .cons e .nil
  | .cons d ds, e => .cons d (Dats.snoc ds e)
theorem snoc_cells : ∀ (ds : Dats) (e : Dat), (Dats.snoc ds e).cells = ds.cells ++ e.cells
  | .nil, e => by simp [Dats.snoc, Dats.cells]
  | .cons d ds, e => by simp only [Dats.snoc, Dats.cells, snoc_cells ds e, List.append_assoc]
theorem snoc_len : ∀ (ds : Dats) (e : Dat), (Dats.snoc ds e).len = ds.len + 1
  | .nil, e => rfl
  | .cons d ds, e => by simp only [Dats.snoc, Dats.len, snoc_len ds e]
def cutS (s : ByteArray) : ByteArray := s.extract 0 (min (s.size : Int) 42).toNat
mutual
def cutD : Dat → Int → Int → Dat × Int
  | .mk k n s ks, deep, left =>
    let r := cutL ks deep (left - 1)
    (.mk k n (cutS s) r.1, r.2)
def cutL : Dats → Int → Int → Dats × Int
  | .nil, _, left => (.nil, left)
  | .cons d ds, deep, left => if 1 < deep ∧ 0 < left then
      let r := cutD d (deep - 1) left
      let q := cutL ds deep r.2
      (.cons r.1 q.1, q.2)
    else (.nil, left)
end
def cutN (ks : Dats) (deep left : Int) : Nat → Dats × Int
  | 0 => (.nil, left)
  | j + 1 => (Dats.snoc (cutN ks deep left j).1 (cutD (ks.get j) (deep - 1) (cutN ks deep left j).2).1, (cutD (ks.get j) (deep - 1) (cutN ks deep left j).2).2)
theorem cutN_cons (d : Dat) (ds : Dats) (deep left : Int) (j : Nat) : cutN (.cons d ds) deep left (j + 1) = (.cons (cutD d (deep - 1) left).1 (cutN ds deep (cutD d (deep - 1) left).2 j).1, (cutN ds deep (cutD d (deep - 1) left).2 j).2) := by
  induction j with
  | zero => simp [cutN, Dats.get, Dats.snoc]
  | succ j ih =>
    rw [cutN, ih]
    simp only [cutN, Dats.get, Dats.snoc]
theorem cutN_stop : ∀ (ks : Dats) (deep left : Int) (m : Nat), m ≤ ks.len → (∀ i, i < m → 1 < deep ∧ 0 < (cutN ks deep left i).2) → (m = ks.len ∨ ¬ (1 < deep ∧ 0 < (cutN ks deep left m).2)) → cutL ks deep left = cutN ks deep left m
  | .nil, deep, left, m, hm, hl, hs => by
    simp only [Dats.len] at hm
    obtain rfl : m = 0 := by omega
    rfl
  | .cons d ds, deep, left, 0, hm, hl, hs => by
    rcases hs with h | h
    · simp [Dats.len] at h
    · simp only [cutN] at h
      simp only [cutL, if_neg h, cutN]
  | .cons d ds, deep, left, m + 1, hm, hl, hs => by
    have h0 := hl 0 (by omega)
    simp only [cutN] at h0
    have ih := cutN_stop ds deep (cutD d (deep - 1) left).2 m (by simp only [Dats.len] at hm; omega) (fun i hi => by have := hl (i + 1) (by omega); rw [cutN_cons] at this; exact this) (by
      rcases hs with h | h
      · left; simp only [Dats.len] at h; omega
      · right; rw [cutN_cons] at h; exact h)
    rw [cutN_cons]
    simp only [cutL, if_pos h0, ih]
theorem cutN_len (ks : Dats) (deep left : Int) (j : Nat) : (cutN ks deep left j).1.len = j := by
  induction j with
  | zero => rfl
  | succ j ih => simp only [cutN, snoc_len, ih]
mutual
theorem cutD_parts : ∀ (d : Dat) (deep left : Int), 1 ≤ left → 0 ≤ (cutD d deep left).2 ∧ (cutD d deep left).2 + parts (cutD d deep left).1 = left
  | .mk k n s ks, deep, left, h => by
    have := cutL_parts ks deep (left - 1) (by omega)
    simp only [cutD, parts]
    omega
theorem cutL_parts : ∀ (ks : Dats) (deep left : Int), 0 ≤ left → 0 ≤ (cutL ks deep left).2 ∧ (cutL ks deep left).2 + partsL (cutL ks deep left).1 = left
  | .nil, deep, left, h => by simp only [cutL, partsL]; omega
  | .cons d ds, deep, left, h => by
    simp only [cutL]
    split
    · have h1 := cutD_parts d (deep - 1) left (by omega)
      have h2 := cutL_parts ds deep (cutD d (deep - 1) left).2 h1.1
      simp only [partsL]
      omega
    · simp only [partsL]; omega
end
end Seat
end Go.Proofs.YtkblfapbakfgpaaGreatDoor
/- room.cut: the law that the interpreter takes. -/
namespace Go.Proofs.YtkblfapbakfgpaaGreatDoor
open Go.AS
set_option linter.unusedVariables false
set_option linter.unusedSimpArgs false
set_option maxRecDepth 100000
namespace Seat
def room (n : Int) : Box := ⟨[.int .i64 n], 59⟩
def CutAt (N : Nat) : Prop := ∀ d : Dat, d.size < N → d.ok → ∀ deep left : Int, 1 ≤ deep → deep ≤ 4611686018427387904 → 1 ≤ left → left ≤ 1000000 → PCalls G0 23 [.ptr 0 0, .agg d.cells, .int .i64 deep] [room left] (fun o b => o = .ret (.agg (cutD d deep left).1.cells) ∧ b = [room (cutD d deep left).2])
noncomputable def cutB (N : Nat) (f : Nat) (args : List PV) (x : Box) : Option (PV × Box × Ob) := match f, args, x with
  | 23, [.ptr 0 0, .agg cs, .int .i64 deep], ⟨[.int .i64 left], 59⟩ => some (.agg (ofCells (fun d => (cutD d deep left).1.cells) [] cs), room (ofCells (fun d => (cutD d deep left).2) 0 cs), [(isDat N cs, true), (decide (1 ≤ deep ∧ deep ≤ 4611686018427387904 ∧ 1 ≤ left ∧ left ≤ 1000000), true)])
  | _, _, _ => none
theorem cutB_ok {N : Nat} (ih : CutAt N) : ∀ f xs x r x' o, cutB N f xs x = some (r, x', o) → (∀ p ∈ o, p.1 = p.2) → PCalls G0 f xs [x] (fun o' b' => o' = .ret r ∧ b' = [x']) ∧ r.sc 0 = true ∧ scL 0 x.cs = true ∧ scL 0 x'.cs = true := by
  intro f args x r b o h ho
  unfold cutB at h
  split at h
  · rename_i cs deep left
    cases h
    obtain ⟨d, rfl, h1, h2⟩ := isDat_of (ho _ (List.mem_cons_self ..))
    have h3 : 1 ≤ deep ∧ deep ≤ 4611686018427387904 ∧ 1 ≤ left ∧ left ≤ 1000000 := of_decide_eq_true (ho (decide _, true) (List.mem_cons_of_mem _ (List.mem_cons_self ..)))
    simp only [ofCells_at]
    refine ⟨ih d h1 h2 deep left h3.1 h3.2.1 h3.2.2.1 h3.2.2.2, ?_, rfl, rfl⟩
    cases (cutD d deep left).1; rfl
  · cases h
noncomputable def SC {N : Nat} (ih : CutAt N) (l : List (Nat × List (Nat × Bool))) (v : List (Nat × List (Nat × PV))) : Cfg G0 := { F := F, hF := hF, S := fun _ _ => none, hS := fun _ _ _ _ h => (by cases h), orc := orcM l, val := valM v, B := cutB N, hB := cutB_ok ih, D := fun f => Nat.beq f 23 }
end Seat
end Go.Proofs.YtkblfapbakfgpaaGreatDoor
/- room.cut: the walk. -/
namespace Go.Proofs.YtkblfapbakfgpaaGreatDoor
open Go.AS
set_option linter.unusedVariables false
set_option linter.unusedSimpArgs false
set_option maxRecDepth 100000
namespace Seat
theorem cutN_left (ks : Dats) (deep left : Int) (m : Nat) : (∀ i, i < m → 1 < deep ∧ 0 < (cutN ks deep left i).2) → (cutN ks deep left m).2 + m ≤ left ∧ (0 ≤ left → 0 ≤ (cutN ks deep left m).2) := by
  induction m with
  | zero => intro _; simp [cutN]
  | succ m ih =>
    intro h
    have h1 := ih fun i hi => h i (by omega)
    have h2 := h m (by omega)
    have h3 := cutD_parts (ks.get m) (deep - 1) (cutN ks deep left m).2 (by omega)
    have h4 : 1 ≤ parts (cutD (ks.get m) (deep - 1) (cutN ks deep left m).2).1 := by
      obtain ⟨k, n, s, ks', e⟩ := Dat.is_mk (cutD (ks.get m) (deep - 1) (cutN ks deep left m).2).1
      rw [e]; simp only [parts]; omega
    simp only [cutN]
    omega
theorem cutAt (N : Nat) : CutAt N := by
  induction N with
  | zero => intro d h; omega
  | succ N ih =>
    intro d hN hok deep left hd1 hd2 hl1 hl2
    obtain ⟨k, n, s, ks⟩ := d
    let D : Box := ⟨[.int .i64 k, .int .i64 n, .str s, .slice ks.len ks.cells], 24⟩
    let Z : Box := ⟨[.int .i64 0, .int .i64 0, .str ⟨#[]⟩, .nil], 24⟩
    have w1 : ∀ x : Int, 1 ≤ x → x ≤ 4611686018427387904 → IntKind.i64.wrap (x - 1) = x - 1 := fun x h1 h2 => by rw [IntKind.wrap_i64]; omega
    refine Fn.enterN Tryz.func23 Tryz.ntmps23 rfl (Nat.le_of_ble_eq_true rfl) fun C fr fp hnt hp hfr hfp => ?_
    refine Q.runSeq S0 50 61 hnt [0, 2, 4, 6] (z := ⟨[(0, .ptr 0 0), (2, .int .i64 deep), (4, .ptr 1 0), (6, .ptr 2 0)], ⟨[room left, D, Z], []⟩⟩) (o := []) (by kernel_rfl) okO_nil ?_
    refine Q.runSeq (SC ih [] [(61, [(13, .int .i64 (left - 1))])]) 50 61 hnt [0, 2, 4, 6] (z := ⟨[(0, .ptr 0 0), (2, .int .i64 deep), (4, .ptr 1 0), (6, .ptr 2 0)], ⟨[room (left - 1), D, Z], []⟩⟩) (o := [(same (.int .i64 (IntKind.i64.wrap (left - 1))) (.int .i64 (left - 1)), true)]) (by kernel_rfl) (fun p hm => by rw [List.mem_singleton.1 hm]; exact same_of (by rw [w1 left hl1 (by omega)])) ?_
    refine Q.runSeq (SC ih [(61, [(26, true)])] [(61, [(26, .str (cutS s))])]) 60 61 hnt [0, 2, 4, 6, 7] (z := ⟨[(0, .ptr 0 0), (2, .int .i64 deep), (4, .ptr 1 0), (6, .ptr 2 0), (7, .ptr 3 0)], ⟨[room (left - 1), D, Z, ⟨[.int .i64 k, .int .i64 n, .str (cutS s), .nil], 24⟩], []⟩⟩)
      (o := [(decide ((0 : Int) ≤ 0 ∧ (0 : Int) ≤ (if (42 : Int) < (s.size : Int) then 42 else (s.size : Int)) ∧ (if (42 : Int) < (s.size : Int) then 42 else (s.size : Int)) ≤ (s.size : Int)), true), (same (.str (s.extract (0 : Int).toNat (if (42 : Int) < (s.size : Int) then 42 else (s.size : Int)).toNat)) (.str (cutS s)), true)]) (by kernel_rfl) (fun p hm => ?_) ?_
    · simp only [List.mem_cons, List.not_mem_nil, or_false] at hm
      have e : (if (42 : Int) < (s.size : Int) then 42 else (s.size : Int)) = min (s.size : Int) 42 := by split <;> omega
      rcases hm with rfl | rfl
      · simp only [decide_eq_true_eq]; rw [e]; omega
      · refine same_of ?_
        rw [e]
        rfl
    refine SWP.adoptB 3 3 24 4 rfl rfl ?_
    refine Q.seq fun K hK => ?_
    let T (j : Nat) : AS := ⟨[(0, .ptr 0 0), (2, .int .i64 deep), (4, .ptr 1 0), (6, .ptr 2 0), (7, .ptr 3 0), (8, .int .i64 j)], ⟨[room (cutN ks deep (left - 1) j).2, D, Z, ⟨[.int .i64 k, .int .i64 n, .str (cutS s), .own 0 j], 24⟩], [some ⟨(cutN ks deep (left - 1) j).1.cells, j, 24, 4⟩]⟩⟩
    refine Q.runSeq S0 50 61 hnt [0, 2, 4, 6, 7, 8] (z := T 0) (o := []) (by kernel_rfl) okO_nil ?_
    refine Q.block ?_
    refine Q.loopI (σ := { j : Nat // j ≤ ks.len ∧ ∀ i, i < j → 1 < deep ∧ 0 < (cutN ks deep (left - 1) i).2 }) [0, 2, 4, 6, 7, 8] (fun j => T j.1) (fun j => ks.len - j.1) ⟨0, Nat.zero_le _, fun i h => absurd h (Nat.not_lt_zero _)⟩ rfl fun ⟨j, hj, hl⟩ => ?_
    have hleft := cutN_left ks deep (left - 1) j hl
    have fin : (j = ks.len ∨ ¬ (1 < deep ∧ 0 < (cutN ks deep (left - 1) j).2)) → ∀ st, nrm [0, 2, 4, 6, 7, 8] st = T j → K st := fun hs st hst => by
      have hc := cutN_stop ks deep (left - 1) j hj hl hs
      have hcl := cutN_len ks deep (left - 1) j
      refine hK st (.norm [0, 2, 4, 6, 7, 8] ?_)
      rw [hst]
      refine SWP.frz [0] ?_
      refine SWP.runQ S0 50 61 hnt [6] (e := .ret) (z := ⟨[(6, .ptr 2 0)], ⟨[room (cutN ks deep (left - 1) j).2, D, ⟨[.int .i64 k, .int .i64 n, .str (cutS s), .slice j (cutN ks deep (left - 1) j).1.cells], 24⟩, ⟨[.int .i64 k, .int .i64 n, .str (cutS s), .slice j (cutN ks deep (left - 1) j).1.cells], 24⟩], [none]⟩⟩) (o := []) (by kernel_rfl) okO_nil (fun st hs => hfr st [6] ?_)
      rw [hs]
      refine ⟨1, .agg [.int .i64 k, .int .i64 n, .str (cutS s), .slice j (cutN ks deep (left - 1) j).1.cells], Nat.le_of_ble_eq_true rfl, Nat.le_of_ble_eq_true rfl, rfl, rfl, rfl, ?_, ?_⟩
      · simp only [cutD, hc, Dat.cells, hcl]
      · simp only [cutD, hc, List.take]
    let z43 (b : Bool) : AS := ⟨(T j).t ++ [(43, .bool b)], (T j).h⟩
    rcases Nat.lt_or_ge j ks.len with hlt | hge
    · by_cases hdp : 1 < deep
      · by_cases hl0 : 0 < (cutN ks deep (left - 1) j).2
        · refine Q.runSeq (SC ih [(61, [(32, true), (35, true), (42, true)])] []) 60 61 hnt [0, 2, 4, 6, 7, 8] (z := T j) (o := [(decide ((j : Int) < (ks.len : Int)), true), (decide ((1 : Int) < deep), true), (decide ((0 : Int) < (cutN ks deep (left - 1) j).2), true)]) (by kernel_rfl) (fun p hm => ?_) ?_
          · simp only [List.mem_cons, List.not_mem_nil, or_false] at hm
            rcases hm with rfl | rfl | rfl
            · simpa using hlt
            · simpa using hdp
            · simpa using hl0
          refine Q.seq fun K4 hK4 => ?_
          refine Q.block ?_
          obtain ⟨k', n', s', ks', hget⟩ := Dats.get_mk ks j
          obtain ⟨k2, n2, s2, ks2, hcut⟩ := Dat.is_mk (cutD (ks.get j) (deep - 1) (cutN ks deep (left - 1) j).2).1
          have hsz := Dats.get_size ks j hlt
          have hokj := Dats.get_ok ks j hlt hok.2
          have hcl : (ks.get j).cells = [.int .i64 k', .int .i64 n', .str s', .slice ks'.len ks'.cells] := by rw [hget]; rfl
          simp only [Dat.size] at hN
          let P : Ob := [(isDat N [.int .i64 k', .int .i64 n', .str s', .slice ks'.len ks'.cells], true), (decide (1 ≤ deep - 1 ∧ deep - 1 ≤ 4611686018427387904 ∧ 1 ≤ (cutN ks deep (left - 1) j).2 ∧ (cutN ks deep (left - 1) j).2 ≤ 1000000), true), (same (.agg (ofCells (fun d => (cutD d (deep - 1) (cutN ks deep (left - 1) j).2).1.cells) [] [.int .i64 k', .int .i64 n', .str s', .slice ks'.len ks'.cells])) (.agg [.int .i64 k2, .int .i64 n2, .str s2, .slice ks2.len ks2.cells]), true), (true, true), (Nat.ble ((j + 1) * 56) 140737488355328, true), (Nat.ble (j + 1) 9223372036854775807, true)]
          have okP : okO P := fun p hm => by
            simp only [P, List.mem_cons, List.not_mem_nil, or_false] at hm
            rcases hm with rfl | rfl | rfl | rfl | rfl | rfl
            · rw [← hcl]; exact isDat_at (by omega) hokj
            · simp only [decide_eq_true_eq]; omega
            · exact same_of (by rw [← hcl, ofCells_at, hcut]; rfl)
            · rfl
            · simp only [Nat.ble_eq]; omega
            · simp only [Nat.ble_eq]; omega
          refine SWP.runLQ (SC ih [(61, [(52, true), (53, true), (58, true)])] [(61, [(53, .agg [.int .i64 k', .int .i64 n', .str s', .slice ks'.len ks'.cells]), (55, .int .i64 (deep - 1)), (56, .agg [.int .i64 k2, .int .i64 n2, .str s2, .slice ks2.len ks2.cells])])]) 60 61 hnt [0, 2, 4, 6, 7, 8]
            (l := List.replicate 3 ⟨(T j).t, ⟨[room (ofCells (fun d => (cutD d (deep - 1) (cutN ks deep (left - 1) j).2).2) 0 [.int .i64 k', .int .i64 n', .str s', .slice ks'.len ks'.cells]), D, Z, ⟨[.int .i64 k, .int .i64 n, .str (cutS s), .own 0 (j + 1)], 24⟩], [some ⟨(cutN ks deep (left - 1) j).1.cells ++ [.int .i64 k2, .int .i64 n2, .str s2, .slice ks2.len ks2.cells], j + 1, 24, 4⟩]⟩⟩)
            (o := [(decide (0 ≤ (j : Int) ∧ (j : Int) < (ks.len : Int)), true), (decide (4 ≤ (ks.cells.drop ((j : Int).toNat * 4)).length), true), (same (.agg ((ks.cells.drop ((j : Int).toNat * 4)).take 4)) (.agg [.int .i64 k', .int .i64 n', .str s', .slice ks'.len ks'.cells]), true), (same (.int .i64 (IntKind.i64.wrap (deep - 1))) (.int .i64 (deep - 1)), true)] ++ (P ++ (P ++ P))) (by kernel_rfl) (okO_app (fun p hm => ?_) (okO_app okP (okO_app okP okP))) (fun st hs => ?_)
          · simp only [List.mem_cons, List.not_mem_nil, or_false, Int.toNat_natCast, Dats.get_cells ks j hlt] at hm
            rcases hm with rfl | rfl | rfl | rfl
            · simpa using hlt
            · simp only [List.length_drop, Dats.cells_len, decide_eq_true_eq]; omega
            · exact same_of (by rw [hcl])
            · exact same_of (by rw [w1 deep hd1 hd2])
          · refine hK4 st (.norm [0, 2, 4, 6, 7, 8] ?_)
            rw [List.eq_of_mem_replicate hs, ← hcl, ofCells_at]
            refine SWP.runQ (SC ih [] [(61, [(45, .int .i64 ((j + 1 : Nat) : Int))])]) 60 61 hnt [0, 2, 4, 6, 7, 8] (e := .normal) (z := ⟨[(0, .ptr 0 0), (2, .int .i64 deep), (4, .ptr 1 0), (6, .ptr 2 0), (7, .ptr 3 0), (8, .int .i64 ((j + 1 : Nat) : Int))], ⟨[room (cutD (ks.get j) (deep - 1) (cutN ks deep (left - 1) j).2).2, D, Z, ⟨[.int .i64 k, .int .i64 n, .str (cutS s), .own 0 (j + 1)], 24⟩], [some ⟨(cutN ks deep (left - 1) j).1.cells ++ [.int .i64 k2, .int .i64 n2, .str s2, .slice ks2.len ks2.cells], j + 1, 24, 4⟩]⟩⟩) (o := [(same (.int .i64 (IntKind.i64.wrap ((j : Int) + 1))) (.int .i64 ((j + 1 : Nat) : Int)), true)]) (by kernel_rfl) (fun p hm => by rw [List.mem_singleton.1 hm]; exact same_of (by rw [wrap1 j (by have := hok.1; omega)])) (fun st hs => ⟨⟨j + 1, hlt, fun i hi => ?_⟩, Nat.sub_lt_sub_left hlt (Nat.lt_succ_self j), ?_⟩)
            · rcases Nat.lt_succ_iff_lt_or_eq.1 hi with h | h
              · exact hl i h
              · rw [h]; exact ⟨hdp, hl0⟩
            · rw [hs]
              simp only [T, cutN, snoc_cells, hcut]
              rfl
        · refine SWP.runQ (SC ih [(61, [(32, true), (35, true), (42, false)])] []) 60 61 hnt [0, 2, 4, 6, 7, 8] (e := .exit 0) (z := T j) (o := [(decide ((j : Int) < (ks.len : Int)), true), (decide ((1 : Int) < deep), true), (decide ((0 : Int) < (cutN ks deep (left - 1) j).2), false)]) (by kernel_rfl) (fun p hm => ?_) (fin (.inr fun h => hl0 h.2))
          simp only [List.mem_cons, List.not_mem_nil, or_false] at hm
          rcases hm with rfl | rfl | rfl
          · simpa using hlt
          · simpa using hdp
          · simpa using hl0
      · refine SWP.runQ (SC ih [(61, [(32, true), (35, false)])] []) 60 61 hnt [0, 2, 4, 6, 7, 8] (e := .exit 0) (z := T j) (o := [(decide ((j : Int) < (ks.len : Int)), true), (decide ((1 : Int) < deep), false)]) (by kernel_rfl) (fun p hm => ?_) (fin (.inr fun h => hdp h.1))
        simp only [List.mem_cons, List.not_mem_nil, or_false] at hm
        rcases hm with rfl | rfl
        · simpa using hlt
        · simpa using hdp
    · refine SWP.runQ (SC ih [(61, [(32, false)])] []) 60 61 hnt [0, 2, 4, 6, 7, 8] (e := .exit 0) (z := T j) (o := [(decide ((j : Int) < (ks.len : Int)), false)]) (by kernel_rfl) (fun p hm => ?_) (fin (.inl (by omega)))
      rw [List.mem_singleton.1 hm]
      simp; omega
end Seat
end Go.Proofs.YtkblfapbakfgpaaGreatDoor
/- Data and lists of data, told by their cells. -/
namespace Go.Proofs.YtkblfapbakfgpaaGreatDoor
open Go.AS
set_option linter.unusedVariables false
set_option linter.unusedSimpArgs false
set_option maxRecDepth 100000
namespace Seat
theorem okO_cons {a b : Bool} {o : Ob} (h : a = b) (ho : okO o) : okO ((a, b) :: o) := fun p hp => by
  rcases List.mem_cons.1 hp with rfl | hp
  · exact h
  · exact ho p hp
theorem lt_at {j n : Nat} (h : j < n) : decide ((j : Int) < (n : Int)) = true := by simpa using h
theorem ge_at {j n : Nat} (h : n ≤ j) : decide ((j : Int) < (n : Int)) = false := by simpa using h
theorem in_at {j n : Nat} (h : j < n) : decide (0 ≤ (j : Int) ∧ (j : Int) < (n : Int)) = true := by simpa using h
theorem kid_len {ks : Dats} {j : Nat} (h : j < ks.len) : decide (4 ≤ (ks.cells.drop ((j : Int).toNat * 4)).length) = true := by
  simp only [Int.toNat_natCast, List.length_drop, Dats.cells_len, decide_eq_true_eq]; omega
theorem kid_same {ks : Dats} {j : Nat} (h : j < ks.len) : same (.agg ((ks.cells.drop ((j : Int).toNat * 4)).take 4)) (.agg (ks.get j).cells) = true := same_of (by rw [Int.toNat_natCast, Dats.get_cells ks j h])
theorem kid_same' {ks : Dats} {j : Nat} {k n : Int} {s : ByteArray} {ls : Dats} (h : j < ks.len) (e : ks.get j = .mk k n s ls) : same (.agg ((ks.cells.drop ((j : Int).toNat * 4)).take 4)) (.agg [.int .i64 k, .int .i64 n, .str s, .slice ls.len ls.cells]) = true := by
  have := kid_same h
  rw [e] at this
  exact this
open Classical in
noncomputable def isDats (N n : Nat) (cs : List PV) : Bool := decide (∃ ks : Dats, ks.cells = cs ∧ ks.len = n ∧ ks.size < N ∧ ks.len ≤ 9223372036854775807 ∧ ks.ok)
open Classical in
noncomputable def ofCellsL {α : Type} (f : Dats → α) (z : α) (cs : List PV) : α := if h : ∃ ks : Dats, ks.cells = cs then f h.choose else z
theorem ofCellsL_at {α : Type} (f : Dats → α) (z : α) (ks : Dats) : ofCellsL f z ks.cells = f ks := by
  have h : ∃ e : Dats, e.cells = ks.cells := ⟨ks, rfl⟩
  unfold ofCellsL
  rw [dif_pos h, Dats.inj _ _ h.choose_spec]
theorem isDats_at {N : Nat} {ks : Dats} (h : ks.size < N) (hl : ks.len ≤ 9223372036854775807) (ho : ks.ok) : isDats N ks.len ks.cells = true := by
  unfold isDats
  classical exact decide_eq_true ⟨ks, rfl, rfl, h, hl, ho⟩
theorem isDats_of {N n : Nat} {cs : List PV} (h : isDats N n cs = true) : ∃ ks : Dats, ks.cells = cs ∧ ks.len = n ∧ ks.size < N ∧ ks.len ≤ 9223372036854775807 ∧ ks.ok := by
  unfold isDats at h
  classical exact of_decide_eq_true h
noncomputable def ofCells2 {α : Type} (f : Dat → Dat → α) (z : α) (a b : List PV) : α := ofCells (fun d => ofCells (fun e => f d e) z b) z a
theorem ofCells2_at {α : Type} (f : Dat → Dat → α) (z : α) (d e : Dat) : ofCells2 f z d.cells e.cells = f d e := by unfold ofCells2; rw [ofCells_at, ofCells_at]
open Classical in
noncomputable def isOk (cs : List PV) : Bool := decide (∃ d : Dat, d.cells = cs ∧ d.ok)
theorem isOk_at {d : Dat} (h : d.ok) : isOk d.cells = true := by
  unfold isOk
  classical exact decide_eq_true ⟨d, rfl, h⟩
theorem isOk_of {cs : List PV} (h : isOk cs = true) : ∃ d : Dat, d.cells = cs ∧ d.ok := by
  unfold isOk at h
  classical exact of_decide_eq_true h
end Seat
end Go.Proofs.YtkblfapbakfgpaaGreatDoor
/- Which data are the same: what it says. -/
namespace Go.Proofs.YtkblfapbakfgpaaGreatDoor
open Go.AS
set_option linter.unusedVariables false
set_option linter.unusedSimpArgs false
set_option maxRecDepth 100000
namespace Seat
mutual
def eqD : Dat → Dat → Bool
  | .mk k n s ks, .mk k' n' s' ks' => decide (k = k') && decide (n = n') && (s.toList == s'.toList) && eqL ks ks'
def eqL : Dats → Dats → Bool
  | .nil, .nil => true
  | .cons d ds, .cons e es => eqD d e && eqL ds es
  | .nil, .cons _ _ => false
  | .cons _ _, .nil => false
end
theorem eqL_iff : ∀ ks ls : Dats, eqL ks ls = true ↔ ks.len = ls.len ∧ ∀ j, j < ks.len → eqD (ks.get j) (ls.get j) = true
  | .nil, .nil => by simp [eqL, Dats.len]
  | .nil, .cons _ _ => by simp [eqL, Dats.len]
  | .cons _ _, .nil => by simp [eqL, Dats.len]
  | .cons d ds, .cons e es => by
    simp only [eqL, Bool.and_eq_true, eqL_iff ds es, Dats.len]
    constructor
    · rintro ⟨h1, h2, h3⟩
      refine ⟨by omega, fun j hj => ?_⟩
      cases j with
      | zero => exact h1
      | succ j => exact h3 j (by omega)
    · rintro ⟨h1, h2⟩
      exact ⟨h2 0 (by omega), by omega, fun j hj => h2 (j + 1) (by omega)⟩
theorem eqL_len {ks ls : Dats} (h : ks.len ≠ ls.len) : eqL ks ls = false := by
  cases hf : eqL ks ls with
  | false => rfl
  | true => exact absurd ((eqL_iff ks ls).1 hf).1 h
theorem eqL_not {ks ls : Dats} {j : Nat} (hj : j < ks.len) (h : eqD (ks.get j) (ls.get j) = false) : eqL ks ls = false := by
  cases hf : eqL ks ls with
  | false => rfl
  | true => rw [((eqL_iff ks ls).1 hf).2 j hj] at h; cases h
def EqAt (f : Nat) (N : Nat) : Prop := ∀ d e : Dat, d.size < N → d.ok → e.ok → Pure G0 f [.agg d.cells, .agg e.cells] (fun r => r = .bool (eqD d e))
noncomputable def eqS (g N : Nat) (f : Nat) (args : List PV) : Option (PV × Ob) := match Nat.beq f g, args with
  | true, [.agg a, .agg b] => some (.bool (ofCells2 eqD false a b), [(isDat N a, true), (isOk b, true)])
  | _, _ => none
theorem eqS_ok {g N : Nat} (ih : EqAt g N) (f : Nat) (args : List PV) (r : PV) (o : Ob) (h : eqS g N f args = some (r, o)) (ho : ∀ p ∈ o, p.1 = p.2) (hpu : pureL args = true) : Pure G0 f args (fun x => x = r) := by
  clear hpu
  unfold eqS at h
  split at h
  · rename_i a b hf
    cases h
    obtain rfl := Nat.eq_of_beq_eq_true hf
    obtain ⟨d, rfl, h1, h2⟩ := isDat_of (ho _ (List.mem_cons_self ..))
    obtain ⟨e, rfl, h3⟩ := isOk_of (ho (isOk b, true) (List.mem_cons_of_mem _ (List.mem_cons_self ..)))
    rw [ofCells2_at]
    exact ih d e h1 h2 h3
  · cases h
noncomputable def SQ {g N : Nat} (ih : EqAt g N) (l : List (Nat × List (Nat × Bool))) (v : List (Nat × List (Nat × PV))) : Cfg G0 := { F := F, hF := hF, S := eqS g N, hS := eqS_ok ih, orc := orcM l, val := valM v }
end Seat
end Go.Proofs.YtkblfapbakfgpaaGreatDoor
/- slices.EqualFunc of Equal; datum.Equal; pagodaref01.Same. -/
namespace Go.Proofs.YtkblfapbakfgpaaGreatDoor
open Go.AS
set_option linter.unusedVariables false
set_option linter.unusedSimpArgs false
set_option maxRecDepth 100000
namespace Seat
end Seat
end Go.Proofs.YtkblfapbakfgpaaGreatDoor
/- datum.Equal; pagodaref01.Same: the laws. -/
namespace Go.Proofs.YtkblfapbakfgpaaGreatDoor
open Go.AS
set_option linter.unusedVariables false
set_option linter.unusedSimpArgs false
set_option maxRecDepth 100000
namespace Seat
theorem sameAt (N : Nat) : EqAt 10 N := by
  induction N with
  | zero => intro d e h; omega
  | succ N ih =>
    intro d e hN hok lok
    obtain ⟨k, n, s, ks⟩ := d
    obtain ⟨k2, n2, s2, ls⟩ := e
    have hks : ks.size < N + 1 := by simp only [Dat.size] at hN; omega
    let H : Hp := ⟨[⟨[.int .i64 k, .int .i64 n, .str s, .slice ks.len ks.cells], 24⟩, ⟨[.int .i64 k2, .int .i64 n2, .str s2, .slice ls.len ls.cells], 24⟩], []⟩
    refine Fn.enterN Tryz.func10 Tryz.ntmps10 rfl (Nat.le_of_ble_eq_true rfl) fun C fr fp hnt hp hfr hfp => ?_
    refine Q.runSeq S0 50 53 hnt [2, 3] (z := ⟨[(2, .ptr 0 0), (3, .ptr 1 0)], H⟩) (o := []) (by kernel_rfl) okO_nil ?_
    refine Q.seq fun K hK => ?_
    have no : ∀ (st : AS), nrm [4] st = ⟨[(4, .bool false)], H⟩ → eqD (.mk k n s ks) (.mk k2 n2 s2 ls) = false → fr st := fun st hs h => hfr st [4] (by
      rw [hs]
      exact ⟨0, .bool false, Nat.le_refl _, Nat.zero_le _, rfl, rfl, rfl, rfl, _, rfl, by rw [h]⟩)
    by_cases h1 : k = k2
    rotate_left
    · exact SWP.runQ (SQ ih [(53, [(10, true)])] []) 100 53 hnt [4] (e := .ret) (z := ⟨[(4, .bool false)], H⟩) (o := [(k != k2, true)]) (by kernel_rfl) (okO_cons (by simp [h1]) okO_nil) (fun st hs => no st hs (by simp [eqD, h1]))
    by_cases h2 : n = n2
    rotate_left
    · exact SWP.runQ (SQ ih [(53, [(10, false), (16, true)])] []) 100 53 hnt [4] (e := .ret) (z := ⟨[(4, .bool false)], H⟩) (o := [(k != k2, false), (n != n2, true)]) (by kernel_rfl) (okO_cons (by simp [h1]) (okO_cons (by simp [h2]) okO_nil)) (fun st hs => no st hs (by simp [eqD, h2]))
    cases h3 : (s.toList == s2.toList) with
    | false => exact SWP.runQ (SQ ih [(53, [(10, false), (16, false), (23, true)])] []) 100 53 hnt [4] (e := .ret) (z := ⟨[(4, .bool false)], H⟩) (o := [(k != k2, false), (n != n2, false), (!(s.toList == s2.toList), true)]) (by kernel_rfl) (okO_cons (by simp [h1]) (okO_cons (by simp [h2]) (okO_cons (by rw [h3]; rfl) okO_nil))) (fun st hs => no st hs (by simp [eqD, h3]))
    | true =>
      by_cases h4 : ks.len = ls.len
      rotate_left
      · exact SWP.runQ (SQ ih [(53, [(10, false), (16, false), (23, false), (32, true)])] []) 100 53 hnt [4] (e := .ret) (z := ⟨[(4, .bool false)], H⟩) (o := [(k != k2, false), (n != n2, false), (!(s.toList == s2.toList), false), ((ks.len : Int) != (ls.len : Int), true)]) (by kernel_rfl) (okO_cons (by simp [h1]) (okO_cons (by simp [h2]) (okO_cons (by rw [h3]; rfl) (okO_cons (by simp; omega) okO_nil)))) (fun st hs => no st hs (by simp [eqD, eqL_len h4]))
      refine SWP.runQ (SQ ih [(53, [(10, false), (16, false), (23, false), (32, false)])] []) 100 53 hnt [2, 3] (e := .normal) (z := ⟨[(2, .ptr 0 0), (3, .ptr 1 0)], H⟩) (o := [(k != k2, false), (n != n2, false), (!(s.toList == s2.toList), false), ((ks.len : Int) != (ls.len : Int), false)]) (by kernel_rfl) (okO_cons (by simp [h1]) (okO_cons (by simp [h2]) (okO_cons (by rw [h3]; rfl) (okO_cons (by simp; omega) okO_nil)))) (fun st hs => hK st (.norm [2, 3] ?_))
      rw [hs]
      have heq : eqD (.mk k n s ks) (.mk k2 n2 s2 ls) = eqL ks ls := by simp [eqD, h1, h2, h3]
      refine Q.seq fun K3 hK3 => ?_
      refine Q.runSeq S0 50 53 hnt [2, 3, 5] (z := ⟨[(2, .ptr 0 0), (3, .ptr 1 0), (5, .int .i64 0)], H⟩) (o := []) (by kernel_rfl) okO_nil ?_
      refine Q.block ?_
      refine Q.loopI (σ := { j : Nat // j ≤ ks.len ∧ ∀ i, i < j → eqD (ks.get i) (ls.get i) = true }) [2, 3, 5] (fun j => ⟨[(2, .ptr 0 0), (3, .ptr 1 0), (5, .int .i64 j.1)], H⟩) (fun j => ks.len - j.1) ⟨0, Nat.zero_le _, fun i h => absurd h (Nat.not_lt_zero _)⟩ rfl fun ⟨j, hj, hall⟩ => ?_
      rcases Nat.lt_or_ge j ks.len with hlt | hge
      · have hlt2 : j < ls.len := by omega
        obtain ⟨k', n', s', ks', hget⟩ := Dats.get_mk ks j
        obtain ⟨k3, n3, s3, ls', hget2⟩ := Dats.get_mk ls j
        have hsz := Dats.get_size ks j hlt
        have hokj := Dats.get_ok ks j hlt hok.2
        have lokj := Dats.get_ok ls j hlt2 lok.2
        have hlen := hok.1
        rw [hget] at hsz hokj
        rw [hget2] at lokj
        have d1 : isDat N [.int .i64 k', .int .i64 n', .str s', .slice ks'.len ks'.cells] = true := isDat_at (d := .mk k' n' s' ks') (by omega) hokj
        have d2 : isOk [.int .i64 k3, .int .i64 n3, .str s3, .slice ls'.len ls'.cells] = true := isOk_at (d := .mk k3 n3 s3 ls') lokj
        have d3 : ofCells2 eqD false [.int .i64 k', .int .i64 n', .str s', .slice ks'.len ks'.cells] [.int .i64 k3, .int .i64 n3, .str s3, .slice ls'.len ls'.cells] = eqD (ks.get j) (ls.get j) := by
          rw [hget, hget2]; exact ofCells2_at eqD false (.mk k' n' s' ks') (.mk k3 n3 s3 ls')
        cases hf : eqD (ks.get j) (ls.get j) with
        | true =>
          refine SWP.runQ (SQ ih [(53, [(38, true), (44, true), (45, true), (49, true), (50, true), (51, true)])] [(53, [(45, .agg [.int .i64 k', .int .i64 n', .str s', .slice ks'.len ks'.cells]), (50, .agg [.int .i64 k3, .int .i64 n3, .str s3, .slice ls'.len ls'.cells])])]) 100 53 hnt [2, 3, 5] (e := .normal) (z := ⟨[(2, .ptr 0 0), (3, .ptr 1 0), (5, .int .i64 (IntKind.wrap IntKind.i64 (Int.ofNat (j + 1))))], ⟨[⟨[.int .i64 k, .int .i64 n, .str s, .slice (Dats.len ks) (Dats.cells ks)], 24⟩, ⟨[.int .i64 k2, .int .i64 n2, .str s2, .slice (Dats.len ls) (Dats.cells ls)], 24⟩], []⟩⟩) (o := [(decide ((↑j : Int) < (↑(Dats.len ks) : Int)), true), (true, true), (decide (0 ≤ (↑j : Int) ∧ (↑j : Int) < (↑(Dats.len ks) : Int)), true), (decide (TD.size d24 ≤ List.length (List.drop (Int.toNat (↑j : Int) * TD.size d24) (Dats.cells ks))), true), (same (PV.agg (List.take (TD.size d24) (List.drop (Int.toNat (↑j : Int) * TD.size d24) (Dats.cells ks)))) (PV.agg [PV.int IntKind.i64 k', PV.int IntKind.i64 n', PV.str s', PV.slice (Dats.len ks') (Dats.cells ks')]), true), (decide (0 ≤ (↑j : Int) ∧ (↑j : Int) < (↑(Dats.len ls) : Int)), true), (decide (TD.size d24 ≤ List.length (List.drop (Int.toNat (↑j : Int) * TD.size d24) (Dats.cells ls))), true), (same (PV.agg (List.take (TD.size d24) (List.drop (Int.toNat (↑j : Int) * TD.size d24) (Dats.cells ls)))) (PV.agg [PV.int IntKind.i64 k3, PV.int IntKind.i64 n3, PV.str s3, PV.slice (Dats.len ls') (Dats.cells ls')]), true), (true, true), (isDat N [PV.int IntKind.i64 k', PV.int IntKind.i64 n', PV.str s', PV.slice (Dats.len ks') (Dats.cells ks')], true), (isOk [PV.int IntKind.i64 k3, PV.int IntKind.i64 n3, PV.str s3, PV.slice (Dats.len ls') (Dats.cells ls')], true), (ofCells2 eqD false [PV.int IntKind.i64 k', PV.int IntKind.i64 n', PV.str s', PV.slice (Dats.len ks') (Dats.cells ks')] [PV.int IntKind.i64 k3, PV.int IntKind.i64 n3, PV.str s3, PV.slice (Dats.len ls') (Dats.cells ls')], true)]) (by kernel_rfl)
            (okO_cons (lt_at hlt) (okO_cons (rfl) (okO_cons (in_at hlt) (okO_cons (kid_len hlt) (okO_cons (kid_same' hlt hget) (okO_cons (in_at hlt2) (okO_cons (kid_len hlt2) (okO_cons (kid_same' hlt2 hget2) (okO_cons (rfl) (okO_cons (d1) (okO_cons (d2) (okO_cons (d3.trans hf) okO_nil)))))))))))) (fun st hs => ⟨⟨j + 1, hlt, fun i hi => ?_⟩, Nat.sub_lt_sub_left hlt (Nat.lt_succ_self j), ?_⟩)
          · rcases Nat.lt_succ_iff_lt_or_eq.1 hi with h | h
            · exact hall i h
            · rw [h]; exact hf
          · rw [hs]
            have := wrap1 j (by omega)
            push_cast at this
            simp only []
            rw [show ((j + 1 : Nat) : Int) = (j : Int) + 1 from rfl, ← this]
            rfl
        | false =>
          exact SWP.runQ (SQ ih [(53, [(38, true), (44, true), (45, true), (49, true), (50, true), (51, false)])] [(53, [(45, .agg [.int .i64 k', .int .i64 n', .str s', .slice ks'.len ks'.cells]), (50, .agg [.int .i64 k3, .int .i64 n3, .str s3, .slice ls'.len ls'.cells])])]) 100 53 hnt [4] (e := .ret) (z := ⟨[(4, .bool false)], ⟨[⟨[.int .i64 k, .int .i64 n, .str s, .slice (Dats.len ks) (Dats.cells ks)], 24⟩, ⟨[.int .i64 k2, .int .i64 n2, .str s2, .slice (Dats.len ls) (Dats.cells ls)], 24⟩], []⟩⟩) (o := [(decide ((↑j : Int) < (↑(Dats.len ks) : Int)), true), (true, true), (decide (0 ≤ (↑j : Int) ∧ (↑j : Int) < (↑(Dats.len ks) : Int)), true), (decide (TD.size d24 ≤ List.length (List.drop (Int.toNat (↑j : Int) * TD.size d24) (Dats.cells ks))), true), (same (PV.agg (List.take (TD.size d24) (List.drop (Int.toNat (↑j : Int) * TD.size d24) (Dats.cells ks)))) (PV.agg [PV.int IntKind.i64 k', PV.int IntKind.i64 n', PV.str s', PV.slice (Dats.len ks') (Dats.cells ks')]), true), (decide (0 ≤ (↑j : Int) ∧ (↑j : Int) < (↑(Dats.len ls) : Int)), true), (decide (TD.size d24 ≤ List.length (List.drop (Int.toNat (↑j : Int) * TD.size d24) (Dats.cells ls))), true), (same (PV.agg (List.take (TD.size d24) (List.drop (Int.toNat (↑j : Int) * TD.size d24) (Dats.cells ls)))) (PV.agg [PV.int IntKind.i64 k3, PV.int IntKind.i64 n3, PV.str s3, PV.slice (Dats.len ls') (Dats.cells ls')]), true), (true, true), (isDat N [PV.int IntKind.i64 k', PV.int IntKind.i64 n', PV.str s', PV.slice (Dats.len ks') (Dats.cells ks')], true), (isOk [PV.int IntKind.i64 k3, PV.int IntKind.i64 n3, PV.str s3, PV.slice (Dats.len ls') (Dats.cells ls')], true), (ofCells2 eqD false [PV.int IntKind.i64 k', PV.int IntKind.i64 n', PV.str s', PV.slice (Dats.len ks') (Dats.cells ks')] [PV.int IntKind.i64 k3, PV.int IntKind.i64 n3, PV.str s3, PV.slice (Dats.len ls') (Dats.cells ls')], false)]) (by kernel_rfl)
            (okO_cons (lt_at hlt) (okO_cons (rfl) (okO_cons (in_at hlt) (okO_cons (kid_len hlt) (okO_cons (kid_same' hlt hget) (okO_cons (in_at hlt2) (okO_cons (kid_len hlt2) (okO_cons (kid_same' hlt2 hget2) (okO_cons (rfl) (okO_cons (d1) (okO_cons (d2) (okO_cons (d3.trans hf) okO_nil)))))))))))) (fun st hs => no st hs (by rw [heq, eqL_not hlt hf]))
      · refine SWP.runQ (SQ ih [(53, [(38, false)])] []) 60 53 hnt [2] (e := .exit 0) (z := ⟨[(2, .ptr 0 0)], H⟩) (o := [(decide ((j : Int) < (ks.len : Int)), false), (false, false)]) (by kernel_rfl) (okO_cons (ge_at hge) (okO_cons (rfl) okO_nil)) (fun st hs => hK3 st (.norm [2] ?_))
        rw [hs]
        refine SWP.runQ S0 50 53 hnt [4] (e := .ret) (z := ⟨[(4, .bool true)], H⟩) (o := []) (by kernel_rfl) okO_nil (fun st hs => hfr st [4] ?_)
        rw [hs]
        exact ⟨0, .bool true, Nat.le_refl _, Nat.zero_le _, rfl, rfl, rfl, rfl, _, rfl, by rw [heq, (eqL_iff ks ls).2 ⟨h4, fun i hi => hall i (by omega)⟩]⟩
theorem same_ok (d e : Dat) (hd : d.ok) (he : e.ok) : Pure G0 10 [.agg d.cells, .agg e.cells] (fun r => r = .bool (eqD d e)) := sameAt (d.size + 1) d e (Nat.lt_succ_self _) hd he
end Seat
end Go.Proofs.YtkblfapbakfgpaaGreatDoor
/- Symbols: datum.IsSymbol, pagodaref01.Symbol. Printed by dev/sym1.py (this session's). -/
namespace Go.Proofs.YtkblfapbakfgpaaGreatDoor
open Go.AS
set_option linter.unusedVariables false
set_option linter.unusedSimpArgs false
set_option maxRecDepth 100000
namespace Seat
noncomputable def symS (f : Nat) (args : List PV) : Option (PV × Ob) := match f, args with
  | 66, [.int .u8 c] => some (.bool (digC c), [(decide (0 ≤ c ∧ c < 256), true)])
  | 57, [.int .u8 c] => some (.bool (letC c), [(decide (0 ≤ c ∧ c < 256), true)])
  | 62, [.int .u8 c] => some (.bool (digC c), [(decide (0 ≤ c ∧ c < 256), true)])
  | 46, [.int .u8 c] => some (.bool (letC c), [(decide (0 ≤ c ∧ c < 256), true)])
  | _, _ => none
theorem symS_ok (f : Nat) (args : List PV) (r : PV) (o : Ob) (h : symS f args = some (r, o)) (ho : ∀ p ∈ o, p.1 = p.2) (_ : pureL args = true) : Pure G0 f args (fun x => x = r) := by
  unfold symS at h
  split at h
  · cases h; exact isDigit_ok _ (of_decide_eq_true (ho _ (List.mem_singleton.2 rfl)))
  · cases h; exact isAtom_ok _ (of_decide_eq_true (ho _ (List.mem_singleton.2 rfl)))
  · cases h; exact digit_ok _ (of_decide_eq_true (ho _ (List.mem_singleton.2 rfl)))
  · cases h; exact letter_ok _ (of_decide_eq_true (ho _ (List.mem_singleton.2 rfl)))
  · cases h
noncomputable def SY (l : List (Nat × Bool)) : Cfg G0 := { F := F, hF := hF, S := symS, hS := symS_ok, orc := orcL 43 l }
def symBad (s : ByteArray) : Bool := decide (s.size = 0) || decide (40 < s.size) || digC (bt s 0) || (bt s 0 == 45 && decide (1 < s.size) && digC (bt s 1))
def symOk (s : ByteArray) : Bool := !symBad s && (List.range s.size).all fun i => letC (bt s i)
theorem symOk_bad {s : ByteArray} (h : symBad s = true) : symOk s = false := by simp [symOk, h]
theorem symOk_let {s : ByteArray} {i : Nat} (hi : i < s.size) (h : letC (bt s i) = false) : symOk s = false := by
  unfold symOk
  have : ((List.range s.size).all fun i => letC (bt s i)) = false := by
    rw [List.all_eq_false]
    exact ⟨i, List.mem_range.2 hi, by simp [h]⟩
  rw [this, Bool.and_false]
theorem symOk_all {s : ByteArray} (h : symBad s = false) (hl : ∀ i, i < s.size → letC (bt s i) = true) : symOk s = true := by
  unfold symOk
  rw [h, Bool.not_false, Bool.true_and, List.all_eq_true]
  exact fun i hi => hl i (List.mem_range.1 hi)
theorem symBad_size {s : ByteArray} (h : symBad s = false) : s.size ≤ 40 := by
  simp [symBad] at h
  omega
theorem dig45 : digC 45 = false := by decide
theorem isSymbol_ok (s : ByteArray) : Pure G0 49 [.str s] (fun r => r = .bool (symOk s)) := by
  refine Fn.enterN Tryz.func49 Tryz.ntmps49 rfl (Nat.le_of_ble_eq_true rfl) fun C fr fp hnt hp hfr hfp => ?_
  refine Q.runSeq S0 50 43 hnt [0] (z := ⟨[(0, .str s)], ⟨[], []⟩⟩) (o := []) (by kernel_rfl) okO_nil ?_
  refine Q.seq fun K hK => ?_
  refine Q.seq fun K1 hK1 => ?_
  have next : ∀ st, nrm [0, 31] st = ⟨[(0, .str s), (31, .bool (symBad s))], ⟨[], []⟩⟩ → K1 st := fun st hst => by
    refine hK1 st (.norm [0, 31] ?_)
    rw [hst]
    refine Q.cond rfl (fun hb => ?_) (fun hb => ?_)
    · refine SWP.runQ S0 50 43 hnt [2] (e := .ret) (z := ⟨[(2, .bool false)], ⟨[], []⟩⟩) (o := []) (by kernel_rfl) okO_nil (fun st hs => hfr st [2] ?_)
      rw [hs]
      exact FinR.pure (r := .bool false) (by kernel_rfl) rfl (by rw [symOk_bad hb])
    · refine Q.skip (hK _ (.norm [0] ?_))
      have hsz := symBad_size hb
      refine Q.seq fun K3 hK3 => ?_
      refine Q.runSeq S0 50 43 hnt [0, 33, 34] (z := ⟨[(0, .str s), (33, .int .i64 s.size), (34, .int .i64 0)], ⟨[], []⟩⟩) (o := []) (by kernel_rfl) okO_nil ?_
      refine Q.block ?_
      refine Q.loopI (σ := { j : Nat // j ≤ s.size ∧ ∀ i, i < j → letC (bt s i) = true }) [0, 33, 34] (fun j => ⟨[(0, .str s), (33, .int .i64 s.size), (34, .int .i64 j.1)], ⟨[], []⟩⟩) (fun j => s.size - j.1) ⟨0, Nat.zero_le _, fun i h => absurd h (Nat.not_lt_zero _)⟩ rfl fun ⟨j, hj, hl⟩ => ?_
      have bj := bt_in s j
      rcases Nat.lt_or_ge j s.size with hlt | hge
      · by_cases hc : letC (bt s j) = true
        · refine SWP.runQ (SY [(35, true), (39, true), (40, true)]) 60 43 hnt [0, 33, 34] (e := .normal) (z := ⟨[(0, .str s), (33, .int .i64 s.size), (34, .int .i64 (IntKind.i64.wrap ((j : Int) + 1)))], ⟨[], []⟩⟩) (o := [(decide ((j : Int) < (s.size : Int)), true), (true, true), (decide (0 ≤ (j : Int) ∧ (j : Int) < (s.size : Int)), true), (true, true), (decide (0 ≤ bt s j ∧ bt s j < 256), true), (letC (bt s j), true)]) (by kernel_rfl) (by simp only [okO, List.forall_mem_cons, List.not_mem_nil, false_imp_iff, implies_true, and_true]; simp [hc, bj]; omega) (fun st hs => ⟨⟨j + 1, hlt, fun i hi => ?_⟩, Nat.sub_lt_sub_left hlt (Nat.lt_succ_self j), ?_⟩)
          · rcases Nat.lt_succ_iff_lt_or_eq.1 hi with h | h
            · exact hl i h
            · rw [h]; exact hc
          · rw [hs, wrap1 j (by omega)]
        · simp only [Bool.not_eq_true] at hc
          refine SWP.runQ (SY [(35, true), (39, true), (40, false)]) 60 43 hnt [2] (e := .ret) (z := ⟨[(2, .bool false)], ⟨[], []⟩⟩) (o := [(decide ((j : Int) < (s.size : Int)), true), (true, true), (decide (0 ≤ (j : Int) ∧ (j : Int) < (s.size : Int)), true), (true, true), (decide (0 ≤ bt s j ∧ bt s j < 256), true), (letC (bt s j), false)]) (by kernel_rfl) (by simp only [okO, List.forall_mem_cons, List.not_mem_nil, false_imp_iff, implies_true, and_true]; simp [hc, bj]; omega) (fun st hs => hfr st [2] ?_)
          rw [hs]
          exact FinR.pure (r := .bool false) (by kernel_rfl) rfl (by rw [symOk_let hlt hc])
      · refine SWP.runQ (SY [(35, false)]) 60 43 hnt [0] (e := .exit 0) (z := ⟨[(0, .str s)], ⟨[], []⟩⟩) (o := [(decide ((j : Int) < (s.size : Int)), false), (false, false)]) (by kernel_rfl) (by simp only [okO, List.forall_mem_cons, List.not_mem_nil, false_imp_iff, implies_true, and_true]; simp; omega) (fun st hs => hK3 st (.norm [0] ?_))
        rw [hs]
        refine SWP.runQ S0 50 43 hnt [2] (e := .ret) (z := ⟨[(2, .bool true)], ⟨[], []⟩⟩) (o := []) (by kernel_rfl) okO_nil (fun st hs => hfr st [2] ?_)
        rw [hs]
        exact FinR.pure (r := .bool true) (by kernel_rfl) rfl (by rw [symOk_all hb fun i hi => hl i (by omega)])
  have b0 := bt_in s 0; have b1 := bt_in s 1
  by_cases h0 : s.size = 0
  · refine SWP.runQ (SY [(6, true)]) 60 43 hnt [0, 31] (e := .normal) (z := ⟨[(0, .str s), (31, .bool true)], ⟨[], []⟩⟩) (o := [((s.size : Int) == 0, true)]) (by kernel_rfl) ?_ (fun st hs => next st (by rw [hs]; simp [symBad, dig45, h0]))
    simp only [okO, List.forall_mem_cons, List.not_mem_nil, false_imp_iff, implies_true, and_true]; simp [dig45, h0]; try omega
  · by_cases h1 : 40 < s.size
    · refine SWP.runQ (SY [(6, false), (10, true)]) 60 43 hnt [0, 31] (e := .normal) (z := ⟨[(0, .str s), (31, .bool true)], ⟨[], []⟩⟩) (o := [((s.size : Int) == 0, false), (decide ((40 : Int) < (s.size : Int)), true)]) (by kernel_rfl) ?_ (fun st hs => next st (by rw [hs]; simp [symBad, dig45, h0, h1]))
      simp only [okO, List.forall_mem_cons, List.not_mem_nil, false_imp_iff, implies_true, and_true]; simp [dig45, h0, h1]; try omega
    · by_cases h2 : digC (bt s 0) = true
      · refine SWP.runQ (SY [(6, false), (10, false), (14, true), (15, true)]) 60 43 hnt [0, 31] (e := .normal) (z := ⟨[(0, .str s), (31, .bool true)], ⟨[], []⟩⟩) (o := [((s.size : Int) == 0, false), (decide ((40 : Int) < (s.size : Int)), false), (decide ((0 : Int) ≤ 0 ∧ (0 : Int) < (s.size : Int)), true), (true, true), (decide (0 ≤ bt s 0 ∧ bt s 0 < 256), true), (digC (bt s 0), true)]) (by kernel_rfl) ?_ (fun st hs => next st (by rw [hs]; simp [symBad, dig45, h0, h1, h2]))
        simp only [okO, List.forall_mem_cons, List.not_mem_nil, false_imp_iff, implies_true, and_true]; simp [dig45, h0, h1, h2]; try omega
      · simp only [Bool.not_eq_true] at h2
        by_cases h3 : bt s 0 = 45
        · by_cases h4 : 1 < s.size
          · by_cases h5 : digC (bt s 1) = true
            · refine SWP.runQ (SY [(6, false), (10, false), (14, true), (15, false), (19, true), (20, true), (24, true), (28, true), (29, true)]) 60 43 hnt [0, 31] (e := .normal) (z := ⟨[(0, .str s), (31, .bool true)], ⟨[], []⟩⟩) (o := [((s.size : Int) == 0, false), (decide ((40 : Int) < (s.size : Int)), false), (decide ((0 : Int) ≤ 0 ∧ (0 : Int) < (s.size : Int)), true), (true, true), (decide (0 ≤ bt s 0 ∧ bt s 0 < 256), true), (digC (bt s 0), false), (decide ((0 : Int) ≤ 0 ∧ (0 : Int) < (s.size : Int)), true), (bt s 0 == 45, true), (decide ((1 : Int) < (s.size : Int)), true), (decide ((0 : Int) ≤ 1 ∧ (1 : Int) < (s.size : Int)), true), (true, true), (decide (0 ≤ bt s 1 ∧ bt s 1 < 256), true), (digC (bt s 1), true)]) (by kernel_rfl) ?_ (fun st hs => next st (by rw [hs]; simp [symBad, dig45, h0, h1, h2, h3, h4, h5]))
              simp only [okO, List.forall_mem_cons, List.not_mem_nil, false_imp_iff, implies_true, and_true]; simp [dig45, h0, h1, h2, h3, h4, h5]; try omega
            · simp only [Bool.not_eq_true] at h5
              refine SWP.runQ (SY [(6, false), (10, false), (14, true), (15, false), (19, true), (20, true), (24, true), (28, true), (29, false)]) 60 43 hnt [0, 31] (e := .normal) (z := ⟨[(0, .str s), (31, .bool false)], ⟨[], []⟩⟩) (o := [((s.size : Int) == 0, false), (decide ((40 : Int) < (s.size : Int)), false), (decide ((0 : Int) ≤ 0 ∧ (0 : Int) < (s.size : Int)), true), (true, true), (decide (0 ≤ bt s 0 ∧ bt s 0 < 256), true), (digC (bt s 0), false), (decide ((0 : Int) ≤ 0 ∧ (0 : Int) < (s.size : Int)), true), (bt s 0 == 45, true), (decide ((1 : Int) < (s.size : Int)), true), (decide ((0 : Int) ≤ 1 ∧ (1 : Int) < (s.size : Int)), true), (true, true), (decide (0 ≤ bt s 1 ∧ bt s 1 < 256), true), (digC (bt s 1), false)]) (by kernel_rfl) ?_ (fun st hs => next st (by rw [hs]; simp [symBad, dig45, h0, h1, h2, h3, h4, h5]))
              simp only [okO, List.forall_mem_cons, List.not_mem_nil, false_imp_iff, implies_true, and_true]; simp [dig45, h0, h1, h2, h3, h4, h5]; try omega
          · refine SWP.runQ (SY [(6, false), (10, false), (14, true), (15, false), (19, true), (20, true), (24, false)]) 60 43 hnt [0, 31] (e := .normal) (z := ⟨[(0, .str s), (31, .bool false)], ⟨[], []⟩⟩) (o := [((s.size : Int) == 0, false), (decide ((40 : Int) < (s.size : Int)), false), (decide ((0 : Int) ≤ 0 ∧ (0 : Int) < (s.size : Int)), true), (true, true), (decide (0 ≤ bt s 0 ∧ bt s 0 < 256), true), (digC (bt s 0), false), (decide ((0 : Int) ≤ 0 ∧ (0 : Int) < (s.size : Int)), true), (bt s 0 == 45, true), (decide ((1 : Int) < (s.size : Int)), false)]) (by kernel_rfl) ?_ (fun st hs => next st (by rw [hs]; simp [symBad, dig45, h0, h1, h2, h3, h4]))
            simp only [okO, List.forall_mem_cons, List.not_mem_nil, false_imp_iff, implies_true, and_true]; simp [dig45, h0, h1, h2, h3, h4]; try omega
        · refine SWP.runQ (SY [(6, false), (10, false), (14, true), (15, false), (19, true), (20, false)]) 60 43 hnt [0, 31] (e := .normal) (z := ⟨[(0, .str s), (31, .bool false)], ⟨[], []⟩⟩) (o := [((s.size : Int) == 0, false), (decide ((40 : Int) < (s.size : Int)), false), (decide ((0 : Int) ≤ 0 ∧ (0 : Int) < (s.size : Int)), true), (true, true), (decide (0 ≤ bt s 0 ∧ bt s 0 < 256), true), (digC (bt s 0), false), (decide ((0 : Int) ≤ 0 ∧ (0 : Int) < (s.size : Int)), true), (bt s 0 == 45, false)]) (by kernel_rfl) ?_ (fun st hs => next st (by rw [hs]; simp [symBad, dig45, h0, h1, h2, h3]))
          simp only [okO, List.forall_mem_cons, List.not_mem_nil, false_imp_iff, implies_true, and_true]; simp [dig45, h0, h1, h2, h3]; try omega
theorem symbol_ok (s : ByteArray) : Pure G0 64 [.str s] (fun r => r = .bool (symOk s)) := by
  refine Fn.enterN Tryz.func64 Tryz.ntmps64 rfl (Nat.le_of_ble_eq_true rfl) fun C fr fp hnt hp hfr hfp => ?_
  refine Q.runSeq S0 50 43 hnt [0] (z := ⟨[(0, .str s)], ⟨[], []⟩⟩) (o := []) (by kernel_rfl) okO_nil ?_
  refine Q.seq fun K hK => ?_
  refine Q.seq fun K1 hK1 => ?_
  have next : ∀ st, nrm [0, 31] st = ⟨[(0, .str s), (31, .bool (symBad s))], ⟨[], []⟩⟩ → K1 st := fun st hst => by
    refine hK1 st (.norm [0, 31] ?_)
    rw [hst]
    refine Q.cond rfl (fun hb => ?_) (fun hb => ?_)
    · refine SWP.runQ S0 50 43 hnt [2] (e := .ret) (z := ⟨[(2, .bool false)], ⟨[], []⟩⟩) (o := []) (by kernel_rfl) okO_nil (fun st hs => hfr st [2] ?_)
      rw [hs]
      exact FinR.pure (r := .bool false) (by kernel_rfl) rfl (by rw [symOk_bad hb])
    · refine Q.skip (hK _ (.norm [0] ?_))
      have hsz := symBad_size hb
      refine Q.seq fun K3 hK3 => ?_
      refine Q.runSeq S0 50 43 hnt [0, 3] (z := ⟨[(0, .str s), (3, .int .i64 0)], ⟨[], []⟩⟩) (o := []) (by kernel_rfl) okO_nil ?_
      refine Q.block ?_
      refine Q.loopI (σ := { j : Nat // j ≤ s.size ∧ ∀ i, i < j → letC (bt s i) = true }) [0, 3] (fun j => ⟨[(0, .str s), (3, .int .i64 j.1)], ⟨[], []⟩⟩) (fun j => s.size - j.1) ⟨0, Nat.zero_le _, fun i h => absurd h (Nat.not_lt_zero _)⟩ rfl fun ⟨j, hj, hl⟩ => ?_
      have bj := bt_in s j
      rcases Nat.lt_or_ge j s.size with hlt | hge
      · by_cases hc : letC (bt s j) = true
        · refine SWP.runQ (SY [(35, true), (40, true), (41, true)]) 60 43 hnt [0, 3] (e := .normal) (z := ⟨[(0, .str s), (3, .int .i64 (IntKind.i64.wrap ((j : Int) + 1)))], ⟨[], []⟩⟩) (o := [(decide ((j : Int) < (s.size : Int)), true), (true, true), (decide (0 ≤ (j : Int) ∧ (j : Int) < (s.size : Int)), true), (true, true), (decide (0 ≤ bt s j ∧ bt s j < 256), true), (letC (bt s j), true)]) (by kernel_rfl) (by simp only [okO, List.forall_mem_cons, List.not_mem_nil, false_imp_iff, implies_true, and_true]; simp [hc, bj]; omega) (fun st hs => ⟨⟨j + 1, hlt, fun i hi => ?_⟩, Nat.sub_lt_sub_left hlt (Nat.lt_succ_self j), ?_⟩)
          · rcases Nat.lt_succ_iff_lt_or_eq.1 hi with h | h
            · exact hl i h
            · rw [h]; exact hc
          · rw [hs, wrap1 j (by omega)]
        · simp only [Bool.not_eq_true] at hc
          refine SWP.runQ (SY [(35, true), (40, true), (41, false)]) 60 43 hnt [2] (e := .ret) (z := ⟨[(2, .bool false)], ⟨[], []⟩⟩) (o := [(decide ((j : Int) < (s.size : Int)), true), (true, true), (decide (0 ≤ (j : Int) ∧ (j : Int) < (s.size : Int)), true), (true, true), (decide (0 ≤ bt s j ∧ bt s j < 256), true), (letC (bt s j), false)]) (by kernel_rfl) (by simp only [okO, List.forall_mem_cons, List.not_mem_nil, false_imp_iff, implies_true, and_true]; simp [hc, bj]; omega) (fun st hs => hfr st [2] ?_)
          rw [hs]
          exact FinR.pure (r := .bool false) (by kernel_rfl) rfl (by rw [symOk_let hlt hc])
      · refine SWP.runQ (SY [(35, false)]) 60 43 hnt [0] (e := .exit 0) (z := ⟨[(0, .str s)], ⟨[], []⟩⟩) (o := [(decide ((j : Int) < (s.size : Int)), false), (false, false)]) (by kernel_rfl) (by simp only [okO, List.forall_mem_cons, List.not_mem_nil, false_imp_iff, implies_true, and_true]; simp; omega) (fun st hs => hK3 st (.norm [0] ?_))
        rw [hs]
        refine SWP.runQ S0 50 43 hnt [2] (e := .ret) (z := ⟨[(2, .bool true)], ⟨[], []⟩⟩) (o := []) (by kernel_rfl) okO_nil (fun st hs => hfr st [2] ?_)
        rw [hs]
        exact FinR.pure (r := .bool true) (by kernel_rfl) rfl (by rw [symOk_all hb fun i hi => hl i (by omega)])
  have b0 := bt_in s 0; have b1 := bt_in s 1
  by_cases h0 : s.size = 0
  · refine SWP.runQ (SY [(6, true)]) 60 43 hnt [0, 31] (e := .normal) (z := ⟨[(0, .str s), (31, .bool true)], ⟨[], []⟩⟩) (o := [(decide ((s.size : Int) < 1), true)]) (by kernel_rfl) ?_ (fun st hs => next st (by rw [hs]; simp [symBad, dig45, h0]))
    simp only [okO, List.forall_mem_cons, List.not_mem_nil, false_imp_iff, implies_true, and_true]; simp [dig45, h0]; try omega
  · by_cases h1 : 40 < s.size
    · refine SWP.runQ (SY [(6, false), (10, true)]) 60 43 hnt [0, 31] (e := .normal) (z := ⟨[(0, .str s), (31, .bool true)], ⟨[], []⟩⟩) (o := [(decide ((s.size : Int) < 1), false), (decide ((40 : Int) < (s.size : Int)), true)]) (by kernel_rfl) ?_ (fun st hs => next st (by rw [hs]; simp [symBad, dig45, h0, h1]))
      simp only [okO, List.forall_mem_cons, List.not_mem_nil, false_imp_iff, implies_true, and_true]; simp [dig45, h0, h1]; try omega
    · by_cases h2 : digC (bt s 0) = true
      · refine SWP.runQ (SY [(6, false), (10, false), (14, true), (15, true)]) 60 43 hnt [0, 31] (e := .normal) (z := ⟨[(0, .str s), (31, .bool true)], ⟨[], []⟩⟩) (o := [(decide ((s.size : Int) < 1), false), (decide ((40 : Int) < (s.size : Int)), false), (decide ((0 : Int) ≤ 0 ∧ (0 : Int) < (s.size : Int)), true), (true, true), (decide (0 ≤ bt s 0 ∧ bt s 0 < 256), true), (digC (bt s 0), true)]) (by kernel_rfl) ?_ (fun st hs => next st (by rw [hs]; simp [symBad, dig45, h0, h1, h2]))
        simp only [okO, List.forall_mem_cons, List.not_mem_nil, false_imp_iff, implies_true, and_true]; simp [dig45, h0, h1, h2]; try omega
      · simp only [Bool.not_eq_true] at h2
        by_cases h3 : bt s 0 = 45
        · by_cases h4 : 1 < s.size
          · by_cases h5 : digC (bt s 1) = true
            · refine SWP.runQ (SY [(6, false), (10, false), (14, true), (15, false), (19, true), (20, true), (24, true), (28, true), (29, true)]) 60 43 hnt [0, 31] (e := .normal) (z := ⟨[(0, .str s), (31, .bool true)], ⟨[], []⟩⟩) (o := [(decide ((s.size : Int) < 1), false), (decide ((40 : Int) < (s.size : Int)), false), (decide ((0 : Int) ≤ 0 ∧ (0 : Int) < (s.size : Int)), true), (true, true), (decide (0 ≤ bt s 0 ∧ bt s 0 < 256), true), (digC (bt s 0), false), (decide ((0 : Int) ≤ 0 ∧ (0 : Int) < (s.size : Int)), true), (bt s 0 == 45, true), (decide ((1 : Int) < (s.size : Int)), true), (decide ((0 : Int) ≤ 1 ∧ (1 : Int) < (s.size : Int)), true), (true, true), (decide (0 ≤ bt s 1 ∧ bt s 1 < 256), true), (digC (bt s 1), true)]) (by kernel_rfl) ?_ (fun st hs => next st (by rw [hs]; simp [symBad, dig45, h0, h1, h2, h3, h4, h5]))
              simp only [okO, List.forall_mem_cons, List.not_mem_nil, false_imp_iff, implies_true, and_true]; simp [dig45, h0, h1, h2, h3, h4, h5]; try omega
            · simp only [Bool.not_eq_true] at h5
              refine SWP.runQ (SY [(6, false), (10, false), (14, true), (15, false), (19, true), (20, true), (24, true), (28, true), (29, false)]) 60 43 hnt [0, 31] (e := .normal) (z := ⟨[(0, .str s), (31, .bool false)], ⟨[], []⟩⟩) (o := [(decide ((s.size : Int) < 1), false), (decide ((40 : Int) < (s.size : Int)), false), (decide ((0 : Int) ≤ 0 ∧ (0 : Int) < (s.size : Int)), true), (true, true), (decide (0 ≤ bt s 0 ∧ bt s 0 < 256), true), (digC (bt s 0), false), (decide ((0 : Int) ≤ 0 ∧ (0 : Int) < (s.size : Int)), true), (bt s 0 == 45, true), (decide ((1 : Int) < (s.size : Int)), true), (decide ((0 : Int) ≤ 1 ∧ (1 : Int) < (s.size : Int)), true), (true, true), (decide (0 ≤ bt s 1 ∧ bt s 1 < 256), true), (digC (bt s 1), false)]) (by kernel_rfl) ?_ (fun st hs => next st (by rw [hs]; simp [symBad, dig45, h0, h1, h2, h3, h4, h5]))
              simp only [okO, List.forall_mem_cons, List.not_mem_nil, false_imp_iff, implies_true, and_true]; simp [dig45, h0, h1, h2, h3, h4, h5]; try omega
          · refine SWP.runQ (SY [(6, false), (10, false), (14, true), (15, false), (19, true), (20, true), (24, false)]) 60 43 hnt [0, 31] (e := .normal) (z := ⟨[(0, .str s), (31, .bool false)], ⟨[], []⟩⟩) (o := [(decide ((s.size : Int) < 1), false), (decide ((40 : Int) < (s.size : Int)), false), (decide ((0 : Int) ≤ 0 ∧ (0 : Int) < (s.size : Int)), true), (true, true), (decide (0 ≤ bt s 0 ∧ bt s 0 < 256), true), (digC (bt s 0), false), (decide ((0 : Int) ≤ 0 ∧ (0 : Int) < (s.size : Int)), true), (bt s 0 == 45, true), (decide ((1 : Int) < (s.size : Int)), false)]) (by kernel_rfl) ?_ (fun st hs => next st (by rw [hs]; simp [symBad, dig45, h0, h1, h2, h3, h4]))
            simp only [okO, List.forall_mem_cons, List.not_mem_nil, false_imp_iff, implies_true, and_true]; simp [dig45, h0, h1, h2, h3, h4]; try omega
        · refine SWP.runQ (SY [(6, false), (10, false), (14, true), (15, false), (19, true), (20, false)]) 60 43 hnt [0, 31] (e := .normal) (z := ⟨[(0, .str s), (31, .bool false)], ⟨[], []⟩⟩) (o := [(decide ((s.size : Int) < 1), false), (decide ((40 : Int) < (s.size : Int)), false), (decide ((0 : Int) ≤ 0 ∧ (0 : Int) < (s.size : Int)), true), (true, true), (decide (0 ≤ bt s 0 ∧ bt s 0 < 256), true), (digC (bt s 0), false), (decide ((0 : Int) ≤ 0 ∧ (0 : Int) < (s.size : Int)), true), (bt s 0 == 45, false)]) (by kernel_rfl) ?_ (fun st hs => next st (by rw [hs]; simp [symBad, dig45, h0, h1, h2, h3]))
          simp only [okO, List.forall_mem_cons, List.not_mem_nil, false_imp_iff, implies_true, and_true]; simp [dig45, h0, h1, h2, h3]; try omega
end Seat
end Go.Proofs.YtkblfapbakfgpaaGreatDoor
/- Which data are right: what it says; laws that the interpreter takes. -/
namespace Go.Proofs.YtkblfapbakfgpaaGreatDoor
open Go.AS
set_option linter.unusedVariables false
set_option linter.unusedSimpArgs false
set_option maxRecDepth 100000
namespace Seat
mutual
def formedD : Dat → Bool
  | .mk k n s ks => (decide (k = 1) && decide (s.size = 0) && decide (ks.len = 0)) || (decide (k = 2) && decide (n = 0) && symOk s && decide (ks.len = 0)) || (decide (k = 3) && decide (n = 0) && decide (s.size = 0) && formedL ks)
def formedL : Dats → Bool
  | .nil => true
  | .cons d ds => formedD d && formedL ds
end
theorem formedL_iff : ∀ ks : Dats, formedL ks = true ↔ ∀ j, j < ks.len → formedD (ks.get j) = true
  | .nil => by simp [formedL, Dats.len]
  | .cons d ds => by
    simp only [formedL, Bool.and_eq_true, formedL_iff ds, Dats.len]
    constructor
    · rintro ⟨h1, h2⟩ j hj
      cases j with
      | zero => exact h1
      | succ j => exact h2 j (by omega)
    · intro h
      exact ⟨h 0 (by omega), fun j hj => h (j + 1) (by omega)⟩
def badIdx (ks : Dats) : Int := match (List.range ks.len).find? fun j => !formedD (ks.get j) with
  | some j => j
  | none => -1
theorem badIdx_at {ks : Dats} {j : Nat} (hj : j < ks.len) (h : formedD (ks.get j) = false) (hl : ∀ i, i < j → formedD (ks.get i) = true) : badIdx ks = j := by
  unfold badIdx
  have : (List.range ks.len).find? (fun j => !formedD (ks.get j)) = some j := by
    rw [List.find?_range_eq_some]
    exact ⟨by simp [h], List.mem_range.2 hj, fun i hi => by simp [hl i hi]⟩
  rw [this]
theorem badIdx_none {ks : Dats} (hl : ∀ i, i < ks.len → formedD (ks.get i) = true) : badIdx ks = -1 := by
  unfold badIdx
  have : (List.range ks.len).find? (fun j => !formedD (ks.get j)) = none := by
    rw [List.find?_eq_none]
    intro i hi
    simp [hl i (List.mem_range.1 hi)]
  rw [this]
theorem badIdx_formed (ks : Dats) : decide (0 ≤ badIdx ks) = !formedL ks := by
  cases h : formedL ks with
  | true => rw [badIdx_none fun i hi => (formedL_iff ks).1 h i hi]; rfl
  | false =>
    unfold badIdx
    split
    · rename_i j hj
      simp
    · rename_i hn
      rw [List.find?_eq_none] at hn
      have : formedL ks = true := (formedL_iff ks).2 fun j hj => by simpa using hn j (List.mem_range.2 hj)
      rw [this] at h
      cases h
def FormAt (N : Nat) : Prop := ∀ d : Dat, d.size < N → d.ok → Pure G0 35 [.agg d.cells] (fun r => r = .bool (formedD d))
def IdxAt (N : Nat) : Prop := ∀ ks : Dats, ks.size < N → ks.len ≤ 9223372036854775807 → ks.ok → Pure G0 67 [.slice ks.len ks.cells, .func (.func 51) []] (fun r => r = .int .i64 (badIdx ks))
noncomputable def formS (N : Nat) (f : Nat) (args : List PV) : Option (PV × Ob) := match f, args with
  | 35, [.agg cs] => some (.bool (ofCells formedD false cs), [(isDat N cs, true)])
  | _, _ => none
theorem formS_ok {N : Nat} (ih : FormAt N) (f : Nat) (args : List PV) (r : PV) (o : Ob) (h : formS N f args = some (r, o)) (ho : ∀ p ∈ o, p.1 = p.2) (_ : pureL args = true) : Pure G0 f args (fun x => x = r) := by
  unfold formS at h
  split at h
  · cases h
    obtain ⟨d, rfl, h1, h2⟩ := isDat_of (ho _ (List.mem_singleton.2 rfl))
    rw [ofCells_at]
    exact ih d h1 h2
  · cases h
noncomputable def idxS (N : Nat) (f : Nat) (args : List PV) : Option (PV × Ob) := match f, args with
  | 67, [.slice n cs, .func (.func 51) []] => some (.int .i64 (ofCellsL badIdx 0 cs), [(isDats N n cs, true)])
  | 49, [.str s] => some (.bool (symOk s), [])
  | _, _ => none
theorem idxS_ok {N : Nat} (ih : IdxAt N) (f : Nat) (args : List PV) (r : PV) (o : Ob) (h : idxS N f args = some (r, o)) (ho : ∀ p ∈ o, p.1 = p.2) (_ : pureL args = true) : Pure G0 f args (fun x => x = r) := by
  unfold idxS at h
  split at h
  · cases h
    obtain ⟨ks, rfl, rfl, h1, hl, h2⟩ := isDats_of (ho _ (List.mem_singleton.2 rfl))
    rw [ofCellsL_at]
    exact ih ks h1 hl h2
  · cases h; exact isSymbol_ok _
  · cases h
end Seat
end Go.Proofs.YtkblfapbakfgpaaGreatDoor
/- datum.formed: which data are right. -/
namespace Go.Proofs.YtkblfapbakfgpaaGreatDoor
open Go.AS
set_option linter.unusedVariables false
set_option linter.unusedSimpArgs false
set_option maxRecDepth 100000
namespace Seat
noncomputable def SF {N : Nat} (ih : FormAt N) (l : List (Nat × List (Nat × Bool))) (v : List (Nat × List (Nat × PV))) : Cfg G0 := { F := F, hF := hF, S := formS N, hS := formS_ok ih, orc := orcM l, val := valM v }
noncomputable def SI {N : Nat} (ih : IdxAt N) (l : List (Nat × List (Nat × Bool))) : Cfg G0 := { F := F, hF := hF, S := idxS N, hS := idxS_ok ih, orc := orcM l }
theorem idxAt {N : Nat} (ih : FormAt N) : IdxAt (N + 1) := fun ks hN hlen hok => by
  refine Fn.enterN Tryz.func67 Tryz.ntmps67 rfl (Nat.le_of_ble_eq_true rfl) fun C fr fp hnt hp hfr hfp => ?_
  refine Q.runSeq S0 50 19 hnt [0, 1] (z := ⟨[(0, .slice ks.len ks.cells), (1, .func (.func 51) [])], ⟨[], []⟩⟩) (o := []) (by kernel_rfl) okO_nil ?_
  refine Q.seq fun K hK => ?_
  refine Q.runSeq S0 50 19 hnt [0, 1, 7, 8] (z := ⟨[(0, .slice ks.len ks.cells), (1, .func (.func 51) []), (7, .int .i64 ks.len), (8, .int .i64 0)], ⟨[], []⟩⟩) (o := []) (by kernel_rfl) okO_nil ?_
  refine Q.block ?_
  refine Q.loopI (σ := { j : Nat // j ≤ ks.len ∧ ∀ i, i < j → formedD (ks.get i) = true }) [0, 1, 7, 8] (fun j => ⟨[(0, .slice ks.len ks.cells), (1, .func (.func 51) []), (7, .int .i64 ks.len), (8, .int .i64 j.1)], ⟨[], []⟩⟩) (fun j => ks.len - j.1) ⟨0, Nat.zero_le _, fun i h => absurd h (Nat.not_lt_zero _)⟩ rfl fun ⟨j, hj, hl⟩ => ?_
  rcases Nat.lt_or_ge j ks.len with hlt | hge
  · obtain ⟨k', n', s', ks', hget⟩ := Dats.get_mk ks j
    have hcl : (Dat.mk k' n' s' ks').cells = [.int .i64 k', .int .i64 n', .str s', .slice ks'.len ks'.cells] := rfl
    have hsz := Dats.get_size ks j hlt
    have hokj := Dats.get_ok ks j hlt hok
    rw [hget] at hsz hokj
    have oks : ∀ b, formedD (ks.get j) = b → okO [(decide ((j : Int) < (ks.len : Int)), true), (true, true), (decide (0 ≤ (j : Int) ∧ (j : Int) < (ks.len : Int)), true), (decide (4 ≤ (ks.cells.drop ((j : Int).toNat * 4)).length), true), (same (.agg ((ks.cells.drop ((j : Int).toNat * 4)).take 4)) (.agg [.int .i64 k', .int .i64 n', .str s', .slice ks'.len ks'.cells]), true), (true, true), (isDat N [.int .i64 k', .int .i64 n', .str s', .slice ks'.len ks'.cells], true), (!ofCells formedD false [.int .i64 k', .int .i64 n', .str s', .slice ks'.len ks'.cells], !b), (!b, !b)] := fun b hb => by
      simp only [okO, List.forall_mem_cons, List.not_mem_nil, false_imp_iff, implies_true, and_true, true_and, Int.toNat_natCast, Dats.get_cells ks j hlt]
      refine ⟨by simpa using hlt, by simpa using hlt, ?_, same_of (by rw [hget]; rfl), isDat_at (d := .mk k' n' s' ks') (by omega) hokj, ?_⟩
      · simp only [List.length_drop, Dats.cells_len, decide_eq_true_eq]; omega
      · rw [← hcl, ofCells_at, ← hget, hb]
    cases hf : formedD (ks.get j) with
    | true =>
      refine SWP.runQ (SF ih [(19, [(9, true), (14, true), (15, true), (16, false)])] [(19, [(15, .agg [.int .i64 k', .int .i64 n', .str s', .slice ks'.len ks'.cells])])]) 60 19 hnt [0, 1, 7, 8] (e := .normal) (z := ⟨[(0, .slice ks.len ks.cells), (1, .func (.func 51) []), (7, .int .i64 ks.len), (8, .int .i64 (IntKind.i64.wrap ((j : Int) + 1)))], ⟨[], []⟩⟩)
        (by kernel_rfl) (oks true hf) (fun st hs => ⟨⟨j + 1, hlt, fun i hi => ?_⟩, Nat.sub_lt_sub_left hlt (Nat.lt_succ_self j), ?_⟩)
      · rcases Nat.lt_succ_iff_lt_or_eq.1 hi with h | h
        · exact hl i h
        · rw [h]; exact hf
      · rw [hs, wrap1 j (by omega)]
    | false =>
      refine SWP.runQ (SF ih [(19, [(9, true), (14, true), (15, true), (16, true)])] [(19, [(15, .agg [.int .i64 k', .int .i64 n', .str s', .slice ks'.len ks'.cells])])]) 60 19 hnt [4] (e := .ret) (z := ⟨[(4, .int .i64 j)], ⟨[], []⟩⟩)
        (by kernel_rfl) (oks false hf) (fun st hs => hfr st [4] ?_)
      rw [hs]
      exact FinR.pure (r := .int .i64 j) (by kernel_rfl) rfl (by rw [badIdx_at hlt hf hl])
  · refine SWP.runQ (SF ih [(19, [(9, false)])] []) 60 19 hnt [0] (e := .exit 0) (z := ⟨[(0, .slice ks.len ks.cells)], ⟨[], []⟩⟩) (o := [(decide ((j : Int) < (ks.len : Int)), false), (false, false)]) (by kernel_rfl) (by simp only [okO, List.forall_mem_cons, List.not_mem_nil, false_imp_iff, implies_true, and_true]; simp; omega) (fun st hs => hK st (.norm [0] ?_))
    rw [hs]
    refine SWP.runQ S0 50 19 hnt [4] (e := .ret) (z := ⟨[(4, .int .i64 (-1))], ⟨[], []⟩⟩) (o := []) (by kernel_rfl) okO_nil (fun st hs => hfr st [4] ?_)
    rw [hs]
    exact FinR.pure (r := .int .i64 (-1)) (by kernel_rfl) rfl (by rw [badIdx_none fun i hi => hl i (by omega)])
end Seat
end Go.Proofs.YtkblfapbakfgpaaGreatDoor
/- datum.formed: the law. -/
namespace Go.Proofs.YtkblfapbakfgpaaGreatDoor
open Go.AS
set_option linter.unusedVariables false
set_option linter.unusedSimpArgs false
set_option maxRecDepth 100000
namespace Seat
theorem formAt (N : Nat) : FormAt N := by
  induction N with
  | zero => intro d h; omega
  | succ N ih =>
    intro d hN hok
    have hI := idxAt ih
    obtain ⟨k, n, s, ks⟩ := d
    have hks : ks.size < N + 1 := by simp only [Dat.size] at hN; omega
    have run : ∀ (l : List (Nat × Bool)) (r : Bool) (o : Ob), call (SI hI [(48, l)]) 60 35 [.agg [.int .i64 k, .int .i64 n, .str s, .slice ks.len ks.cells]] = some (.bool r, o) → okO o → r = formedD (.mk k n s ks) → Pure G0 35 [.agg (Dat.mk k n s ks).cells] (fun r => r = .bool (formedD (.mk k n s ks))) := fun l r o h ho hr => by
      rw [← hr]
      exact Pure.runO 60 h ho
    have d3 := isDats_at (N := N + 1) hks hok.1 hok.2
    have b3 : decide (0 ≤ ofCellsL badIdx 0 ks.cells) = !formedL ks := by rw [ofCellsL_at, badIdx_formed]
    by_cases h1 : k = 1
    · by_cases h2 : s.size = 0
      · exact run [(6, true), (9, true)] ((ks.len : Int) == 0) [(k == 1, true), (s.toList == [], true)] (by kernel_rfl) (by simp [okO, beq0, h1, str_nil, h2]) (by simp [formedD, h1, h2, beq0])
      · exact run [(6, true), (9, false)] false [(k == 1, true), (s.toList == [], false)] (by kernel_rfl) (by simp [okO, beq0, h1, str_nil, h2]) (by simp [formedD, h1, h2])
    · by_cases h2 : k = 2
      · by_cases h3 : n = 0
        · by_cases h4 : ks.len = 0
          · exact run [(6, false), (17, true), (20, true), (25, true)] (symOk s) [(k == 1, false), (k == 2, true), (n == 0, true), ((ks.len : Int) == 0, true), (true, true)] (by kernel_rfl) (by simp [okO, beq0, h2, h3, h4]) (by simp [formedD, h2, h3, h4])
          · exact run [(6, false), (17, true), (20, true), (25, false)] false [(k == 1, false), (k == 2, true), (n == 0, true), ((ks.len : Int) == 0, false)] (by kernel_rfl) (by simp [okO, beq0, h2, h3, h4]) (by simp [formedD, h2, h3, h4])
        · exact run [(6, false), (17, true), (20, false)] false [(k == 1, false), (k == 2, true), (n == 0, false)] (by kernel_rfl) (by simp [okO, beq0, h2, h3]) (by simp [formedD, h2, h3])
      · by_cases h3 : k = 3
        · by_cases h4 : n = 0
          · by_cases h5 : s.size = 0
            · exact run [(6, false), (17, false), (33, true), (36, true), (40, true)] (!decide (0 ≤ ofCellsL badIdx 0 ks.cells)) [(k == 1, false), (k == 2, false), (k == 3, true), (n == 0, true), (s.toList == [], true), (true, true), (isDats (N + 1) ks.len ks.cells, true)] (by kernel_rfl) (by simp [okO, beq0, h3, h4, h5, str_nil, d3]) (by rw [b3]; simp [formedD, h3, h4, h5])
            · exact run [(6, false), (17, false), (33, true), (36, true), (40, false)] false [(k == 1, false), (k == 2, false), (k == 3, true), (n == 0, true), (s.toList == [], false)] (by kernel_rfl) (by simp [okO, beq0, h3, h4, h5, str_nil]) (by simp [formedD, h3, h4, h5])
          · exact run [(6, false), (17, false), (33, true), (36, false)] false [(k == 1, false), (k == 2, false), (k == 3, true), (n == 0, false)] (by kernel_rfl) (by simp [okO, beq0, h3, h4]) (by simp [formedD, h3, h4])
        · exact run [(6, false), (17, false), (33, false)] false [(k == 1, false), (k == 2, false), (k == 3, false)] (by kernel_rfl) (by simp [okO, beq0, h1, h2, h3]) (by simp [formedD, h1, h2, h3])
theorem dformed_ok (d : Dat) (hok : d.ok) : Pure G0 35 [.agg d.cells] (fun r => r = .bool (formedD d)) := formAt (d.size + 1) d (Nat.lt_succ_self _) hok
end Seat
end Go.Proofs.YtkblfapbakfgpaaGreatDoor
/- datum.Check; pagodaref01.Cut: the laws. -/
namespace Go.Proofs.YtkblfapbakfgpaaGreatDoor
open Go.AS
set_option linter.unusedVariables false
set_option linter.unusedSimpArgs false
set_option maxRecDepth 100000
namespace Seat
def chkD (d : Dat) : Int := if formedD d = false then 4 else if 100000 < w64 (parts d) then 3 else if 1000 < (deepN d : Int) then 3 else 0
noncomputable def chkS (f : Nat) (args : List PV) : Option (PV × Ob) := match f, args with
  | 35, [.agg cs] => some (.bool (ofCells formedD false cs), [(isGood cs, true)])
  | 36, [.agg cs] => some (.int .i64 (ofCells (fun d => w64 (parts d)) 0 cs), [(isGood cs, true)])
  | 37, [.agg cs] => some (.int .i64 (ofCells (fun d => (deepN d : Int)) 0 cs), [(isGood cs, true)])
  | _, _ => none
theorem chkS_ok (f : Nat) (args : List PV) (r : PV) (o : Ob) (h : chkS f args = some (r, o)) (ho : ∀ p ∈ o, p.1 = p.2) (_ : pureL args = true) : Pure G0 f args (fun x => x = r) := by
  unfold chkS at h
  split at h
  · cases h
    obtain ⟨d, rfl, h1⟩ := isGood_of (ho _ (List.mem_singleton.2 rfl))
    rw [ofCells_at]; exact dformed_ok d h1.1
  · cases h
    obtain ⟨d, rfl, h1⟩ := isGood_of (ho _ (List.mem_singleton.2 rfl))
    rw [ofCells_at]; exact dparts_ok d h1
  · cases h
    obtain ⟨d, rfl, h1⟩ := isGood_of (ho _ (List.mem_singleton.2 rfl))
    rw [ofCells_at]; exact ddeep_ok d h1
  · cases h
noncomputable def SK (l : List (Nat × List (Nat × Bool))) : Cfg G0 := { F := F, hF := hF, S := chkS, hS := chkS_ok, orc := orcM l }
theorem dcheck_ok (d : Dat) (hd : Good d) : Pure G0 24 [.agg d.cells] (fun r => r = .int .i64 (chkD d)) := by
  obtain ⟨k, n, s, ks⟩ := d
  have hg : isGood [.int .i64 k, .int .i64 n, .str s, .slice ks.len ks.cells] = true := isGood_at hd
  have e1 : ∀ {α : Type} (f : Dat → α) (z : α), ofCells f z [.int .i64 k, .int .i64 n, .str s, .slice ks.len ks.cells] = f (.mk k n s ks) := fun f z => ofCells_at f z (.mk k n s ks)
  by_cases h1 : formedD (.mk k n s ks) = false
  · have : chkD (.mk k n s ks) = 4 := by simp [chkD, h1]
    rw [this]
    exact Pure.runO (S := SK [(16, [(5, false)])]) 60 (o := [(true, true), (isGood [.int .i64 k, .int .i64 n, .str s, .slice ks.len ks.cells], true), (ofCells formedD false [.int .i64 k, .int .i64 n, .str s, .slice ks.len ks.cells], false)]) (by kernel_rfl) (by simp [okO, hg, e1, h1])
  · simp only [Bool.not_eq_false] at h1
    by_cases h2 : 100000 < w64 (parts (.mk k n s ks))
    · have : chkD (.mk k n s ks) = 3 := by simp [chkD, h1, h2]
      rw [this]
      exact Pure.runO (S := SK [(16, [(5, true), (10, true)])]) 60 (o := [(true, true), (isGood [.int .i64 k, .int .i64 n, .str s, .slice ks.len ks.cells], true), (ofCells formedD false [.int .i64 k, .int .i64 n, .str s, .slice ks.len ks.cells], true), (true, true), (isGood [.int .i64 k, .int .i64 n, .str s, .slice ks.len ks.cells], true), (decide ((100000 : Int) < ofCells (fun d => w64 (parts d)) 0 [.int .i64 k, .int .i64 n, .str s, .slice ks.len ks.cells]), true)]) (by kernel_rfl) (by simp [okO, hg, e1, h1, h2])
    · have h2' : w64 (parts (.mk k n s ks)) ≤ 100000 := by omega
      by_cases h3 : 1000 < (deepN (.mk k n s ks) : Int)
      · have : chkD (.mk k n s ks) = 3 := by simp only [chkD, h1, h2, h3, if_true, if_false]; rfl
        rw [this]
        exact Pure.runO (S := SK [(16, [(5, true), (10, false), (14, true)])]) 60 (o := [(true, true), (isGood [.int .i64 k, .int .i64 n, .str s, .slice ks.len ks.cells], true), (ofCells formedD false [.int .i64 k, .int .i64 n, .str s, .slice ks.len ks.cells], true), (true, true), (isGood [.int .i64 k, .int .i64 n, .str s, .slice ks.len ks.cells], true), (decide ((100000 : Int) < ofCells (fun d => w64 (parts d)) 0 [.int .i64 k, .int .i64 n, .str s, .slice ks.len ks.cells]), false), (true, true), (isGood [.int .i64 k, .int .i64 n, .str s, .slice ks.len ks.cells], true), (decide ((1000 : Int) < ofCells (fun d => (deepN d : Int)) 0 [.int .i64 k, .int .i64 n, .str s, .slice ks.len ks.cells]), true)]) (by kernel_rfl) (by simp only [okO, List.forall_mem_cons, List.not_mem_nil, false_imp_iff, implies_true, and_true, hg, e1, h1, true_and, decide_eq_true_eq, decide_eq_false_iff_not]; exact ⟨h2, h3⟩)
      · have : chkD (.mk k n s ks) = 0 := by simp only [chkD, h1, h2, h3, if_true, if_false]; rfl
        rw [this]
        exact Pure.runO (S := SK [(16, [(5, true), (10, false), (14, false)])]) 60 (o := [(true, true), (isGood [.int .i64 k, .int .i64 n, .str s, .slice ks.len ks.cells], true), (ofCells formedD false [.int .i64 k, .int .i64 n, .str s, .slice ks.len ks.cells], true), (true, true), (isGood [.int .i64 k, .int .i64 n, .str s, .slice ks.len ks.cells], true), (decide ((100000 : Int) < ofCells (fun d => w64 (parts d)) 0 [.int .i64 k, .int .i64 n, .str s, .slice ks.len ks.cells]), false), (true, true), (isGood [.int .i64 k, .int .i64 n, .str s, .slice ks.len ks.cells], true), (decide ((1000 : Int) < ofCells (fun d => (deepN d : Int)) 0 [.int .i64 k, .int .i64 n, .str s, .slice ks.len ks.cells]), false)]) (by kernel_rfl) (by simp only [okO, List.forall_mem_cons, List.not_mem_nil, false_imp_iff, implies_true, and_true, hg, e1, h1, true_and, decide_eq_true_eq, decide_eq_false_iff_not]; exact ⟨h2, h3⟩)
theorem cut_ok (d : Dat) (hd : d.ok) (p dp : Int) (h : 1 ≤ dp ∧ dp ≤ 4611686018427387904 ∧ 1 ≤ p ∧ p ≤ 1000000) : Pure G0 15 [.agg d.cells, .int .i64 p, .int .i64 dp] (fun r => r = .agg (cutD d dp p).1.cells) := by
  obtain ⟨k, n, s, ks⟩ := d
  obtain ⟨k2, n2, s2, ks2, e⟩ := Dat.is_mk (cutD (.mk k n s ks) dp p).1
  have e1 : ofCells (fun d => (cutD d dp p).1.cells) [] [.int .i64 k, .int .i64 n, .str s, .slice ks.len ks.cells] = (cutD (.mk k n s ks) dp p).1.cells := ofCells_at _ _ (.mk k n s ks)
  rw [e]
  exact Pure.runO (S := { SC (cutAt ((Dat.mk k n s ks).size + 1)) [] [(15, [(14, .agg [.int .i64 k2, .int .i64 n2, .str s2, .slice ks2.len ks2.cells])])] with D := fun _ => false }) 60
    (o := [(isDat ((Dat.mk k n s ks).size + 1) [.int .i64 k, .int .i64 n, .str s, .slice ks.len ks.cells], true), (decide (1 ≤ dp ∧ dp ≤ 4611686018427387904 ∧ 1 ≤ p ∧ p ≤ 1000000), true), (same (.agg (ofCells (fun d => (cutD d dp p).1.cells) [] [.int .i64 k, .int .i64 n, .str s, .slice ks.len ks.cells])) (.agg [.int .i64 k2, .int .i64 n2, .str s2, .slice ks2.len ks2.cells]), true)]) (by kernel_rfl) (fun q hq => by
      simp only [List.mem_cons, List.not_mem_nil, or_false] at hq
      rcases hq with rfl | rfl | rfl
      · exact isDat_at (d := .mk k n s ks) (Nat.lt_succ_self _) hd
      · exact decide_eq_true h
      · exact same_of (by rw [e1, e]; rfl))
mutual
theorem cutD_ok : ∀ (d : Dat) (dp p : Int), d.ok → (cutD d dp p).1.ok
  | .mk k n s ks, dp, p, h => by
    have h1 := cutL_ok ks dp (p - 1) h.2
    have h2 := cutL_len ks dp (p - 1)
    simp only [cutD, Dat.ok]
    exact ⟨by have := h.1; omega, h1⟩
theorem cutL_ok : ∀ (ks : Dats) (dp p : Int), ks.ok → (cutL ks dp p).1.ok
  | .nil, dp, p, h => by simp only [cutL, Dats.ok]
  | .cons d ds, dp, p, h => by
    simp only [cutL]
    split
    · exact ⟨cutD_ok d (dp - 1) p h.1, cutL_ok ds dp _ h.2⟩
    · trivial
theorem cutL_len : ∀ (ks : Dats) (dp p : Int), (cutL ks dp p).1.len ≤ ks.len
  | .nil, dp, p => by simp only [cutL, Dats.len]; omega
  | .cons d ds, dp, p => by
    have := cutL_len ds dp (cutD d (dp - 1) p).2
    simp only [cutL]
    split
    · simp only [Dats.len]; omega
    · simp only [Dats.len]; omega
end
end Seat
end Go.Proofs.YtkblfapbakfgpaaGreatDoor
namespace Go.Proofs.YtkblfapbakfgpaaGreatDoor
open Go.AS Go.RowKit
set_option linter.unusedVariables false
set_option linter.unusedSimpArgs false
set_option maxRecDepth 100000
namespace Seat
mutual
def textD : Dat → List UInt8
  | .mk k n s ks => if k = 1 then Go.Lib.itoa n else if k = 2 then s.data.toList else 40 :: (textL true ks ++ [41])
def textL : Bool → Dats → List UInt8
  | _, .nil => []
  | f, .cons d ds => (if f then [] else [32]) ++ (textD d ++ textL false ds)
end
theorem textL_take : ∀ (ks : Dats) (f : Bool) (j : Nat), j < ks.len → textL f (ks.take (j + 1)) = textL f (ks.take j) ++ ((if j = 0 ∧ f = true then [] else [32]) ++ textD (ks.get j))
  | .nil, f, j, h => by simp [Dats.len] at h
  | .cons d ds, f, 0, h => by cases f <;> simp [Dats.take, textL, Dats.get]
  | .cons d ds, f, j + 1, h => by
    have := textL_take ds false j (by simp only [Dats.len] at h; omega)
    simp only [Dats.take, textL, this, Dats.get]
    simp
theorem take_all : ∀ ks : Dats, ks.take ks.len = ks
  | .nil => rfl
  | .cons d ds => by simp only [Dats.len, Dats.take, take_all ds]
theorem textL_mono (ks : Dats) (f : Bool) (j : Nat) (h : j ≤ ks.len) : (textL f (ks.take j)).length ≤ (textL f ks).length := by
  have key : ∀ i, j + i ≤ ks.len → (textL f (ks.take j)).length ≤ (textL f (ks.take (j + i))).length := by
    intro i
    induction i with
    | zero => intro _; exact Nat.le_refl _
    | succ i ih =>
      intro hi
      have h1 := ih (by omega)
      have h2 := textL_take ks f (j + i) (by omega)
      rw [show j + (i + 1) = j + i + 1 from rfl, h2, List.length_append]
      omega
  have := key (ks.len - j) (by omega)
  rwa [show j + (ks.len - j) = ks.len by omega, take_all] at this
noncomputable def txC (cs : List PV) : List UInt8 := ofCells textD [] cs
theorem txC_at (d : Dat) : txC d.cells = textD d := ofCells_at _ _ d
open Classical in
noncomputable def isTx (N : Nat) (cs : List PV) : Bool := decide (∃ d : Dat, d.cells = cs ∧ d.size < N ∧ d.ok ∧ d.rng)
theorem isTx_at {N : Nat} {d : Dat} (h : d.size < N) (ho : d.ok) (hr : d.rng) : isTx N d.cells = true := by
  unfold isTx
  classical exact decide_eq_true ⟨d, rfl, h, ho, hr⟩
theorem isTx_of {N : Nat} {cs : List PV} (h : isTx N cs = true) : ∃ d : Dat, d.cells = cs ∧ d.size < N ∧ d.ok ∧ d.rng := by
  unfold isTx at h
  classical exact of_decide_eq_true h
def bR (rc : List PV) (m : Nat) : Row := ⟨rc, m, 5, 1⟩
def bB (n : Nat) : Box := ⟨[.ptr 0 0, .own 0 n], 65⟩
def bB0 : Box := ⟨[.nilptr, .nil], 65⟩
def PutAt (N : Nat) : Prop := ∀ d : Dat, d.size < N → d.ok → d.rng → ∀ (rc : List PV) (m : Nat), m + (textD d).length ≤ 140737488355328 →
  RCalls G0 56 [.ptr 0 0, .agg d.cells] ⟨[bB m], [some (bR rc m)]⟩ (fun o H => o = .ret (.tup []) ∧ H = ⟨[bB (m + (textD d).length)], [some (bR (rc ++ bytesPL (textD d)) (m + (textD d).length))]⟩)
noncomputable def putV (N : Nat) (f : Nat) (xs : List PV) (H : Hp) : Option (PV × Hp × Ob) := match f, xs, H with
  | 56, [.ptr 0 0, .agg cs], ⟨[⟨[.ptr 0 0, .own 0 n], ty⟩], [some ⟨rc, m, e, 1⟩]⟩ => match Nat.beq ty 65 && Nat.beq e 5 with
    | true => some (.tup [], ⟨[⟨[.ptr 0 0, .own 0 (m + (txC cs).length)], ty⟩], [some ⟨rc ++ bytesPL (txC cs), m + (txC cs).length, e, 1⟩]⟩, [(isTx N cs, true), (Nat.beq n m, true), (Nat.ble (m + (txC cs).length) 140737488355328, true)])
    | false => none
  | _, _, _ => none
noncomputable def putV2 (N : Nat) (f : Nat) (xs : List PV) (H : Hp) : Option (PV × Hp × Ob) := match putV N f xs H with
  | some r => some r
  | none => ccV f xs H
theorem putV_ok {N : Nat} (ih : PutAt N) (f : Nat) (xs : List PV) (H : Hp) (r : PV) (H' : Hp) (o : Ob) (h : putV N f xs H = some (r, H', o)) (ho : ∀ p ∈ o, p.1 = p.2) : RCalls G0 f xs H (fun o' H2 => o' = .ret r ∧ H2 = H') ∧ r.scP (belowN H'.bx.length) (belowN H'.rw.length) = true ∧ H'.scB H'.bx.length H'.rw.length = true := by
  unfold putV at h
  split at h
  · rename_i cs n ty rc m e
    split at h
    · rename_i hc
      cases h
      simp only [Bool.and_eq_true, Nat.beq_eq] at hc
      obtain ⟨rfl, rfl⟩ := hc
      obtain ⟨d, rfl, h1, h2, h3⟩ := isTx_of (ho (isTx N cs, true) (by simp))
      have h4 := ho (Nat.beq n m, true) (by simp)
      have h5 := ho (Nat.ble (m + (txC d.cells).length) 140737488355328, true) (by simp)
      simp only [Nat.beq_eq, Nat.ble_eq] at h4 h5
      subst h4
      rw [txC_at] at h5 ⊢
      exact ⟨ih d h1 h2 h3 rc n h5, rfl, rfl⟩
    · cases h
  · cases h
theorem putV2_ok {N : Nat} (ih : PutAt N) (f : Nat) (xs : List PV) (H : Hp) (r : PV) (H' : Hp) (o : Ob) (h : putV2 N f xs H = some (r, H', o)) (ho : ∀ p ∈ o, p.1 = p.2) : RCalls G0 f xs H (fun o' H2 => o' = .ret r ∧ H2 = H') ∧ r.scP (belowN H'.bx.length) (belowN H'.rw.length) = true ∧ H'.scB H'.bx.length H'.rw.length = true := by
  unfold putV2 at h
  split at h
  · rename_i x hx
    cases h
    exact putV_ok ih f xs H r H' o hx ho
  · exact ccV_ok f xs H r H' o h ho
def fmtS (f : Nat) (args : List PV) : Option (PV × Ob) := match f, args with
  | 69, [.int .i64 n, .int .i64 10] => some (.str (mkS (Go.Lib.itoa n)), [(decide (-9223372036854775808 ≤ n ∧ n ≤ 9223372036854775807), true)])
  | 65, [.int .i64 n] => some (.str (mkS (Go.Lib.itoa n)), [(decide (-9223372036854775808 ≤ n ∧ n ≤ 9223372036854775807), true)])
  | _, _ => none
theorem fmtS_ok (f : Nat) (args : List PV) (r : PV) (o : Ob) (h : fmtS f args = some (r, o)) (ho : ∀ p ∈ o, p.1 = p.2) (_ : pureL args = true) : Pure G0 f args (fun x => x = r) := by
  unfold fmtS at h
  split at h
  · rename_i n _
    cases h
    have := of_decide_eq_true (ho _ (List.mem_singleton.2 rfl))
    exact formatInt n this.1 this.2
  · rename_i n _
    cases h
    have := of_decide_eq_true (ho _ (List.mem_singleton.2 rfl))
    exact dec_ref n this.1 this.2
  · cases h
noncomputable def SP {N : Nat} (ih : PutAt N) (l : List (Nat × List (Nat × Bool))) (v : List (Nat × List (Nat × PV))) : Cfg G0 := { F := F, hF := hF, S := fmtS, hS := fmtS_ok, V := putV2 N, hV := putV2_ok ih, hp := hpB, D := hpB, orc := orcM l, val := valM v }
def BSt (B : Box) (rws : List (Option Row)) (rc : List PV) (m : Nat) : Prop := (B = bB m ∧ rws = [some (bR rc m)]) ∨ (B = bB0 ∧ rws = [] ∧ rc = [] ∧ m = 0)
def DB (k n : Int) (s : ByteArray) (ks : Dats) : Box := ⟨[.int .i64 k, .int .i64 n, .str s, .slice ks.len ks.cells], 24⟩
theorem put_gen {N : Nat} (ih : PutAt N) (d : Dat) (hN : d.size < N + 1) (hok : d.ok) (hrng : d.rng) (B : Box) (rws : List (Option Row)) (rc : List PV) (m : Nat) (hB : BSt B rws rc m) (hm : m + (textD d).length ≤ 140737488355328) :
    RCalls G0 56 [.ptr 0 0, .agg d.cells] ⟨[B], rws⟩ (fun o H => o = .ret (.tup []) ∧ H = ⟨[bB (m + (textD d).length)], [some (bR (rc ++ bytesPL (textD d)) (m + (textD d).length))]⟩) := by
  obtain ⟨k, n, s, ks⟩ := d
  have hlen := hok.1
  refine Fn.enterH Tryz.func56 Tryz.ntmps56 rfl (Nat.le_of_ble_eq_true rfl) fun C fr fp hnt hnb hfr => ?_
  have fin : ∀ st l, l = textD (.mk k n s ks) → nrm [0] st = ⟨[(0, .ptr 0 0)], ⟨[bB (m + l.length), DB k n s ks], [some (bR (rc ++ bytesPL l) (m + l.length))]⟩⟩ → fr st := fun st l hl hs => hfr st [0] (by
    rw [hs, ← hl]
    rcases hB with ⟨rfl, rfl⟩ | ⟨rfl, rfl, _, _⟩
    · exact ⟨1, 1, .tup [], Nat.le_refl _, Nat.le_succ _, Nat.le_refl _, Nat.le_refl _, rfl, rfl, rfl, rfl, rfl⟩
    · exact ⟨1, 1, .tup [], Nat.le_refl _, Nat.le_succ _, Nat.zero_le _, Nat.le_refl _, rfl, rfl, rfl, rfl, rfl⟩)
  by_cases h1 : k = 1
  · have c1 : (k == (1 : Int)) = true := by simpa using h1
    have c2 : decide (-9223372036854775808 ≤ n ∧ n ≤ 9223372036854775807) = true := decide_eq_true hrng.1
    have ht : textD (.mk k n s ks) = Go.Lib.itoa n := by rw [textD, if_pos h1]
    rw [ht] at hm
    have c3 : Nat.ble (m + ByteArray.size (mkS (Lib.itoa n))) 140737488355328 = true := by rw [Nat.ble_eq, mkS_size]; exact hm
    rcases hB with ⟨rfl, rfl⟩ | ⟨rfl, rfl, rfl, rfl⟩
    · exact SWP.runQ (SP ih [(41, [(29, true)]), (19, [(14, true)])] []) 100 41 hnt [0] (e := .normal) (z := ⟨[(0, .ptr 0 0)], ⟨[⟨[.ptr 0 0, .own 0 (m + ByteArray.size (mkS (Lib.itoa n)))], 65⟩, ⟨[.int .i64 k, .int .i64 n, .str s, .slice (Dats.len ks) (Dats.cells ks)], 24⟩], [some ⟨rc ++ bytesPV (mkS (Lib.itoa n)), m + ByteArray.size (mkS (Lib.itoa n)), 5, 1⟩]⟩⟩) (o := [(k == (1 : Int), true), (true, true), (decide (-9223372036854775808 ≤ n ∧ n ≤ 9223372036854775807), true), (Nat.ble (m + ByteArray.size (mkS (Lib.itoa n))) 140737488355328, true)]) (by kernel_rfl) (by repeat' first | exact okO_nil | refine okN ?_ ?_ | assumption | rfl) (fun st hs => fin st _ ht.symm hs)
    · exact SWP.runQ (SP ih [(41, [(29, true)]), (19, [(14, true)])] []) 100 41 hnt [0] (e := .normal) (z := ⟨[(0, .ptr 0 0)], ⟨[⟨[.ptr 0 0, .own 0 (0 + ByteArray.size (mkS (Lib.itoa n)))], 65⟩, ⟨[.int .i64 k, .int .i64 n, .str s, .slice (Dats.len ks) (Dats.cells ks)], 24⟩], [some ⟨[] ++ bytesPV (mkS (Lib.itoa n)), 0 + ByteArray.size (mkS (Lib.itoa n)), 5, 1⟩]⟩⟩) (o := [(k == (1 : Int), true), (true, true), (decide (-9223372036854775808 ≤ n ∧ n ≤ 9223372036854775807), true), (Nat.ble (0 + ByteArray.size (mkS (Lib.itoa n))) 140737488355328, true)]) (by kernel_rfl) (by repeat' first | exact okO_nil | refine okN ?_ ?_ | assumption | rfl) (fun st hs => fin st _ ht.symm hs)
  by_cases h2 : k = 2
  · have c1 : (k == (1 : Int)) = false := by simpa using h1
    have c2 : (k == (2 : Int)) = true := by simpa using h2
    have ht : textD (.mk k n s ks) = s.data.toList := by rw [textD, if_neg h1, if_pos h2]
    rw [ht] at hm
    have c3 : Nat.ble (m + ByteArray.size s) 140737488355328 = true := by rw [Nat.ble_eq]; exact hm
    rcases hB with ⟨rfl, rfl⟩ | ⟨rfl, rfl, rfl, rfl⟩
    · exact SWP.runQ (SP ih [(41, [(29, false), (36, true)]), (19, [(14, true)])] []) 100 41 hnt [0] (e := .normal) (z := ⟨[(0, .ptr 0 0)], ⟨[⟨[.ptr 0 0, .own 0 (m + ByteArray.size s)], 65⟩, ⟨[.int .i64 k, .int .i64 n, .str s, .slice (Dats.len ks) (Dats.cells ks)], 24⟩], [some ⟨rc ++ bytesPV s, m + ByteArray.size s, 5, 1⟩]⟩⟩) (o := [(k == (1 : Int), false), (k == (2 : Int), true), (Nat.ble (m + ByteArray.size s) 140737488355328, true)]) (by kernel_rfl) (by repeat' first | exact okO_nil | refine okN ?_ ?_ | assumption | rfl) (fun st hs => fin st _ ht.symm hs)
    · exact SWP.runQ (SP ih [(41, [(29, false), (36, true)]), (19, [(14, true)])] []) 100 41 hnt [0] (e := .normal) (z := ⟨[(0, .ptr 0 0)], ⟨[⟨[.ptr 0 0, .own 0 (0 + ByteArray.size s)], 65⟩, ⟨[.int .i64 k, .int .i64 n, .str s, .slice (Dats.len ks) (Dats.cells ks)], 24⟩], [some ⟨[] ++ bytesPV s, 0 + ByteArray.size s, 5, 1⟩]⟩⟩) (o := [(k == (1 : Int), false), (k == (2 : Int), true), (Nat.ble (0 + ByteArray.size s) 140737488355328, true)]) (by kernel_rfl) (by repeat' first | exact okO_nil | refine okN ?_ ?_ | assumption | rfl) (fun st hs => fin st _ ht.symm hs)
  have ht : textD (.mk k n s ks) = 40 :: (textL true ks ++ [41]) := by rw [textD, if_neg h1, if_neg h2]
  have htl : (textD (.mk k n s ks)).length = (textL true ks).length + 2 := by rw [ht]; simp
  rw [htl] at hm
  have c1 : (k == (1 : Int)) = false := by simpa using h1
  have c2 : (k == (2 : Int)) = false := by simpa using h2
  have hks : ks.size < N + 1 := by simp only [Dat.size] at hN; omega
  refine Q.runSeq S0 50 41 hnt [0, 3] (z := ⟨[(0, .ptr 0 0), (3, .ptr 1 0)], ⟨[B, DB k n s ks], rws⟩⟩) (o := []) (by kernel_rfl) okO_nil ?_
  refine Q.runSeq S0 50 41 hnt [0, 3, 7] (z := ⟨[(0, .ptr 0 0), (3, .ptr 1 0), (7, .int .i64 k)], ⟨[B, DB k n s ks], rws⟩⟩) (o := []) (by kernel_rfl) okO_nil ?_
  refine Q.block ?_
  refine Q.runSeq (SP ih [(41, [(29, false)])] []) 50 41 hnt [0, 3, 7, 28] (z := ⟨[(0, .ptr 0 0), (3, .ptr 1 0), (7, .int .i64 k), (28, .bool false)], ⟨[B, DB k n s ks], rws⟩⟩) (o := [(k == (1 : Int), false)]) (by kernel_rfl) (by repeat' first | exact okO_nil | refine okN ?_ ?_ | assumption | rfl) ?_
  refine Q.cond (b := false) rfl (fun h => by cases h) (fun _ => ?_)
  refine Q.runSeq (SP ih [(41, [(36, false)])] []) 50 41 hnt [0, 3, 35] (z := ⟨[(0, .ptr 0 0), (3, .ptr 1 0), (35, .bool false)], ⟨[B, DB k n s ks], rws⟩⟩) (o := [(k == (2 : Int), false)]) (by kernel_rfl) (by repeat' first | exact okO_nil | refine okN ?_ ?_ | assumption | rfl) ?_
  refine Q.cond (b := false) rfl (fun h => by cases h) (fun _ => ?_)
  refine Q.seq fun K hK => ?_
  have rest : ∀ st, nrm [0, 3] st = ⟨[(0, .ptr 0 0), (3, .ptr 1 0)], ⟨[bB (m + 1), DB k n s ks], [some (bR (rc ++ [.int .u8 40]) (m + 1))]⟩⟩ → K st := fun st hs => hK st (.norm [0, 3] (by
    rw [hs]
    clear hs hK
    let P (j : Nat) : List UInt8 := 40 :: textL true (ks.take j)
    have hP : ∀ j, j ≤ ks.len → (P j).length ≤ (textL true ks).length + 1 := fun j hj => by
      have := textL_mono ks true j hj
      simp only [P, List.length_cons]
      omega
    let T (j : Nat) : AS := ⟨[(0, .ptr 0 0), (3, .ptr 1 0), (11, .slice ks.len ks.cells), (12, .int .i64 ks.len), (13, .int .i64 j)], ⟨[bB (m + (P j).length), DB k n s ks], [some (bR (rc ++ bytesPL (P j)) (m + (P j).length))]⟩⟩
    refine Q.seq fun K2 hK2 => ?_
    have h0 : bytesPL (P 0) = [.int .u8 40] := by
      have : P 0 = [40] := by simp only [P]; cases ks <;> rfl
      rw [this]; rfl
    have hP0 : (P 0).length = 1 := by
      have : P 0 = [40] := by simp only [P]; cases ks <;> rfl
      rw [this]; rfl
    refine Q.runSeq S0 50 41 hnt [0, 3, 11, 12, 13] (z := T 0) (o := []) (by simp only [T, hP0, h0]; kernel_rfl) okO_nil ?_
    refine Q.block ?_
    refine Q.loopH (σ := { j : Nat // j ≤ ks.len }) [0, 3, 11, 12, 13] 2 (by rw [hnb]; exact (by decide : 1 ≤ 2)) (fun j => T j.1) (fun j => ks.len - j.1) ⟨0, Nat.zero_le _⟩ (fun j => ⟨rfl, rfl, rfl⟩) ⟨[], by simp only [List.append_nil]; rfl⟩ fun ⟨j, hj⟩ => ?_
    rcases Nat.lt_or_ge j ks.len with hlt | hge
    · obtain ⟨k', n', s', ks', hget⟩ := Dats.get_mk ks j
      have hsz := Dats.get_size ks j hlt
      have hoj := Dats.get_ok ks j hlt hok.2
      have hrj := Dats.get_rng ks j hlt hrng.2
      have htk := textL_take ks true j hlt
      have hPj := hP (j + 1) hlt
      rw [hget] at hsz hoj hrj htk
      have tx : txC [PV.int IntKind.i64 k', PV.int IntKind.i64 n', PV.str s', PV.slice (Dats.len ks') (Dats.cells ks')] = textD (.mk k' n' s' ks') := txC_at (.mk k' n' s' ks')
      have d1 : isTx N [PV.int IntKind.i64 k', PV.int IntKind.i64 n', PV.str s', PV.slice (Dats.len ks') (Dats.cells ks')] = true := isTx_at (d := .mk k' n' s' ks') (by omega) hoj hrj
      have d2 := lt_at hlt
      have d3 := in_at hlt
      have d4 : decide (TD.size d24 ≤ List.length (List.drop (Int.toNat (j : Int) * TD.size d24) (Dats.cells ks))) = true := kid_len hlt
      have d5 := kid_same' hlt hget
      have wj := wrap1 j (by omega)
      obtain ⟨rcj, hrc⟩ : ∃ x, x = rc ++ bytesPL (P j) := ⟨_, rfl⟩
      obtain ⟨mj, hmj⟩ : ∃ x, x = m + (P j).length := ⟨_, rfl⟩
      show SWP G0 C _ _ ⟨[(0, .ptr 0 0), (3, .ptr 1 0), (11, .slice ks.len ks.cells), (12, .int .i64 ks.len), (13, .int .i64 j)], ⟨[bB (m + (P j).length), DB k n s ks], [some (bR (rc ++ bytesPL (P j)) (m + (P j).length))]⟩⟩
      rw [← hrc, ← hmj]
      by_cases hj0 : j = 0
      · have hPs : P (j + 1) = P j ++ textD (.mk k' n' s' ks') := by
          simp only [P, htk]
          rw [if_pos ⟨hj0, trivial⟩]; rfl
        have d6 : decide (0 < (j : Int)) = false := by simp [hj0]
        rw [hPs, List.length_append] at hPj
        have d7 : Nat.ble (mj + List.length (txC [PV.int IntKind.i64 k', PV.int IntKind.i64 n', PV.str s', PV.slice (Dats.len ks') (Dats.cells ks')])) 140737488355328 = true := by rw [tx, Nat.ble_eq]; omega
        refine SWP.runQ (SP ih [(41, [(14, true), (16, true), (17, true), (19, false)]), (17, [(14, true)])] [(41, [(17, .agg [.int .i64 k', .int .i64 n', .str s', .slice ks'.len ks'.cells])])]) 100 41 hnt [0, 3, 11, 12, 13] (e := .normal) (z := ⟨[(0, .ptr 0 0), (3, .ptr 1 0), (11, .slice (Dats.len ks) (Dats.cells ks)), (12, .int .i64 (Int.ofNat (Dats.len ks))), (13, .int .i64 (IntKind.wrap IntKind.i64 (Int.ofNat (j + 1))))], ⟨[⟨[.ptr 0 0, .own 0 (mj + List.length (txC [.int .i64 k', .int .i64 n', .str s', .slice (Dats.len ks') (Dats.cells ks')]))], 65⟩, ⟨[.int .i64 k, .int .i64 n, .str s, .slice (Dats.len ks) (Dats.cells ks)], 24⟩, ⟨[.int .i64 k', .int .i64 n', .str s', .slice (Dats.len ks') (Dats.cells ks')], 24⟩], [some ⟨rcj ++ bytesPL (txC [.int .i64 k', .int .i64 n', .str s', .slice (Dats.len ks') (Dats.cells ks')]), mj + List.length (txC [.int .i64 k', .int .i64 n', .str s', .slice (Dats.len ks') (Dats.cells ks')]), 5, 1⟩]⟩⟩) (o := [(decide ((↑j : Int) < (↑(Dats.len ks) : Int)), true), (true, true), (decide (0 ≤ (↑j : Int) ∧ (↑j : Int) < (↑(Dats.len ks) : Int)), true), (decide (TD.size d24 ≤ List.length (List.drop (Int.toNat (↑j : Int) * TD.size d24) (Dats.cells ks))), true), (same (PV.agg (List.take 4 (List.drop (Int.toNat (Int.ofNat j) * 4) (Dats.cells ks)))) (PV.agg [PV.int IntKind.i64 k', PV.int IntKind.i64 n', PV.str s', PV.slice (Dats.len ks') (Dats.cells ks')]), true), (decide (0 < (↑j : Int)), false), (false, false), (isTx N [PV.int IntKind.i64 k', PV.int IntKind.i64 n', PV.str s', PV.slice (Dats.len ks') (Dats.cells ks')], true), (Nat.beq mj mj, true), (Nat.ble (mj + List.length (txC [PV.int IntKind.i64 k', PV.int IntKind.i64 n', PV.str s', PV.slice (Dats.len ks') (Dats.cells ks')])) 140737488355328, true)]) (by kernel_rfl) (by ((repeat' (first | exact okO_nil | refine okN ?_ ?_)); all_goals first | assumption | rfl | exact same_of rfl | exact sameS_self _ | (simp only [decide_eq_true_eq, decide_eq_false_iff_not, Nat.ble_eq, Nat.beq_eq, beq_eq_false_iff_ne, beq_iff_eq, ne_eq] <;> omega))) (fun st hs => ⟨⟨j + 1, hlt⟩, Nat.sub_lt_sub_left hlt (Nat.lt_succ_self j), [DB k' n' s' ks'], ?_⟩)
        rw [hs, tx, hrc, hmj]
        simp only [T, hPs, bytesPL_append, List.length_append]
        rw [show IntKind.wrap IntKind.i64 (Int.ofNat (j + 1)) = ((j + 1 : Nat) : Int) from wj, List.append_assoc, Nat.add_assoc]
        rfl
      · have hPs : P (j + 1) = P j ++ [32] ++ textD (.mk k' n' s' ks') := by
          simp only [P, htk]
          rw [if_neg (fun h => hj0 h.1)]
          simp
        have d6 : decide (0 < (j : Int)) = true := by simp; omega
        rw [hPs, List.length_append, List.length_append] at hPj
        simp only [List.length_cons, List.length_nil] at hPj
        have d7 : Nat.ble (mj + 1 + List.length (txC [PV.int IntKind.i64 k', PV.int IntKind.i64 n', PV.str s', PV.slice (Dats.len ks') (Dats.cells ks')])) 140737488355328 = true := by rw [tx, Nat.ble_eq]; omega
        have d8 : Nat.ble ((mj + 1) * 1) 140737488355328 = true := by rw [Nat.ble_eq]; omega
        have d9 : Nat.ble (mj + 1) 9223372036854775807 = true := by rw [Nat.ble_eq]; omega
        refine SWP.runQ (SP ih [(41, [(14, true), (16, true), (17, true), (19, true)]), (17, [(14, true)])] [(41, [(17, .agg [.int .i64 k', .int .i64 n', .str s', .slice ks'.len ks'.cells])])]) 100 41 hnt [0, 3, 11, 12, 13] (e := .normal) (z := ⟨[(0, .ptr 0 0), (3, .ptr 1 0), (11, .slice (Dats.len ks) (Dats.cells ks)), (12, .int .i64 (Int.ofNat (Dats.len ks))), (13, .int .i64 (IntKind.wrap IntKind.i64 (Int.ofNat (j + 1))))], ⟨[⟨[.ptr 0 0, .own 0 (mj + 1 + List.length (txC [.int .i64 k', .int .i64 n', .str s', .slice (Dats.len ks') (Dats.cells ks')]))], 65⟩, ⟨[.int .i64 k, .int .i64 n, .str s, .slice (Dats.len ks) (Dats.cells ks)], 24⟩, ⟨[.int .i64 k', .int .i64 n', .str s', .slice (Dats.len ks') (Dats.cells ks')], 24⟩], [some ⟨rcj ++ [PV.int IntKind.u8 (32 : Int)] ++ bytesPL (txC [.int .i64 k', .int .i64 n', .str s', .slice (Dats.len ks') (Dats.cells ks')]), mj + 1 + List.length (txC [.int .i64 k', .int .i64 n', .str s', .slice (Dats.len ks') (Dats.cells ks')]), 5, 1⟩]⟩⟩) (o := [(decide ((↑j : Int) < (↑(Dats.len ks) : Int)), true), (true, true), (decide (0 ≤ (↑j : Int) ∧ (↑j : Int) < (↑(Dats.len ks) : Int)), true), (decide (TD.size d24 ≤ List.length (List.drop (Int.toNat (↑j : Int) * TD.size d24) (Dats.cells ks))), true), (same (PV.agg (List.take 4 (List.drop (Int.toNat (Int.ofNat j) * 4) (Dats.cells ks)))) (PV.agg [PV.int IntKind.i64 k', PV.int IntKind.i64 n', PV.str s', PV.slice (Dats.len ks') (Dats.cells ks')]), true), (decide (0 < (↑j : Int)), true), (true, true), (true, true), (Nat.ble ((mj + 1) * 1) 140737488355328, true), (Nat.ble (mj + 1) 9223372036854775807, true), (isTx N [PV.int IntKind.i64 k', PV.int IntKind.i64 n', PV.str s', PV.slice (Dats.len ks') (Dats.cells ks')], true), (Nat.beq (mj + 1) (mj + 1), true), (Nat.ble (mj + 1 + List.length (txC [PV.int IntKind.i64 k', PV.int IntKind.i64 n', PV.str s', PV.slice (Dats.len ks') (Dats.cells ks')])) 140737488355328, true)]) (by kernel_rfl) (by ((repeat' (first | exact okO_nil | refine okN ?_ ?_)); all_goals first | assumption | rfl | exact same_of rfl | exact sameS_self _ | (simp only [decide_eq_true_eq, decide_eq_false_iff_not, Nat.ble_eq, Nat.beq_eq, beq_eq_false_iff_ne, beq_iff_eq, ne_eq] <;> omega))) (fun st hs => ⟨⟨j + 1, hlt⟩, Nat.sub_lt_sub_left hlt (Nat.lt_succ_self j), [DB k' n' s' ks'], ?_⟩)
        rw [hs, tx, hrc, hmj]
        simp only [T, hPs, bytesPL_append, List.length_append]
        rw [show IntKind.wrap IntKind.i64 (Int.ofNat (j + 1)) = ((j + 1 : Nat) : Int) from wj]
        simp only [List.append_assoc, Nat.add_assoc]
        rfl
    · obtain rfl : j = ks.len := by omega
      have d2 := ge_at hge
      have hPl : P ks.len = 40 :: textL true ks := by simp only [P, take_all]
      refine SWP.runQ (SP ih [(41, [(14, false)])] []) 100 41 hnt [0, 3] (e := .exit 1) (z := ⟨[(0, .ptr 0 0), (3, .ptr 1 0)], ⟨[bB (m + (P ks.len).length), DB k n s ks], [some (bR (rc ++ bytesPL (P ks.len)) (m + (P ks.len).length))]⟩⟩) (o := [(decide ((ks.len : Int) < (ks.len : Int)), false), (false, false)]) (by kernel_rfl) (by repeat' first | exact okO_nil | refine okN ?_ ?_ | assumption | rfl) (fun st hs => hK2 st (.norm [0, 3] ?_))
      rw [hs]
      have hl2 : (P ks.len).length = (textL true ks).length + 1 := by rw [hPl]; rfl
      have d8 : Nat.ble ((m + (P ks.len).length + 1) * 1) 140737488355328 = true := by rw [Nat.ble_eq]; omega
      have d9 : Nat.ble (m + (P ks.len).length + 1) 9223372036854775807 = true := by rw [Nat.ble_eq]; omega
      refine SWP.runQ (SP ih [(17, [(14, true)])] []) 100 41 hnt [0] (e := .normal) (z := ⟨[(0, .ptr 0 0)], ⟨[bB (m + (P ks.len).length + 1), DB k n s ks], [some (bR (rc ++ bytesPL (P ks.len) ++ [.int .u8 41]) (m + (P ks.len).length + 1))]⟩⟩) (o := [(true, true), (Nat.ble ((m + (P ks.len).length + 1) * 1) 140737488355328, true), (Nat.ble (m + (P ks.len).length + 1) 9223372036854775807, true)]) (by kernel_rfl) (by repeat' first | exact okO_nil | refine okN ?_ ?_ | assumption | rfl) (fun st hs => fin st (P ks.len ++ [41]) ?_ ?_)
      · rw [ht, hPl]; rfl
      · rw [hs]
        simp only [bytesPL_append, List.length_append, List.append_assoc, Nat.add_assoc]
        rfl))
  rcases hB with ⟨rfl, rfl⟩ | ⟨rfl, rfl, rfl, rfl⟩
  · have d8 : Nat.ble ((m + 1) * 1) 140737488355328 = true := by rw [Nat.ble_eq]; omega
    have d9 : Nat.ble (m + 1) 9223372036854775807 = true := by rw [Nat.ble_eq]; omega
    exact SWP.runQ (SP ih [(17, [(14, true)])] []) 100 41 hnt [0, 3] (e := .normal) (z := ⟨[(0, .ptr 0 0), (3, .ptr 1 0)], ⟨[⟨[.ptr 0 0, .own 0 (m + 1)], 65⟩, ⟨[.int .i64 k, .int .i64 n, .str s, .slice (Dats.len ks) (Dats.cells ks)], 24⟩], [some ⟨rc ++ [PV.int IntKind.u8 (40 : Int)], m + 1, 5, 1⟩]⟩⟩) (o := [(true, true), (Nat.ble ((m + 1) * 1) 140737488355328, true), (Nat.ble (m + 1) 9223372036854775807, true)]) (by kernel_rfl) (by repeat' first | exact okO_nil | refine okN ?_ ?_ | assumption | rfl) (fun st hs => rest st hs)
  · exact SWP.runQ (SP ih [(17, [(14, true)])] []) 100 41 hnt [0, 3] (e := .normal) (z := ⟨[(0, .ptr 0 0), (3, .ptr 1 0)], ⟨[⟨[.ptr 0 0, .own 0 1], 65⟩, ⟨[.int .i64 k, .int .i64 n, .str s, .slice (Dats.len ks) (Dats.cells ks)], 24⟩], [some ⟨[PV.int IntKind.u8 (40 : Int)], 1, 5, 1⟩]⟩⟩) (o := [(true, true), (true, true), (true, true)]) (by kernel_rfl) (by repeat' first | exact okO_nil | refine okN ?_ ?_ | assumption | rfl) (fun st hs => rest st hs)
theorem putAt (N : Nat) : PutAt N := by
  induction N with
  | zero => intro d h; omega
  | succ N ih => exact fun d hN hok hrng rc m hm => put_gen ih d hN hok hrng _ _ rc m (.inl ⟨rfl, rfl⟩) hm
theorem put_new (d : Dat) (hok : d.ok) (hrng : d.rng) (hm : (textD d).length ≤ 140737488355328) :
    RCalls G0 56 [.ptr 0 0, .agg d.cells] ⟨[bB0], []⟩ (fun o H => o = .ret (.tup []) ∧ H = ⟨[bB ((textD d).length)], [some (bR (bytesPL (textD d)) ((textD d).length))]⟩) := by
  have := put_gen (putAt (d.size + 1)) d (by omega) hok hrng bB0 [] [] 0 (.inr ⟨rfl, rfl, rfl, rfl⟩) (by omega)
  simpa using this
end Seat
end Go.Proofs.YtkblfapbakfgpaaGreatDoor
namespace Go.Proofs.YtkblfapbakfgpaaGreatDoor
open Go.AS Go.RowKit
set_option linter.unusedVariables false
set_option linter.unusedSimpArgs false
set_option maxRecDepth 100000
namespace Seat
def RPutAt (N : Nat) : Prop := ∀ d : Dat, d.size < N → d.ok → d.rng → ∀ (rc : List PV) (m : Nat), m + (textD d).length ≤ 140737488355328 →
  RCalls G0 48 [.own 0 m, .agg d.cells] ⟨[], [some (bR rc m)]⟩ (fun o H => o = .ret (.own 0 (m + (textD d).length)) ∧ H = ⟨[], [some (bR (rc ++ bytesPL (textD d)) (m + (textD d).length))]⟩)
noncomputable def rputV (N : Nat) (f : Nat) (xs : List PV) (H : Hp) : Option (PV × Hp × Ob) := match f, xs, H with
  | 48, [.own 0 n, .agg cs], ⟨[], [some ⟨rc, m, e, 1⟩]⟩ => match Nat.beq e 5 with
    | true => some (.own 0 (m + (txC cs).length), ⟨[], [some ⟨rc ++ bytesPL (txC cs), m + (txC cs).length, e, 1⟩]⟩, [(isTx N cs, true), (Nat.beq n m, true), (Nat.ble (m + (txC cs).length) 140737488355328, true)])
    | false => none
  | _, _, _ => none
theorem rputV_ok {N : Nat} (ih : RPutAt N) (f : Nat) (xs : List PV) (H : Hp) (r : PV) (H' : Hp) (o : Ob) (h : rputV N f xs H = some (r, H', o)) (ho : ∀ p ∈ o, p.1 = p.2) : RCalls G0 f xs H (fun o' H2 => o' = .ret r ∧ H2 = H') ∧ r.scP (belowN H'.bx.length) (belowN H'.rw.length) = true ∧ H'.scB H'.bx.length H'.rw.length = true := by
  unfold rputV at h
  split at h
  · rename_i n cs rc m e
    split at h
    · rename_i hc
      cases h
      simp only [Nat.beq_eq] at hc
      subst hc
      obtain ⟨d, rfl, h1, h2, h3⟩ := isTx_of (ho (isTx N cs, true) (by simp))
      have h4 := ho (Nat.beq n m, true) (by simp)
      have h5 := ho (Nat.ble (m + (txC d.cells).length) 140737488355328, true) (by simp)
      simp only [Nat.beq_eq, Nat.ble_eq] at h4 h5
      subst h4
      rw [txC_at] at h5 ⊢
      exact ⟨ih d h1 h2 h3 rc n h5, rfl, rfl⟩
    · cases h
  · cases h
noncomputable def SR {N : Nat} (ih : RPutAt N) (l : List (Nat × List (Nat × Bool))) (v : List (Nat × List (Nat × PV))) : Cfg G0 := { F := F, hF := hF, S := fmtS, hS := fmtS_ok, V := rputV N, hV := rputV_ok ih, hp := hpB, D := hpB, orc := orcM l, val := valM v }
def RSt (x : PV) (rws : List (Option Row)) (rc : List PV) (m : Nat) : Prop := (x = .own 0 m ∧ rws = [some (bR rc m)]) ∨ (x = .nil ∧ rws = [] ∧ rc = [] ∧ m = 0)
theorem rput_gen {N : Nat} (ih : RPutAt N) (d : Dat) (hN : d.size < N + 1) (hok : d.ok) (hrng : d.rng) (x : PV) (rws : List (Option Row)) (rc : List PV) (m : Nat) (hB : RSt x rws rc m) (hm : m + (textD d).length ≤ 140737488355328) :
    RCalls G0 48 [x, .agg d.cells] ⟨[], rws⟩ (fun o H => o = .ret (.own 0 (m + (textD d).length)) ∧ H = ⟨[], [some (bR (rc ++ bytesPL (textD d)) (m + (textD d).length))]⟩) := by
  obtain ⟨k, n, s, ks⟩ := d
  have hlen := hok.1
  refine Fn.enterH Tryz.func48 Tryz.ntmps48 rfl (Nat.le_of_ble_eq_true rfl) fun C fr fp hnt hnb hfr => ?_
  have fin : ∀ st l, l = textD (.mk k n s ks) → nrm [4] st = ⟨[(4, .own 0 (m + l.length))], ⟨[DB k n s ks], [some (bR (rc ++ bytesPL l) (m + l.length))]⟩⟩ → fr st := fun st l hl hs => hfr st [4] (by
    rw [hs, ← hl]
    rcases hB with ⟨rfl, rfl⟩ | ⟨rfl, rfl, _, _⟩
    · exact ⟨0, 1, .own 0 (m + l.length), Nat.le_refl _, Nat.zero_le _, Nat.le_refl _, Nat.le_refl _, rfl, rfl, rfl, rfl, rfl⟩
    · exact ⟨0, 1, .own 0 (m + l.length), Nat.le_refl _, Nat.zero_le _, Nat.zero_le _, Nat.le_refl _, rfl, rfl, rfl, rfl, rfl⟩)
  by_cases h1 : k = 1
  · have c1 : (k == (1 : Int)) = true := by simpa using h1
    have c2 : decide (-9223372036854775808 ≤ n ∧ n ≤ 9223372036854775807) = true := decide_eq_true hrng.1
    have ht : textD (.mk k n s ks) = Go.Lib.itoa n := by rw [textD, if_pos h1]
    rw [ht] at hm
    have c3 : Nat.ble (m + ByteArray.size (mkS (Lib.itoa n))) 140737488355328 = true := by rw [Nat.ble_eq, mkS_size]; exact hm
    rcases hB with ⟨rfl, rfl⟩ | ⟨rfl, rfl, rfl, rfl⟩
    · exact SWP.runQ (SR ih [(46, [(9, true), (14, true)])] []) 100 46 hnt [4] (e := .ret) (z := ⟨[(4, .own 0 (m + ByteArray.size (mkS (Lib.itoa n))))], ⟨[⟨[.int .i64 k, .int .i64 n, .str s, .slice (Dats.len ks) (Dats.cells ks)], 24⟩], [some ⟨rc ++ bytesPV (mkS (Lib.itoa n)), m + ByteArray.size (mkS (Lib.itoa n)), 5, 1⟩]⟩⟩) (o := [(k == (1 : Int), true), (true, true), (decide (-9223372036854775808 ≤ n ∧ n ≤ 9223372036854775807), true), (Nat.ble (m + ByteArray.size (mkS (Lib.itoa n))) 140737488355328, true)]) (by kernel_rfl) (by repeat' first | exact okO_nil | refine okN ?_ ?_ | assumption | rfl) (fun st hs => fin st _ ht.symm hs)
    · exact SWP.runQ (SR ih [(46, [(9, true), (14, true)])] []) 100 46 hnt [4] (e := .ret) (z := ⟨[(4, .own 0 (0 + ByteArray.size (mkS (Lib.itoa n))))], ⟨[⟨[.int .i64 k, .int .i64 n, .str s, .slice (Dats.len ks) (Dats.cells ks)], 24⟩], [some ⟨[] ++ bytesPV (mkS (Lib.itoa n)), 0 + ByteArray.size (mkS (Lib.itoa n)), 5, 1⟩]⟩⟩) (o := [(k == (1 : Int), true), (true, true), (decide (-9223372036854775808 ≤ n ∧ n ≤ 9223372036854775807), true), (Nat.ble (0 + ByteArray.size (mkS (Lib.itoa n))) 140737488355328, true)]) (by kernel_rfl) (by repeat' first | exact okO_nil | refine okN ?_ ?_ | assumption | rfl) (fun st hs => fin st _ ht.symm hs)
  by_cases h2 : k = 2
  · have c1 : (k == (1 : Int)) = false := by simpa using h1
    have c2 : (k == (2 : Int)) = true := by simpa using h2
    have ht : textD (.mk k n s ks) = s.data.toList := by rw [textD, if_neg h1, if_pos h2]
    rw [ht] at hm
    have c3 : Nat.ble (m + ByteArray.size s) 140737488355328 = true := by rw [Nat.ble_eq]; exact hm
    rcases hB with ⟨rfl, rfl⟩ | ⟨rfl, rfl, rfl, rfl⟩
    · exact SWP.runQ (SR ih [(46, [(9, false), (16, true), (20, true)])] []) 100 46 hnt [4] (e := .ret) (z := ⟨[(4, .own 0 (m + ByteArray.size s))], ⟨[⟨[.int .i64 k, .int .i64 n, .str s, .slice (Dats.len ks) (Dats.cells ks)], 24⟩], [some ⟨rc ++ bytesPV s, m + ByteArray.size s, 5, 1⟩]⟩⟩) (o := [(k == (1 : Int), false), (k == (2 : Int), true), (Nat.ble (m + ByteArray.size s) 140737488355328, true)]) (by kernel_rfl) (by repeat' first | exact okO_nil | refine okN ?_ ?_ | assumption | rfl) (fun st hs => fin st _ ht.symm hs)
    · exact SWP.runQ (SR ih [(46, [(9, false), (16, true), (20, true)])] []) 100 46 hnt [4] (e := .ret) (z := ⟨[(4, .own 0 (0 + ByteArray.size s))], ⟨[⟨[.int .i64 k, .int .i64 n, .str s, .slice (Dats.len ks) (Dats.cells ks)], 24⟩], [some ⟨[] ++ bytesPV s, 0 + ByteArray.size s, 5, 1⟩]⟩⟩) (o := [(k == (1 : Int), false), (k == (2 : Int), true), (Nat.ble (0 + ByteArray.size s) 140737488355328, true)]) (by kernel_rfl) (by repeat' first | exact okO_nil | refine okN ?_ ?_ | assumption | rfl) (fun st hs => fin st _ ht.symm hs)
  have ht : textD (.mk k n s ks) = 40 :: (textL true ks ++ [41]) := by rw [textD, if_neg h1, if_neg h2]
  have htl : (textD (.mk k n s ks)).length = (textL true ks).length + 2 := by rw [ht]; simp
  rw [htl] at hm
  have c1 : (k == (1 : Int)) = false := by simpa using h1
  have c2 : (k == (2 : Int)) = false := by simpa using h2
  have hks : ks.size < N + 1 := by simp only [Dat.size] at hN; omega
  refine Q.runSeq S0 50 46 hnt [0, 3] (z := ⟨[(0, x), (3, .ptr 0 0)], ⟨[DB k n s ks], rws⟩⟩) (o := []) (by kernel_rfl) okO_nil ?_
  refine Q.runSeq (SR ih [(46, [(9, false), (16, false)])] []) 50 46 hnt [0, 3] (z := ⟨[(0, x), (3, .ptr 0 0)], ⟨[DB k n s ks], rws⟩⟩) (o := [(k == (1 : Int), false), (k == (2 : Int), false)]) (by kernel_rfl) (by repeat' first | exact okO_nil | refine okN ?_ ?_ | assumption | rfl) ?_
  refine Q.seq fun K hK => ?_
  have rest : ∀ st, nrm [0, 3] st = ⟨[(0, .own 0 (m + 1)), (3, .ptr 0 0)], ⟨[DB k n s ks], [some (bR (rc ++ [.int .u8 40]) (m + 1))]⟩⟩ → K st := fun st hs => hK st (.norm [0, 3] (by
    rw [hs]
    clear hs hK
    let P (j : Nat) : List UInt8 := 40 :: textL true (ks.take j)
    have hP : ∀ j, j ≤ ks.len → (P j).length ≤ (textL true ks).length + 1 := fun j hj => by
      have := textL_mono ks true j hj
      simp only [P, List.length_cons]
      omega
    let T (j : Nat) : AS := ⟨[(0, .own 0 (m + (P j).length)), (3, .ptr 0 0), (5, .int .i64 j)], ⟨[DB k n s ks], [some (bR (rc ++ bytesPL (P j)) (m + (P j).length))]⟩⟩
    refine Q.seq fun K2 hK2 => ?_
    have h0 : bytesPL (P 0) = [.int .u8 40] := by
      have : P 0 = [40] := by simp only [P]; cases ks <;> rfl
      rw [this]; rfl
    have hP0 : (P 0).length = 1 := by
      have : P 0 = [40] := by simp only [P]; cases ks <;> rfl
      rw [this]; rfl
    refine Q.runSeq S0 50 46 hnt [0, 3, 5] (z := T 0) (o := []) (by simp only [T, hP0, h0]; kernel_rfl) okO_nil ?_
    refine Q.block ?_
    refine Q.loopI (σ := { j : Nat // j ≤ ks.len }) [0, 3, 5] (fun j => T j.1) (fun j => ks.len - j.1) ⟨0, Nat.zero_le _⟩ rfl fun ⟨j, hj⟩ => ?_
    rcases Nat.lt_or_ge j ks.len with hlt | hge
    · obtain ⟨k', n', s', ks', hget⟩ := Dats.get_mk ks j
      have hsz := Dats.get_size ks j hlt
      have hoj := Dats.get_ok ks j hlt hok.2
      have hrj := Dats.get_rng ks j hlt hrng.2
      have htk := textL_take ks true j hlt
      have hPj := hP (j + 1) hlt
      rw [hget] at hsz hoj hrj htk
      have tx : txC [PV.int IntKind.i64 k', PV.int IntKind.i64 n', PV.str s', PV.slice (Dats.len ks') (Dats.cells ks')] = textD (.mk k' n' s' ks') := txC_at (.mk k' n' s' ks')
      have d1 : isTx N [PV.int IntKind.i64 k', PV.int IntKind.i64 n', PV.str s', PV.slice (Dats.len ks') (Dats.cells ks')] = true := isTx_at (d := .mk k' n' s' ks') (by omega) hoj hrj
      have d2 := lt_at hlt
      have d3 := in_at hlt
      have d4 : decide (TD.size d24 ≤ List.length (List.drop (Int.toNat (j : Int) * TD.size d24) (Dats.cells ks))) = true := kid_len hlt
      have d5 := kid_same' hlt hget
      have wj := wrap1 j (by omega)
      obtain ⟨rcj, hrc⟩ : ∃ x, x = rc ++ bytesPL (P j) := ⟨_, rfl⟩
      obtain ⟨mj, hmj⟩ : ∃ x, x = m + (P j).length := ⟨_, rfl⟩
      show SWP G0 C _ _ ⟨[(0, .own 0 (m + (P j).length)), (3, .ptr 0 0), (5, .int .i64 j)], ⟨[DB k n s ks], [some (bR (rc ++ bytesPL (P j)) (m + (P j).length))]⟩⟩
      rw [← hrc, ← hmj]
      by_cases hj0 : j = 0
      · have hPs : P (j + 1) = P j ++ textD (.mk k' n' s' ks') := by
          simp only [P, htk]
          rw [if_pos ⟨hj0, trivial⟩]; rfl
        have d6 : decide (0 < (j : Int)) = false := by simp [hj0]
        rw [hPs, List.length_append] at hPj
        have d7 : Nat.ble (mj + List.length (txC [PV.int IntKind.i64 k', PV.int IntKind.i64 n', PV.str s', PV.slice (Dats.len ks') (Dats.cells ks')])) 140737488355328 = true := by rw [tx, Nat.ble_eq]; omega
        refine SWP.runQ (SR ih [(46, [(28, true), (32, false), (35, true), (40, true), (41, true)])] [(46, [(41, .agg [.int .i64 k', .int .i64 n', .str s', .slice ks'.len ks'.cells])])]) 100 46 hnt [0, 3, 5] (e := .normal) (z := ⟨[(0, .own 0 (mj + List.length (txC [.int .i64 k', .int .i64 n', .str s', .slice (Dats.len ks') (Dats.cells ks')]))), (3, .ptr 0 0), (5, .int .i64 (IntKind.wrap IntKind.i64 (Int.ofNat (j + 1))))], ⟨[⟨[.int .i64 k, .int .i64 n, .str s, .slice (Dats.len ks) (Dats.cells ks)], 24⟩], [some ⟨rcj ++ bytesPL (txC [.int .i64 k', .int .i64 n', .str s', .slice (Dats.len ks') (Dats.cells ks')]), mj + List.length (txC [.int .i64 k', .int .i64 n', .str s', .slice (Dats.len ks') (Dats.cells ks')]), 5, 1⟩]⟩⟩) (o := [(decide ((↑j : Int) < (↑(Dats.len ks) : Int)), true), (true, true), (decide (0 < (↑j : Int)), false), (false, false), (decide (0 ≤ (↑j : Int) ∧ (↑j : Int) < (↑(Dats.len ks) : Int)), true), (decide (TD.size d24 ≤ List.length (List.drop (Int.toNat (↑j : Int) * TD.size d24) (Dats.cells ks))), true), (same (PV.agg (List.take 4 (List.drop (Int.toNat (Int.ofNat j) * 4) (Dats.cells ks)))) (PV.agg [PV.int IntKind.i64 k', PV.int IntKind.i64 n', PV.str s', PV.slice (Dats.len ks') (Dats.cells ks')]), true), (isTx N [PV.int IntKind.i64 k', PV.int IntKind.i64 n', PV.str s', PV.slice (Dats.len ks') (Dats.cells ks')], true), (Nat.beq mj mj, true), (Nat.ble (mj + List.length (txC [PV.int IntKind.i64 k', PV.int IntKind.i64 n', PV.str s', PV.slice (Dats.len ks') (Dats.cells ks')])) 140737488355328, true)]) (by kernel_rfl) (by ((repeat' (first | exact okO_nil | refine okN ?_ ?_)); all_goals first | assumption | rfl | exact same_of rfl | exact sameS_self _ | (simp only [decide_eq_true_eq, decide_eq_false_iff_not, Nat.ble_eq, Nat.beq_eq, beq_eq_false_iff_ne, beq_iff_eq, ne_eq] <;> omega))) (fun st hs => ⟨⟨j + 1, hlt⟩, Nat.sub_lt_sub_left hlt (Nat.lt_succ_self j), ?_⟩)
        rw [hs, tx, hrc, hmj]
        simp only [T, hPs, bytesPL_append, List.length_append]
        rw [show IntKind.wrap IntKind.i64 (Int.ofNat (j + 1)) = ((j + 1 : Nat) : Int) from wj, List.append_assoc, Nat.add_assoc]
        rfl
      · have hPs : P (j + 1) = P j ++ [32] ++ textD (.mk k' n' s' ks') := by
          simp only [P, htk]
          rw [if_neg (fun h => hj0 h.1)]
          simp
        have d6 : decide (0 < (j : Int)) = true := by simp; omega
        rw [hPs, List.length_append, List.length_append] at hPj
        simp only [List.length_cons, List.length_nil] at hPj
        have d7 : Nat.ble (mj + 1 + List.length (txC [PV.int IntKind.i64 k', PV.int IntKind.i64 n', PV.str s', PV.slice (Dats.len ks') (Dats.cells ks')])) 140737488355328 = true := by rw [tx, Nat.ble_eq]; omega
        have d8 : Nat.ble ((mj + 1) * 1) 140737488355328 = true := by rw [Nat.ble_eq]; omega
        have d9 : Nat.ble (mj + 1) 9223372036854775807 = true := by rw [Nat.ble_eq]; omega
        refine SWP.runQ (SR ih [(46, [(28, true), (32, true), (35, true), (40, true), (41, true)])] [(46, [(41, .agg [.int .i64 k', .int .i64 n', .str s', .slice ks'.len ks'.cells])])]) 100 46 hnt [0, 3, 5] (e := .normal) (z := ⟨[(0, .own 0 (mj + 1 + List.length (txC [.int .i64 k', .int .i64 n', .str s', .slice (Dats.len ks') (Dats.cells ks')]))), (3, .ptr 0 0), (5, .int .i64 (IntKind.wrap IntKind.i64 (Int.ofNat (j + 1))))], ⟨[⟨[.int .i64 k, .int .i64 n, .str s, .slice (Dats.len ks) (Dats.cells ks)], 24⟩], [some ⟨rcj ++ [PV.int IntKind.u8 (32 : Int)] ++ bytesPL (txC [.int .i64 k', .int .i64 n', .str s', .slice (Dats.len ks') (Dats.cells ks')]), mj + 1 + List.length (txC [.int .i64 k', .int .i64 n', .str s', .slice (Dats.len ks') (Dats.cells ks')]), 5, 1⟩]⟩⟩) (o := [(decide ((↑j : Int) < (↑(Dats.len ks) : Int)), true), (true, true), (decide (0 < (↑j : Int)), true), (true, true), (true, true), (Nat.ble ((mj + 1) * 1) 140737488355328, true), (Nat.ble (mj + 1) 9223372036854775807, true), (decide (0 ≤ (↑j : Int) ∧ (↑j : Int) < (↑(Dats.len ks) : Int)), true), (decide (TD.size d24 ≤ List.length (List.drop (Int.toNat (↑j : Int) * TD.size d24) (Dats.cells ks))), true), (same (PV.agg (List.take 4 (List.drop (Int.toNat (Int.ofNat j) * 4) (Dats.cells ks)))) (PV.agg [PV.int IntKind.i64 k', PV.int IntKind.i64 n', PV.str s', PV.slice (Dats.len ks') (Dats.cells ks')]), true), (isTx N [PV.int IntKind.i64 k', PV.int IntKind.i64 n', PV.str s', PV.slice (Dats.len ks') (Dats.cells ks')], true), (Nat.beq (mj + 1) (mj + 1), true), (Nat.ble (mj + 1 + List.length (txC [PV.int IntKind.i64 k', PV.int IntKind.i64 n', PV.str s', PV.slice (Dats.len ks') (Dats.cells ks')])) 140737488355328, true)]) (by kernel_rfl) (by ((repeat' (first | exact okO_nil | refine okN ?_ ?_)); all_goals first | assumption | rfl | exact same_of rfl | exact sameS_self _ | (simp only [decide_eq_true_eq, decide_eq_false_iff_not, Nat.ble_eq, Nat.beq_eq, beq_eq_false_iff_ne, beq_iff_eq, ne_eq] <;> omega))) (fun st hs => ⟨⟨j + 1, hlt⟩, Nat.sub_lt_sub_left hlt (Nat.lt_succ_self j), ?_⟩)
        rw [hs, tx, hrc, hmj]
        simp only [T, hPs, bytesPL_append, List.length_append]
        rw [show IntKind.wrap IntKind.i64 (Int.ofNat (j + 1)) = ((j + 1 : Nat) : Int) from wj]
        simp only [List.append_assoc, Nat.add_assoc]
        rfl
    · obtain rfl : j = ks.len := by omega
      have d2 := ge_at hge
      have hPl : P ks.len = 40 :: textL true ks := by simp only [P, take_all]
      refine SWP.runQ (SR ih [(46, [(28, false)])] []) 100 46 hnt [0] (e := .exit 1) (z := ⟨[(0, .own 0 (m + (P ks.len).length))], ⟨[DB k n s ks], [some (bR (rc ++ bytesPL (P ks.len)) (m + (P ks.len).length))]⟩⟩) (o := [(decide ((ks.len : Int) < (ks.len : Int)), false), (false, false)]) (by kernel_rfl) (by repeat' first | exact okO_nil | refine okN ?_ ?_ | assumption | rfl) (fun st hs => hK2 st (.norm [0] ?_))
      rw [hs]
      have hl2 : (P ks.len).length = (textL true ks).length + 1 := by rw [hPl]; rfl
      have d8 : Nat.ble ((m + (P ks.len).length + 1) * 1) 140737488355328 = true := by rw [Nat.ble_eq]; omega
      have d9 : Nat.ble (m + (P ks.len).length + 1) 9223372036854775807 = true := by rw [Nat.ble_eq]; omega
      refine SWP.runQ (SR ih [(46, [(45, true)])] []) 100 46 hnt [4] (e := .ret) (z := ⟨[(4, .own 0 (m + (P ks.len).length + 1))], ⟨[DB k n s ks], [some (bR (rc ++ bytesPL (P ks.len) ++ [.int .u8 41]) (m + (P ks.len).length + 1))]⟩⟩) (o := [(true, true), (Nat.ble ((m + (P ks.len).length + 1) * 1) 140737488355328, true), (Nat.ble (m + (P ks.len).length + 1) 9223372036854775807, true)]) (by kernel_rfl) (by repeat' first | exact okO_nil | refine okN ?_ ?_ | assumption | rfl) (fun st hs => fin st (P ks.len ++ [41]) ?_ ?_)
      · rw [ht, hPl]; rfl
      · rw [hs]
        simp only [bytesPL_append, List.length_append, List.append_assoc, Nat.add_assoc]
        rfl))
  rcases hB with ⟨rfl, rfl⟩ | ⟨rfl, rfl, rfl, rfl⟩
  · have d8 : Nat.ble ((m + 1) * 1) 140737488355328 = true := by rw [Nat.ble_eq]; omega
    have d9 : Nat.ble (m + 1) 9223372036854775807 = true := by rw [Nat.ble_eq]; omega
    exact SWP.runQ (SR ih [(46, [(23, true)])] []) 100 46 hnt [0, 3] (e := .normal) (z := ⟨[(0, .own 0 (m + 1)), (3, .ptr 0 0)], ⟨[⟨[.int .i64 k, .int .i64 n, .str s, .slice (Dats.len ks) (Dats.cells ks)], 24⟩], [some ⟨rc ++ [PV.int IntKind.u8 (40 : Int)], m + 1, 5, 1⟩]⟩⟩) (o := [(true, true), (Nat.ble ((m + 1) * 1) 140737488355328, true), (Nat.ble (m + 1) 9223372036854775807, true)]) (by kernel_rfl) (by repeat' first | exact okO_nil | refine okN ?_ ?_ | assumption | rfl) (fun st hs => rest st hs)
  · exact SWP.runQ (SR ih [(46, [(23, true)])] []) 100 46 hnt [0, 3] (e := .normal) (z := ⟨[(0, .own 0 1), (3, .ptr 0 0)], ⟨[⟨[.int .i64 k, .int .i64 n, .str s, .slice (Dats.len ks) (Dats.cells ks)], 24⟩], [some ⟨[PV.int IntKind.u8 (40 : Int)], 1, 5, 1⟩]⟩⟩) (o := [(true, true), (true, true), (true, true)]) (by kernel_rfl) (by repeat' first | exact okO_nil | refine okN ?_ ?_ | assumption | rfl) (fun st hs => rest st hs)
theorem rputAt (N : Nat) : RPutAt N := by
  induction N with
  | zero => intro d h; omega
  | succ N ih => exact fun d hN hok hrng rc m hm => rput_gen ih d hN hok hrng _ _ rc m (.inl ⟨rfl, rfl⟩) hm
theorem rput_new (d : Dat) (hok : d.ok) (hrng : d.rng) (hm : (textD d).length ≤ 140737488355328) :
    RCalls G0 48 [.nil, .agg d.cells] ⟨[], []⟩ (fun o H => o = .ret (.own 0 (textD d).length) ∧ H = ⟨[], [some (bR (bytesPL (textD d)) ((textD d).length))]⟩) := by
  have := rput_gen (rputAt (d.size + 1)) d (by omega) hok hrng .nil [] [] 0 (.inr ⟨rfl, rfl, rfl, rfl⟩) (by omega)
  simpa using this
end Seat
end Go.Proofs.YtkblfapbakfgpaaGreatDoor
namespace Go.Proofs.YtkblfapbakfgpaaGreatDoor
open Go.AS Go.RowKit
set_option linter.unusedVariables false
set_option linter.unusedSimpArgs false
set_option maxRecDepth 100000
namespace Seat
open Classical in
noncomputable def isTxt (cs : List PV) : Bool := decide (∃ d : Dat, d.cells = cs ∧ d.ok ∧ d.rng ∧ (textD d).length ≤ 140737488355328)
theorem isTxt_at {d : Dat} (ho : d.ok) (hr : d.rng) (hl : (textD d).length ≤ 140737488355328) : isTxt d.cells = true := by
  unfold isTxt
  classical exact decide_eq_true ⟨d, rfl, ho, hr, hl⟩
theorem isTxt_of {cs : List PV} (h : isTxt cs = true) : ∃ d : Dat, d.cells = cs ∧ d.ok ∧ d.rng ∧ (textD d).length ≤ 140737488355328 := by
  unfold isTxt at h
  classical exact of_decide_eq_true h
noncomputable def newV (f : Nat) (xs : List PV) (H : Hp) : Option (PV × Hp × Ob) := match f, xs, H with
  | 56, [.ptr 0 0, .agg cs], ⟨[⟨[.nilptr, .nil], ty⟩], []⟩ => match Nat.beq ty 65 with
    | true => some (.tup [], ⟨[⟨[.ptr 0 0, .own 0 (txC cs).length], ty⟩], [some ⟨bytesPL (txC cs), (txC cs).length, 5, 1⟩]⟩, [(isTxt cs, true)])
    | false => none
  | 48, [.nil, .agg cs], ⟨[], []⟩ => some (.own 0 (txC cs).length, ⟨[], [some ⟨bytesPL (txC cs), (txC cs).length, 5, 1⟩]⟩, [(isTxt cs, true)])
  | _, _, _ => none
theorem newV_ok (f : Nat) (xs : List PV) (H : Hp) (r : PV) (H' : Hp) (o : Ob) (h : newV f xs H = some (r, H', o)) (ho : ∀ p ∈ o, p.1 = p.2) : RCalls G0 f xs H (fun o' H2 => o' = .ret r ∧ H2 = H') ∧ r.scP (belowN H'.bx.length) (belowN H'.rw.length) = true ∧ H'.scB H'.bx.length H'.rw.length = true := by
  unfold newV at h
  split at h
  · rename_i cs ty
    split at h
    · rename_i hc
      cases h
      simp only [Nat.beq_eq] at hc
      subst hc
      obtain ⟨d, rfl, h1, h2, h3⟩ := isTxt_of (ho (isTxt cs, true) (by simp))
      rw [txC_at]
      exact ⟨put_new d h1 h2 h3, rfl, rfl⟩
    · cases h
  · rename_i cs
    cases h
    obtain ⟨d, rfl, h1, h2, h3⟩ := isTxt_of (ho (isTxt cs, true) (by simp))
    rw [txC_at]
    exact ⟨rput_new d h1 h2 h3, rfl, rfl⟩
  · cases h
noncomputable def ST (l : List (Nat × List (Nat × Bool))) : Cfg G0 := { F := F, hF := hF, S := fmtS, hS := fmtS_ok, V := newV, hV := newV_ok, hp := hpB, D := hpB, orc := orcM l }
theorem text_prog (d : Dat) (hok : d.ok) (hrng : d.rng) (h0 : 0 < (textD d).length) (hm : (textD d).length ≤ 140737488355328) : Pure G0 39 [.agg d.cells] (fun r => r = .str (mkS (textD d))) := by
  obtain ⟨k, n, s, ks⟩ := d
  have tx : txC [PV.int IntKind.i64 k, PV.int IntKind.i64 n, PV.str s, PV.slice (Dats.len ks) (Dats.cells ks)] = textD (.mk k n s ks) := txC_at (.mk k n s ks)
  have d1 : isTxt [PV.int IntKind.i64 k, PV.int IntKind.i64 n, PV.str s, PV.slice (Dats.len ks) (Dats.cells ks)] = true := isTxt_at (d := .mk k n s ks) hok hrng hm
  obtain ⟨x, hx⟩ : ∃ x, x = txC [PV.int IntKind.i64 k, PV.int IntKind.i64 n, PV.str s, PV.slice (Dats.len ks) (Dats.cells ks)] := ⟨_, rfl⟩
  have d2 : Nat.ble 1 (List.length x) = true := by rw [hx, tx, Nat.ble_eq]; exact h0
  have d3 : Nat.beq (List.length (bytesPL x)) (List.length x) = true := by rw [Nat.beq_eq, bytesPL_length]
  have d4 : Nat.ble (List.length x) 9223372036854775807 = true := by rw [hx, tx, Nat.ble_eq]; omega
  have d5 : isBytes8 (bytesPL x) = true := isBytes8_PL _
  rw [hx] at d2 d3 d4 d5
  refine Fn.enterB Tryz.func39 Tryz.ntmps39 rfl (Nat.le_of_ble_eq_true rfl) fun C fr fp hnt hnb hp hfr hfp => ?_
  refine SWP.runQ (ST [(14, [(7, true), (13, true)])]) 100 7 hnt [2] (e := .ret) (z := ⟨[(2, .str (strOf (bytesPL (txC [.int .i64 k, .int .i64 n, .str s, .slice (Dats.len ks) (Dats.cells ks)]))))], ⟨[⟨[.int .i64 k, .int .i64 n, .str s, .slice (Dats.len ks) (Dats.cells ks)], 24⟩, ⟨[.ptr 1 0, .own 0 (List.length (txC [.int .i64 k, .int .i64 n, .str s, .slice (Dats.len ks) (Dats.cells ks)]))], 65⟩], [none]⟩⟩) (o := [(isTxt [PV.int IntKind.i64 k, PV.int IntKind.i64 n, PV.str s, PV.slice (Dats.len ks) (Dats.cells ks)], true), (Nat.ble 1 (List.length (txC [PV.int IntKind.i64 k, PV.int IntKind.i64 n, PV.str s, PV.slice (Dats.len ks) (Dats.cells ks)])), true), (Nat.beq (List.length (txC [PV.int IntKind.i64 k, PV.int IntKind.i64 n, PV.str s, PV.slice (Dats.len ks) (Dats.cells ks)])) (List.length (txC [PV.int IntKind.i64 k, PV.int IntKind.i64 n, PV.str s, PV.slice (Dats.len ks) (Dats.cells ks)])), true), (Nat.beq (List.length (bytesPL (txC [PV.int IntKind.i64 k, PV.int IntKind.i64 n, PV.str s, PV.slice (Dats.len ks) (Dats.cells ks)]))) (List.length (txC [PV.int IntKind.i64 k, PV.int IntKind.i64 n, PV.str s, PV.slice (Dats.len ks) (Dats.cells ks)])), true), (Nat.ble 1 (List.length (txC [PV.int IntKind.i64 k, PV.int IntKind.i64 n, PV.str s, PV.slice (Dats.len ks) (Dats.cells ks)])), true), (Nat.ble (List.length (txC [PV.int IntKind.i64 k, PV.int IntKind.i64 n, PV.str s, PV.slice (Dats.len ks) (Dats.cells ks)])) 9223372036854775807, true), (isBytes8 (bytesPL (txC [PV.int IntKind.i64 k, PV.int IntKind.i64 n, PV.str s, PV.slice (Dats.len ks) (Dats.cells ks)])), true)]) (by kernel_rfl) (by ((repeat' (first | exact okO_nil | refine okN ?_ ?_)); all_goals first | assumption | rfl | exact same_of rfl | exact sameS_self _ | (simp only [decide_eq_true_eq, decide_eq_false_iff_not, Nat.ble_eq, Nat.beq_eq, beq_eq_false_iff_ne, beq_iff_eq, ne_eq] <;> omega))) (fun st hs => hfr st [2] ?_)
  rw [hs, tx]
  exact ⟨0, .str (strOf (bytesPL (textD (.mk k n s ks)))), Nat.le_refl _, Nat.zero_le _, rfl, rfl, rfl, rfl, _, rfl, congrArg PV.str (strOf_PV (mkS (textD (.mk k n s ks))))⟩
theorem text_ref (d : Dat) (hok : d.ok) (hrng : d.rng) (hm : (textD d).length ≤ 140737488355328) : Pure G0 34 [.agg d.cells] (fun r => r = .str (mkS (textD d))) := by
  obtain ⟨k, n, s, ks⟩ := d
  have tx : txC [PV.int IntKind.i64 k, PV.int IntKind.i64 n, PV.str s, PV.slice (Dats.len ks) (Dats.cells ks)] = textD (.mk k n s ks) := txC_at (.mk k n s ks)
  have d1 : isTxt [PV.int IntKind.i64 k, PV.int IntKind.i64 n, PV.str s, PV.slice (Dats.len ks) (Dats.cells ks)] = true := isTxt_at (d := .mk k n s ks) hok hrng hm
  obtain ⟨x, hx⟩ : ∃ x, x = txC [PV.int IntKind.i64 k, PV.int IntKind.i64 n, PV.str s, PV.slice (Dats.len ks) (Dats.cells ks)] := ⟨_, rfl⟩
  have d3 : Nat.beq (List.length (bytesPL x)) (List.length x) = true := by rw [Nat.beq_eq, bytesPL_length]
  have d5 : isBytes (bytesPL x) = true := isBytes_PL _
  rw [hx] at d3 d5
  refine Fn.enterB Tryz.func34 Tryz.ntmps34 rfl (Nat.le_of_ble_eq_true rfl) fun C fr fp hnt hnb hp hfr hfp => ?_
  refine SWP.runQ (ST [(6, [(5, true)])]) 100 6 hnt [2] (e := .ret) (z := ⟨[(2, .str (strOf (bytesPL (txC [.int .i64 k, .int .i64 n, .str s, .slice (Dats.len ks) (Dats.cells ks)]))))], ⟨[⟨[.int .i64 k, .int .i64 n, .str s, .slice (Dats.len ks) (Dats.cells ks)], 24⟩], [some ⟨bytesPL (txC [.int .i64 k, .int .i64 n, .str s, .slice (Dats.len ks) (Dats.cells ks)]), List.length (txC [.int .i64 k, .int .i64 n, .str s, .slice (Dats.len ks) (Dats.cells ks)]), 5, 1⟩]⟩⟩) (o := [(isTxt [PV.int IntKind.i64 k, PV.int IntKind.i64 n, PV.str s, PV.slice (Dats.len ks) (Dats.cells ks)], true), (Nat.beq (List.length (bytesPL (txC [PV.int IntKind.i64 k, PV.int IntKind.i64 n, PV.str s, PV.slice (Dats.len ks) (Dats.cells ks)]))) (List.length (txC [PV.int IntKind.i64 k, PV.int IntKind.i64 n, PV.str s, PV.slice (Dats.len ks) (Dats.cells ks)])), true), (isBytes (bytesPL (txC [PV.int IntKind.i64 k, PV.int IntKind.i64 n, PV.str s, PV.slice (Dats.len ks) (Dats.cells ks)])), true)]) (by kernel_rfl) (by repeat' first | exact okO_nil | refine okN ?_ ?_ | assumption | rfl) (fun st hs => hfr st [2] ?_)
  rw [hs, tx]
  exact ⟨0, .str (strOf (bytesPL (textD (.mk k n s ks)))), Nat.le_refl _, Nat.zero_le _, rfl, rfl, rfl, rfl, _, rfl, congrArg PV.str (strOf_PV (mkS (textD (.mk k n s ks))))⟩
end Seat
end Go.Proofs.YtkblfapbakfgpaaGreatDoor
namespace Go.Proofs.YtkblfapbakfgpaaGreatDoor
open Go.AS Go.RowKit
set_option linter.unusedVariables false
set_option linter.unusedSimpArgs false
set_option maxRecDepth 100000
namespace Seat
structure Snk (σ : Type) where
  text : List UInt8 → σ → σ
  line : Nat → σ → σ
  more : σ → Bool
mutual
def layG {σ : Type} (S : Snk σ) (w : Nat) : Dat → Nat → Nat → σ → σ
  | .mk k n s ks, col, br, x => match S.more x with
    | true => if ks.len = 0 ∨ col + (textD (.mk k n s ks)).length + br ≤ w then S.text (textD (.mk k n s ks)) x else S.text [41] (layGL S w ks true col br true (S.text [40] x))
    | false => x
def layGL {σ : Type} (S : Snk σ) (w : Nat) : Dats → Bool → Nat → Nat → Bool → σ → σ
  | .nil, _, _, _, _, x => x
  | .cons d ds, f, col, br, l, x => layGL S w ds false col br l (layG S w d (if f = true then col + 1 else col + 2) (if ds.len = 0 ∧ l = true then br + 1 else 0) (if f = true then x else S.line (col + 2) x))
end
theorem take_len : ∀ (ks : Dats) (j : Nat), j ≤ ks.len → (ks.take j).len = j
  | _, 0, _ => by simp [Dats.take, Dats.len]
  | .nil, j + 1, h => by simp [Dats.len] at h
  | .cons d ds, j + 1, h => by simp only [Dats.take, Dats.len, take_len ds j (by simp only [Dats.len] at h; omega)]
theorem layGL_take {σ : Type} (S : Snk σ) (w col br : Nat) : ∀ (ks : Dats) (f : Bool) (j : Nat) (l : Bool) (x : σ), j < ks.len →
    layGL S w (ks.take (j + 1)) f col br l x = layG S w (ks.get j) (if j = 0 ∧ f = true then col + 1 else col + 2) (if l = true then br + 1 else 0) (if j = 0 ∧ f = true then layGL S w (ks.take j) f col br false x else S.line (col + 2) (layGL S w (ks.take j) f col br false x))
  | .nil, f, j, l, x, h => by simp [Dats.len] at h
  | .cons d ds, f, 0, l, x, h => by
    cases f <;> simp [Dats.take, layGL, Dats.get, Dats.len]
  | .cons d ds, f, j + 1, l, x, h => by
    have hj : j < ds.len := by simp only [Dats.len] at h; omega
    have hl : (ds.take (j + 1)).len = j + 1 := take_len ds (j + 1) hj
    have ih := layGL_take S w col br ds false j l (layG S w d (if f = true then col + 1 else col + 2) 0 (if f = true then x else S.line (col + 2) x)) hj
    rw [Dats.take, layGL, hl, show (if j + 1 = 0 ∧ l = true then br + 1 else 0) = 0 from if_neg (fun h => Nat.succ_ne_zero j h.1), ih]
    simp only [Dats.get, Dats.take, layGL, Bool.false_eq_true, and_false, if_false, Nat.add_eq_zero_iff, false_and, Nat.one_ne_zero]
def rS : Snk (List UInt8) := ⟨fun t x => x ++ t, fun n x => x ++ 10 :: List.replicate n 32, fun _ => true⟩
def pS : Snk (List UInt8) := ⟨fun t x => x ++ t, fun n x => x ++ 10 :: List.replicate n 32, fun x => Nat.ble x.length 2000000⟩
def mS : Snk (Nat × Nat × Nat) := ⟨fun t x => (x.1, x.2.1 + t.length, max x.2.2 (x.2.1 + t.length)), fun n x => (x.1 + 1, n, max x.2.2 n), fun _ => true⟩
structure Sim {σ τ : Type} (S : Snk σ) (T : Snk τ) (R : σ → τ → Prop) : Prop where
  text : ∀ t x y, R x y → R (S.text t x) (T.text t y)
  line : ∀ n x y, R x y → R (S.line n x) (T.line n y)
  stop : ∀ x y, S.more x = false → R x y → (∀ t, R x (T.text t y)) ∧ ∀ n, R x (T.line n y)
  most : ∀ y, T.more y = true
theorem sim_stopL {σ τ : Type} {S : Snk σ} {T : Snk τ} {R : σ → τ → Prop} (h : Sim S T R) (w : Nat) : (∀ (d : Dat) (c r : Nat) (x : σ) (y : τ), S.more x = false → R x y → R x (layG T w d c r y)) ∧ (∀ (ks : Dats) (f : Bool) (c r : Nat) (l : Bool) (x : σ) (y : τ), S.more x = false → R x y → R x (layGL T w ks f c r l y)) := by
  have key : ∀ N : Nat, (∀ (d : Dat), d.size < N → ∀ (c r : Nat) (x : σ) (y : τ), S.more x = false → R x y → R x (layG T w d c r y)) ∧ (∀ (ks : Dats), ks.size < N → ∀ (f : Bool) (c r : Nat) (l : Bool) (x : σ) (y : τ), S.more x = false → R x y → R x (layGL T w ks f c r l y)) := by
    intro N
    induction N with
    | zero => exact ⟨fun d h => by omega, fun d h => by omega⟩
    | succ N ih =>
      refine ⟨fun d hd c r x y hx hR => ?_, fun ks hk f c r l x y hx hR => ?_⟩
      · obtain ⟨k, n, s, ks⟩ := d
        rw [layG, h.most y]
        simp only []
        split
        · exact (h.stop x y hx hR).1 _
        · exact (h.stop x _ hx (ih.2 ks (by simp only [Dat.size] at hd; omega) true c r true x _ hx ((h.stop x y hx hR).1 _))).1 _
      · cases ks with
        | nil => exact hR
        | cons d ds =>
          rw [layGL]
          refine ih.2 ds (by simp only [Dats.size] at hk; omega) _ _ _ _ x _ hx (ih.1 d (by simp only [Dats.size] at hk; omega) _ _ x _ hx ?_)
          split
          · exact hR
          · exact (h.stop x y hx hR).2 _
  exact ⟨fun d => (key (d.size + 1)).1 d (by omega), fun ks => (key (ks.size + 1)).2 ks (by omega)⟩
theorem sim {σ τ : Type} {S : Snk σ} {T : Snk τ} {R : σ → τ → Prop} (h : Sim S T R) (w : Nat) : (∀ (d : Dat) (c r : Nat) (x : σ) (y : τ), R x y → R (layG S w d c r x) (layG T w d c r y)) ∧ (∀ (ks : Dats) (f : Bool) (c r : Nat) (l : Bool) (x : σ) (y : τ), R x y → R (layGL S w ks f c r l x) (layGL T w ks f c r l y)) := by
  have key : ∀ N : Nat, (∀ (d : Dat), d.size < N → ∀ (c r : Nat) (x : σ) (y : τ), R x y → R (layG S w d c r x) (layG T w d c r y)) ∧ (∀ (ks : Dats), ks.size < N → ∀ (f : Bool) (c r : Nat) (l : Bool) (x : σ) (y : τ), R x y → R (layGL S w ks f c r l x) (layGL T w ks f c r l y)) := by
    intro N
    induction N with
    | zero => exact ⟨fun d h => by omega, fun d h => by omega⟩
    | succ N ih =>
      refine ⟨fun d hd c r x y hR => ?_, fun ks hk f c r l x y hR => ?_⟩
      · cases hm : S.more x with
        | false =>
          have e : layG S w d c r x = x := by obtain ⟨k, n, s, ks⟩ := d; rw [layG, hm]
          rw [e]
          exact (sim_stopL h w).1 d c r x y hm hR
        | true =>
          obtain ⟨k, n, s, ks⟩ := d
          rw [layG, layG, hm, h.most y]
          simp only []
          split
          · exact h.text _ _ _ hR
          · exact h.text _ _ _ (ih.2 ks (by simp only [Dat.size] at hd; omega) true c r true _ _ (h.text _ _ _ hR))
      · cases ks with
        | nil => exact hR
        | cons d ds =>
          rw [layGL, layGL]
          refine ih.2 ds (by simp only [Dats.size] at hk; omega) _ _ _ _ _ _ (ih.1 d (by simp only [Dats.size] at hk; omega) _ _ _ _ ?_)
          split
          · exact hR
          · exact h.line _ _ _ hR
  exact ⟨fun d => (key (d.size + 1)).1 d (by omega), fun ks => (key (ks.size + 1)).2 ks (by omega)⟩
def layT (w : Nat) (d : Dat) (c r : Nat) : List UInt8 := layG rS w d c r []
def layTL (w : Nat) (ks : Dats) (f : Bool) (c r : Nat) (l : Bool) : List UInt8 := layGL rS w ks f c r l []
theorem lay_app (w : Nat) : (∀ (d : Dat) (c r : Nat) (y : List UInt8), layG rS w d c r y = y ++ layT w d c r) ∧ (∀ (ks : Dats) (f : Bool) (c r : Nat) (l : Bool) (y : List UInt8), layGL rS w ks f c r l y = y ++ layTL w ks f c r l) := by
  have h : ∀ y0, Sim rS rS (fun x y => y = y0 ++ x) := fun y0 => ⟨fun t x y h => by subst h; simp [rS], fun n x y h => by subst h; simp [rS], fun x y h => by simp [rS] at h, fun y => rfl⟩
  exact ⟨fun d c r y => (sim (h y) w).1 d c r [] y (by simp), fun ks f c r l y => (sim (h y) w).2 ks f c r l [] y (by simp)⟩
theorem lay_len (w : Nat) (d : Dat) (c r : Nat) (b : List UInt8) : (layG pS w d c r b).length ≤ b.length + (layT w d c r).length := by
  have h : Sim pS rS (fun x y => x.length ≤ y.length) := ⟨fun t x y h => by simp [pS, rS]; exact h, fun n x y h => by simp [pS, rS]; exact h, fun x y _ h => ⟨fun t => by simp [rS]; omega, fun n => by simp [rS]; omega⟩, fun y => rfl⟩
  have := (sim h w).1 d c r b b (Nat.le_refl _)
  rw [(lay_app w).1, List.length_append] at this
  exact this
theorem lay_lenL (w : Nat) (ks : Dats) (f : Bool) (c r : Nat) (l : Bool) (b : List UInt8) : (layGL pS w ks f c r l b).length ≤ b.length + (layTL w ks f c r l).length := by
  have h : Sim pS rS (fun x y => x.length ≤ y.length) := ⟨fun t x y h => by simp [pS, rS]; exact h, fun n x y h => by simp [pS, rS]; exact h, fun x y _ h => ⟨fun t => by simp [rS]; omega, fun n => by simp [rS]; omega⟩, fun y => rfl⟩
  have := (sim h w).2 ks f c r l b b (Nat.le_refl _)
  rw [(lay_app w).2, List.length_append] at this
  exact this
theorem layT_list (w : Nat) (k n : Int) (s : ByteArray) (ks : Dats) (c r : Nat) (h : ¬ (ks.len = 0 ∨ c + (textD (.mk k n s ks)).length + r ≤ w)) : layT w (.mk k n s ks) c r = 40 :: (layTL w ks true c r true ++ [41]) := by
  unfold layT
  rw [layG]
  simp only [rS]
  rw [if_neg h]
  have := (lay_app w).2 ks true c r true ([] ++ [40])
  simp only [rS] at this
  rw [this]
  simp
theorem layTL_take (w c r : Nat) (ks : Dats) (j : Nat) (l : Bool) (h : j < ks.len) : layTL w (ks.take (j + 1)) true c r l = layTL w (ks.take j) true c r false ++ ((if j = 0 then [] else 10 :: List.replicate (c + 2) 32) ++ layT w (ks.get j) (if j = 0 then c + 1 else c + 2) (if l = true then r + 1 else 0)) := by
  have := layGL_take rS w c r ks true j l [] h
  unfold layTL
  rw [this]
  simp only [and_true]
  rw [(lay_app w).1]
  by_cases hj : j = 0
  · simp [hj]
  · simp [hj, rS]
theorem layTL_mono (w c r : Nat) (ks : Dats) (j : Nat) (h : j < ks.len) : (layTL w (ks.take j) true c r false).length ≤ (layTL w ks true c r true).length := by
  have step : ∀ i l, i < ks.len → (layTL w (ks.take i) true c r false).length ≤ (layTL w (ks.take (i + 1)) true c r l).length := fun i l hi => by
    rw [layTL_take w c r ks i l hi, List.length_append]; omega
  have key : ∀ i, j + i < ks.len → (layTL w (ks.take j) true c r false).length ≤ (layTL w (ks.take (j + i)) true c r false).length := by
    intro i
    induction i with
    | zero => intro _; exact Nat.le_refl _
    | succ i ih => intro hi; exact Nat.le_trans (ih (by omega)) (step _ false (by omega))
  have h1 := key (ks.len - 1 - j) (by omega)
  have h2 := step (ks.len - 1) true (by omega)
  rw [show ks.len - 1 + 1 = ks.len by omega, take_all] at h2
  rw [show j + (ks.len - 1 - j) = ks.len - 1 by omega] at h1
  exact Nat.le_trans h1 h2
theorem textL_get (ks : Dats) : ∀ (f : Bool) (j : Nat), j < ks.len → (textD (ks.get j)).length ≤ (textL f ks).length := by
  intro f j h
  have h1 := textL_take ks f j h
  have h2 := textL_mono ks f (j + 1) h
  rw [h1, List.length_append, List.length_append] at h2
  omega
theorem text_pos (d : Dat) (h : formedD d = true) : 0 < (textD d).length := by
  obtain ⟨k, n, s, ks⟩ := d
  rw [textD]
  split
  · rw [Go.Lib.itoa]
    split
    · simp
    · rw [Go.Lib.decDigits_length]; exact Go.Lib.nDigits_pos _
  · split
    · rename_i h1 h2
      subst h2
      simp only [formedD] at h
      have hs : symOk s = true := by
        have h' : (n = 0 ∧ symOk s = true) ∧ ks.len = 0 := by simpa using h
        exact h'.1.2
      rcases Nat.eq_zero_or_pos s.size with h0 | h0
      · simp [symOk, symBad, h0] at hs
      · exact h0
    · simp
open Classical in
noncomputable def isTxp (cs : List PV) : Bool := decide (∃ d : Dat, d.cells = cs ∧ d.ok ∧ d.rng ∧ formedD d = true ∧ (textD d).length ≤ 140737488355328)
theorem isTxp_at {d : Dat} (ho : d.ok) (hr : d.rng) (hf : formedD d = true) (hl : (textD d).length ≤ 140737488355328) : isTxp d.cells = true := by
  unfold isTxp
  classical exact decide_eq_true ⟨d, rfl, ho, hr, hf, hl⟩
theorem isTxp_of {cs : List PV} (h : isTxp cs = true) : ∃ d : Dat, d.cells = cs ∧ d.ok ∧ d.rng ∧ formedD d = true ∧ (textD d).length ≤ 140737488355328 := by
  unfold isTxp at h
  classical exact of_decide_eq_true h
noncomputable def txS (f : Nat) (args : List PV) : Option (PV × Ob) := match f, args with
  | 39, [.agg cs] => some (.str (mkS (txC cs)), [(isTxp cs, true)])
  | 34, [.agg cs] => some (.str (mkS (txC cs)), [(isTxt cs, true)])
  | 120, [.str s, .int .i64 z] => match decide (s.data.toList = [32]) with
    | true => some (.str (mkS (List.replicate z.toNat 32)), [(decide (0 ≤ z ∧ z ≤ 140737488355328), true)])
    | false => none
  | _, _ => none
theorem txS_ok (f : Nat) (args : List PV) (r : PV) (o : Ob) (h : txS f args = some (r, o)) (ho : ∀ p ∈ o, p.1 = p.2) (_ : pureL args = true) : Pure G0 f args (fun x => x = r) := by
  unfold txS at h
  split at h
  · rename_i cs _
    cases h
    obtain ⟨d, rfl, h1, h2, h3, h4⟩ := isTxp_of (ho _ (List.mem_singleton.2 rfl))
    rw [txC_at]
    exact text_prog d h1 h2 (text_pos d h3) h4
  · rename_i cs _
    cases h
    obtain ⟨d, rfl, h1, h2, h4⟩ := isTxt_of (ho _ (List.mem_singleton.2 rfl))
    rw [txC_at]
    exact text_ref d h1 h2 h4
  · rename_i s z _
    split at h
    · rename_i hs
      cases h
      have hz := of_decide_eq_true (ho _ (List.mem_singleton.2 rfl))
      have := repeatB z.toNat (by omega)
      rw [Int.toNat_of_nonneg hz.1] at this
      have e : s = ⟨#[32]⟩ := by
        obtain ⟨⟨l⟩⟩ := s
        have hl : l = [32] := of_decide_eq_true hs
        subst hl
        rfl
      subst e
      exact this
    · cases h
  · cases h
end Seat
end Go.Proofs.YtkblfapbakfgpaaGreatDoor
namespace Go.Proofs.YtkblfapbakfgpaaGreatDoor
open Go.AS Go.RowKit
set_option linter.unusedVariables false
set_option linter.unusedSimpArgs false
set_option maxRecDepth 100000
set_option maxHeartbeats 4000000
namespace Seat
theorem bytesPL_of8 : ∀ cs : List PV, isBytes8 cs = true → bytesPL (bytesOf cs) = cs
  | [], _ => rfl
  | .int .u8 z :: cs, h => by
    simp only [isBytes8, Bool.and_eq_true, decide_eq_true_eq] at h
    simp only [bytesOf, byteOf, bytesPL, bytesPL_of8 cs h.2]
    have : z.toNat < 256 := by omega
    have e : (((UInt8.ofNat z.toNat).toNat : Nat) : Int) = z := by
      simp only [UInt8.toNat_ofNat']
      omega
    show PV.int IntKind.u8 (((UInt8.ofNat z.toNat).toNat : Nat) : Int) :: cs = _
    rw [e]
  | .int .i8 _ :: _, h | .int .i16 _ :: _, h | .int .i32 _ :: _, h | .int .i64 _ :: _, h | .int .u16 _ :: _, h | .int .u32 _ :: _, h | .int .u64 _ :: _, h => by simp [isBytes8] at h
  | .bool _ :: _, h | .str _ :: _, h | .slice _ _ :: _, h | .nil :: _, h | .epos _ :: _, h | .own _ _ :: _, h | .rpos _ _ :: _, h | .ptr _ _ :: _, h | .bsl _ _ _ :: _, h | .nilptr :: _, h | .func _ _ :: _, h | .nilfunc :: _, h | .agg _ :: _, h | .tup _ :: _, h | .iface _ _ :: _, h | .niliface :: _, h | .junk :: _, h => by simp [isBytes8] at h
def pB (n : Nat) : Box := ⟨[.ptr 0 0, .own 0 n], 67⟩
def pB0 : Box := ⟨[.nilptr, .nil], 67⟩
open Classical in
noncomputable def isLay (N : Nat) (cs : List PV) : Bool := decide (∃ d : Dat, d.cells = cs ∧ d.size < N ∧ d.ok ∧ d.rng ∧ formedD d = true ∧ (textD d).length ≤ 4398046511104)
theorem isLay_at {N : Nat} {d : Dat} (h : d.size < N) (ho : d.ok) (hr : d.rng) (hf : formedD d = true) (hl : (textD d).length ≤ 4398046511104) : isLay N d.cells = true := by
  unfold isLay
  classical exact decide_eq_true ⟨d, rfl, h, ho, hr, hf, hl⟩
theorem isLay_of {N : Nat} {cs : List PV} (h : isLay N cs = true) : ∃ d : Dat, d.cells = cs ∧ d.size < N ∧ d.ok ∧ d.rng ∧ formedD d = true ∧ (textD d).length ≤ 4398046511104 := by
  unfold isLay at h
  classical exact of_decide_eq_true h
noncomputable def lpC (w c r : Nat) (b : List UInt8) (cs : List PV) : List UInt8 := ofCells (fun d => layG pS w d c r b) [] cs
theorem lpC_at (w c r : Nat) (b : List UInt8) (d : Dat) : lpC w c r b d.cells = layG pS w d c r b := ofCells_at _ _ d
noncomputable def lrC (w c r : Nat) (cs : List PV) : Nat := ofCells (fun d => (layT w d c r).length) 0 cs
theorem lrC_at (w c r : Nat) (d : Dat) : lrC w c r d.cells = (layT w d c r).length := ofCells_at _ _ d
def LayAt (N : Nat) : Prop := ∀ d : Dat, d.size < N → d.ok → d.rng → formedD d = true → (textD d).length ≤ 4398046511104 → ∀ w c r : Nat, w ≤ 4398046511104 → c + 2 * N ≤ 4398046511104 → r + N ≤ 4398046511104 → ∀ b : List UInt8, b.length + (layT w d c r).length ≤ 140737488355328 →
  RCalls G0 26 [.agg [.iface 62 (.ptr 0 0), .int .i64 w], .agg d.cells, .int .i64 c, .int .i64 r] ⟨[pB b.length], [some (bR (bytesPL b) b.length)]⟩ (fun o H => o = .ret (.tup []) ∧ H = ⟨[pB (layG pS w d c r b).length], [some (bR (bytesPL (layG pS w d c r b)) (layG pS w d c r b).length)]⟩)
noncomputable def layV (N : Nat) (f : Nat) (xs : List PV) (H : Hp) : Option (PV × Hp × Ob) := match f, xs, H with
  | 26, [.agg [.iface tp (.ptr 0 0), .int .i64 w], .agg cs, .int .i64 c, .int .i64 r], ⟨[⟨[.ptr 0 0, .own 0 n], ty⟩], [some ⟨rc, m, e, 1⟩]⟩ => match Nat.beq tp 62 && Nat.beq ty 67 && Nat.beq e 5 with
    | true => some (.tup [], ⟨[⟨[.ptr 0 0, .own 0 (lpC w.toNat c.toNat r.toNat (bytesOf rc) cs).length], ty⟩], [some ⟨bytesPL (lpC w.toNat c.toNat r.toNat (bytesOf rc) cs), (lpC w.toNat c.toNat r.toNat (bytesOf rc) cs).length, e, 1⟩]⟩,
        [(isLay N cs, true), (decide (0 ≤ w ∧ w ≤ 4398046511104), true), (decide (0 ≤ c ∧ c + 2 * (N : Int) ≤ 4398046511104), true), (decide (0 ≤ r ∧ r + (N : Int) ≤ 4398046511104), true), (Nat.beq n m, true), (Nat.beq rc.length m, true), (isBytes8 rc, true), (Nat.ble (m + lrC w.toNat c.toNat r.toNat cs) 140737488355328, true)])
    | false => none
  | _, _, _ => none
theorem layV_ok {N : Nat} (ih : LayAt N) (f : Nat) (xs : List PV) (H : Hp) (r : PV) (H' : Hp) (o : Ob) (h : layV N f xs H = some (r, H', o)) (ho : ∀ p ∈ o, p.1 = p.2) : RCalls G0 f xs H (fun o' H2 => o' = .ret r ∧ H2 = H') ∧ r.scP (belowN H'.bx.length) (belowN H'.rw.length) = true ∧ H'.scB H'.bx.length H'.rw.length = true := by
  unfold layV at h
  split at h
  · rename_i tp w cs c r' n ty rc m e
    split at h
    · rename_i hc
      cases h
      simp only [Bool.and_eq_true, Nat.beq_eq] at hc
      obtain ⟨⟨rfl, rfl⟩, rfl⟩ := hc
      obtain ⟨d, rfl, h1, h2, h3, h4, h5⟩ := isLay_of (ho (isLay N cs, true) (by simp))
      have g1 := of_decide_eq_true (ho (decide (0 ≤ w ∧ w ≤ 4398046511104), true) (by simp))
      have g2 := of_decide_eq_true (ho (decide (0 ≤ c ∧ c + 2 * (N : Int) ≤ 4398046511104), true) (by simp))
      have g3 := of_decide_eq_true (ho (decide (0 ≤ r' ∧ r' + (N : Int) ≤ 4398046511104), true) (by simp))
      have g4 := ho (Nat.beq n m, true) (by simp)
      have g5 := ho (Nat.beq rc.length m, true) (by simp)
      have g6 := ho (isBytes8 rc, true) (by simp)
      have g7 := ho (Nat.ble (m + lrC w.toNat c.toNat r'.toNat d.cells) 140737488355328, true) (by simp)
      simp only [Nat.beq_eq, Nat.ble_eq] at g4 g5 g7
      subst g4
      rw [lrC_at] at g7
      rw [lpC_at]
      have hb := bytesPL_of8 rc g6
      have hbl : (bytesOf rc).length = n := by rw [bytesOf_length]; exact g5
      have key := ih d h1 h2 h3 h4 h5 w.toNat c.toNat r'.toNat (by omega) (by omega) (by omega) (bytesOf rc) (by rw [hbl]; exact g7)
      rw [hbl, hb, Int.toNat_of_nonneg g1.1, Int.toNat_of_nonneg g2.1, Int.toNat_of_nonneg g3.1] at key
      exact ⟨key, rfl, rfl⟩
    · cases h
  · cases h
noncomputable def layV2 (N : Nat) (f : Nat) (xs : List PV) (H : Hp) : Option (PV × Hp × Ob) := match layV N f xs H with
  | some r => some r
  | none => ccV f xs H
theorem layV2_ok {N : Nat} (ih : LayAt N) (f : Nat) (xs : List PV) (H : Hp) (r : PV) (H' : Hp) (o : Ob) (h : layV2 N f xs H = some (r, H', o)) (ho : ∀ p ∈ o, p.1 = p.2) : RCalls G0 f xs H (fun o' H2 => o' = .ret r ∧ H2 = H') ∧ r.scP (belowN H'.bx.length) (belowN H'.rw.length) = true ∧ H'.scB H'.bx.length H'.rw.length = true := by
  unfold layV2 at h
  split at h
  · rename_i x hx
    cases h
    exact layV_ok ih f xs H r H' o hx ho
  · exact ccV_ok f xs H r H' o h ho
noncomputable def SL {N : Nat} (ih : LayAt N) (l : List (Nat × List (Nat × Bool))) (v : List (Nat × List (Nat × PV))) : Cfg G0 := { F := F, hF := hF, S := txS, hS := txS_ok, V := layV2 N, hV := layV2_ok ih, hp := hpB, D := hpB, orc := orcM l, val := valM v }
theorem toNat_of (n : Nat) : Int.toNat (Int.ofNat n) = n := rfl
def LSt (B : Box) (rws : List (Option Row)) (b : List UInt8) : Prop := (B = pB b.length ∧ rws = [some (bR (bytesPL b) b.length)]) ∨ (B = pB0 ∧ rws = [] ∧ b = [])
theorem wrap3 (a b c : Nat) (h : a + b + c ≤ 9223372036854775807) : IntKind.wrap IntKind.i64 (IntKind.wrap IntKind.i64 ((a : Int) + (b : Int)) + (c : Int)) = ((a + b + c : Nat) : Int) := by
  rw [IntKind.wrap_i64, IntKind.wrap_i64]; omega
theorem wrapO (a : Nat) (h : a ≤ 9223372036854775807) : IntKind.wrap IntKind.i64 (Int.ofNat a) = (a : Int) := by
  show IntKind.wrap IntKind.i64 (a : Int) = _
  rw [IntKind.wrap_i64]; omega
theorem wrapD (a : Nat) (h : 0 < a) (h2 : a ≤ 9223372036854775807) : IntKind.wrap IntKind.i64 (Int.ofNat a - (1 : Int)) = ((a - 1 : Nat) : Int) := by
  show IntKind.wrap IntKind.i64 ((a : Int) - 1) = _
  rw [IntKind.wrap_i64]; omega
def LB (w : Nat) : Box := ⟨[.iface 62 (.ptr 0 0), .int .i64 w], 72⟩
theorem lay_gen {N : Nat} (ih : LayAt N) (d : Dat) (hN : d.size < N + 1) (hok : d.ok) (hrng : d.rng) (hfm : formedD d = true) (htl : (textD d).length ≤ 4398046511104) (w c r : Nat) (hw : w ≤ 4398046511104) (hc : c + 2 * (N + 1) ≤ 4398046511104) (hr : r + (N + 1) ≤ 4398046511104)
    (B0 : Box) (rws : List (Option Row)) (b : List UInt8) (hB : LSt B0 rws b) (hb : b.length + (layT w d c r).length ≤ 140737488355328) :
    RCalls G0 26 [.agg [.iface 62 (.ptr 0 0), .int .i64 w], .agg d.cells, .int .i64 c, .int .i64 r] ⟨[B0], rws⟩ (fun o H => o = .ret (.tup []) ∧ H = ⟨[pB (layG pS w d c r b).length], [some (bR (bytesPL (layG pS w d c r b)) (layG pS w d c r b).length)]⟩) := by
  obtain ⟨k, n, s, ks⟩ := d
  have hlen := hok.1
  have tx : txC [PV.int IntKind.i64 k, PV.int IntKind.i64 n, PV.str s, PV.slice (Dats.len ks) (Dats.cells ks)] = textD (.mk k n s ks) := txC_at (.mk k n s ks)
  have c1 : isTxp [PV.int IntKind.i64 k, PV.int IntKind.i64 n, PV.str s, PV.slice (Dats.len ks) (Dats.cells ks)] = true := isTxp_at (d := .mk k n s ks) hok hrng hfm (by omega)
  refine Fn.enterH Tryz.func26 Tryz.ntmps26 rfl (Nat.le_of_ble_eq_true rfl) fun C fr fp hnt hnb hfr => ?_
  have fin : ∀ st l, l = layG pS w (.mk k n s ks) c r b → nrm [] st = ⟨[], ⟨[pB l.length, LB w, DB k n s ks], [some (bR (bytesPL l) l.length)]⟩⟩ → fr st := fun st l hl hs => hfr st [] (by
    rw [hs, ← hl]
    rcases hB with ⟨rfl, rfl⟩ | ⟨rfl, rfl, _⟩
    · exact ⟨1, 1, .tup [], Nat.le_refl _, (by decide : 1 ≤ 3), Nat.le_refl _, Nat.le_refl _, rfl, rfl, rfl, rfl, rfl⟩
    · exact ⟨1, 1, .tup [], Nat.le_refl _, (by decide : 1 ≤ 3), Nat.zero_le _, Nat.le_refl _, rfl, rfl, rfl, rfl, rfl⟩)
  by_cases hm : 2000000 < b.length
  · have lg : layG pS w (.mk k n s ks) c r b = b := by
      rw [layG]
      have : pS.more b = false := by
        cases h : pS.more b with
        | false => rfl
        | true => simp only [pS, Nat.ble_eq] at h; omega
      rw [this]
    have c2 : decide ((↑(List.length b) : Int) ≤ 2000000) = false := by rw [decide_eq_false_iff_not]; omega
    rcases hB with ⟨rfl, rfl⟩ | ⟨rfl, rfl, rfl⟩
    · exact SWP.runQ (SL ih [(8, [(7, false)])] []) 100 79 hnt [] (e := .ret) (z := ⟨[], ⟨[⟨[.ptr 0 0, .own 0 (List.length b)], 67⟩, ⟨[PV.iface 62 (.ptr 0 0), .int .i64 (Int.ofNat w)], 72⟩, ⟨[.int .i64 k, .int .i64 n, .str s, .slice (Dats.len ks) (Dats.cells ks)], 24⟩], [some ⟨bytesPL b, List.length b, 5, 1⟩]⟩⟩) (o := [(decide ((↑(List.length b) : Int) ≤ 2000000), false)]) (by kernel_rfl) (by repeat' first | exact okO_nil | refine okN ?_ ?_ | assumption | rfl) (fun st hs => fin st b lg.symm hs)
    · exact absurd hm (by decide)
  have c2 : decide ((↑(List.length b) : Int) ≤ 2000000) = true := by rw [decide_eq_true_eq]; omega
  have hmt : pS.more b = true := by simp only [pS, Nat.ble_eq]; omega
  have hsz : ByteArray.size (mkS (txC [PV.int IntKind.i64 k, PV.int IntKind.i64 n, PV.str s, PV.slice (Dats.len ks) (Dats.cells ks)])) = (textD (.mk k n s ks)).length := by rw [tx]; rfl
  have hwr : IntKind.wrap IntKind.i64 (IntKind.wrap IntKind.i64 ((↑c : Int) + (↑(ByteArray.size (mkS (txC [PV.int IntKind.i64 k, PV.int IntKind.i64 n, PV.str s, PV.slice (Dats.len ks) (Dats.cells ks)]))) : Int)) + (↑r : Int)) = ((c + (textD (.mk k n s ks)).length + r : Nat) : Int) := by
    rw [hsz]; exact wrap3 _ _ _ (by omega)
  have short : ∀ (hs : ks.len = 0 ∨ c + (textD (.mk k n s ks)).length + r ≤ w), layG pS w (.mk k n s ks) c r b = b ++ textD (.mk k n s ks) ∧ b.length + (textD (.mk k n s ks)).length ≤ 140737488355328 := fun hs => by
    refine ⟨by rw [layG, hmt]; simp only []; rw [if_pos hs]; rfl, ?_⟩
    have : layT w (.mk k n s ks) c r = textD (.mk k n s ks) := by
      unfold layT
      rw [layG]
      simp only [rS]
      rw [if_pos hs]
      simp
    rw [this] at hb
    exact hb
  by_cases h0 : ks.len = 0
  · obtain ⟨lg, hb2⟩ := short (.inl h0)
    have c3 : (Int.ofNat (Dats.len ks) == (0 : Int)) = true := by rw [h0]; rfl
    rcases hB with ⟨rfl, rfl⟩ | ⟨rfl, rfl, rfl⟩
    · have c4 : Nat.ble (List.length b + ByteArray.size (mkS (txC [PV.int IntKind.i64 k, PV.int IntKind.i64 n, PV.str s, PV.slice (Dats.len ks) (Dats.cells ks)]))) 140737488355328 = true := by rw [Nat.ble_eq, hsz]; exact hb2
      refine SWP.runQ (SL ih [(8, [(7, true)]), (79, [(21, true)]), (19, [(14, true)])] []) 100 79 hnt [] (e := .ret) (z := ⟨[], ⟨[⟨[.ptr 0 0, .own 0 (List.length b + ByteArray.size (mkS (txC [.int .i64 k, .int .i64 n, .str s, .slice (Dats.len ks) (Dats.cells ks)])))], 67⟩, ⟨[PV.iface 62 (.ptr 0 0), .int .i64 (Int.ofNat w)], 72⟩, ⟨[.int .i64 k, .int .i64 n, .str s, .slice (Dats.len ks) (Dats.cells ks)], 24⟩], [some ⟨bytesPL b ++ bytesPV (mkS (txC [.int .i64 k, .int .i64 n, .str s, .slice (Dats.len ks) (Dats.cells ks)])), List.length b + ByteArray.size (mkS (txC [.int .i64 k, .int .i64 n, .str s, .slice (Dats.len ks) (Dats.cells ks)])), 5, 1⟩]⟩⟩) (o := [(decide ((↑(List.length b) : Int) ≤ 2000000), true), (true, true), (isTxp [PV.int IntKind.i64 k, PV.int IntKind.i64 n, PV.str s, PV.slice (Dats.len ks) (Dats.cells ks)], true), (Int.ofNat (Dats.len ks) == (0 : Int), true), (Nat.ble (List.length b + ByteArray.size (mkS (txC [PV.int IntKind.i64 k, PV.int IntKind.i64 n, PV.str s, PV.slice (Dats.len ks) (Dats.cells ks)]))) 140737488355328, true)]) (by kernel_rfl) (by repeat' first | exact okO_nil | refine okN ?_ ?_ | assumption | rfl) (fun st hs => fin st _ lg.symm ?_)
      rw [hs, tx, bytesPL_append, List.length_append]; rfl
    · have c4 : Nat.ble (0 + ByteArray.size (mkS (txC [PV.int IntKind.i64 k, PV.int IntKind.i64 n, PV.str s, PV.slice (Dats.len ks) (Dats.cells ks)]))) 140737488355328 = true := by rw [Nat.ble_eq, hsz]; exact hb2
      refine SWP.runQ (SL ih [(79, [(21, true)]), (19, [(14, true)])] []) 100 79 hnt [] (e := .ret) (z := ⟨[], ⟨[⟨[.ptr 0 0, .own 0 (0 + ByteArray.size (mkS (txC [.int .i64 k, .int .i64 n, .str s, .slice (Dats.len ks) (Dats.cells ks)])))], 67⟩, ⟨[PV.iface 62 (.ptr 0 0), .int .i64 (Int.ofNat w)], 72⟩, ⟨[.int .i64 k, .int .i64 n, .str s, .slice (Dats.len ks) (Dats.cells ks)], 24⟩], [some ⟨[] ++ bytesPV (mkS (txC [.int .i64 k, .int .i64 n, .str s, .slice (Dats.len ks) (Dats.cells ks)])), 0 + ByteArray.size (mkS (txC [.int .i64 k, .int .i64 n, .str s, .slice (Dats.len ks) (Dats.cells ks)])), 5, 1⟩]⟩⟩) (o := [(true, true), (isTxp [PV.int IntKind.i64 k, PV.int IntKind.i64 n, PV.str s, PV.slice (Dats.len ks) (Dats.cells ks)], true), (Int.ofNat (Dats.len ks) == (0 : Int), true), (Nat.ble (0 + ByteArray.size (mkS (txC [PV.int IntKind.i64 k, PV.int IntKind.i64 n, PV.str s, PV.slice (Dats.len ks) (Dats.cells ks)]))) 140737488355328, true)]) (by kernel_rfl) (by repeat' first | exact okO_nil | refine okN ?_ ?_ | assumption | rfl) (fun st hs => fin st _ lg.symm ?_)
      rw [hs, tx, bytesPL_append, List.length_append]; rfl
  have c3 : (Int.ofNat (Dats.len ks) == (0 : Int)) = false := by rw [beq_eq_false_iff_ne]; show (ks.len : Int) ≠ 0; omega
  by_cases hft : c + (textD (.mk k n s ks)).length + r ≤ w
  · obtain ⟨lg, hb2⟩ := short (.inr hft)
    have c5 : decide (IntKind.wrap IntKind.i64 (IntKind.wrap IntKind.i64 ((↑c : Int) + (↑(ByteArray.size (mkS (txC [PV.int IntKind.i64 k, PV.int IntKind.i64 n, PV.str s, PV.slice (Dats.len ks) (Dats.cells ks)]))) : Int)) + (↑r : Int)) ≤ (↑w : Int)) = true := by rw [hwr, decide_eq_true_eq]; omega
    rcases hB with ⟨rfl, rfl⟩ | ⟨rfl, rfl, rfl⟩
    · have c4 : Nat.ble (List.length b + ByteArray.size (mkS (txC [PV.int IntKind.i64 k, PV.int IntKind.i64 n, PV.str s, PV.slice (Dats.len ks) (Dats.cells ks)]))) 140737488355328 = true := by rw [Nat.ble_eq, hsz]; exact hb2
      refine SWP.runQ (SL ih [(8, [(7, true)]), (79, [(21, false), (31, true)]), (19, [(14, true)])] []) 100 79 hnt [] (e := .ret) (z := ⟨[], ⟨[⟨[.ptr 0 0, .own 0 (List.length b + ByteArray.size (mkS (txC [.int .i64 k, .int .i64 n, .str s, .slice (Dats.len ks) (Dats.cells ks)])))], 67⟩, ⟨[PV.iface 62 (.ptr 0 0), .int .i64 (Int.ofNat w)], 72⟩, ⟨[.int .i64 k, .int .i64 n, .str s, .slice (Dats.len ks) (Dats.cells ks)], 24⟩], [some ⟨bytesPL b ++ bytesPV (mkS (txC [.int .i64 k, .int .i64 n, .str s, .slice (Dats.len ks) (Dats.cells ks)])), List.length b + ByteArray.size (mkS (txC [.int .i64 k, .int .i64 n, .str s, .slice (Dats.len ks) (Dats.cells ks)])), 5, 1⟩]⟩⟩) (o := [(decide ((↑(List.length b) : Int) ≤ 2000000), true), (true, true), (isTxp [PV.int IntKind.i64 k, PV.int IntKind.i64 n, PV.str s, PV.slice (Dats.len ks) (Dats.cells ks)], true), (Int.ofNat (Dats.len ks) == (0 : Int), false), (decide (IntKind.wrap IntKind.i64 (IntKind.wrap IntKind.i64 (Int.ofNat (c + ByteArray.size (mkS (txC [PV.int IntKind.i64 k, PV.int IntKind.i64 n, PV.str s, PV.slice (Dats.len ks) (Dats.cells ks)])))) + Int.ofNat r) ≤ Int.ofNat w), true), (Nat.ble (List.length b + ByteArray.size (mkS (txC [PV.int IntKind.i64 k, PV.int IntKind.i64 n, PV.str s, PV.slice (Dats.len ks) (Dats.cells ks)]))) 140737488355328, true)]) (by kernel_rfl) (by repeat' first | exact okO_nil | refine okN ?_ ?_ | assumption | rfl) (fun st hs => fin st _ lg.symm ?_)
      rw [hs, tx, bytesPL_append, List.length_append]; rfl
    · have c4 : Nat.ble (0 + ByteArray.size (mkS (txC [PV.int IntKind.i64 k, PV.int IntKind.i64 n, PV.str s, PV.slice (Dats.len ks) (Dats.cells ks)]))) 140737488355328 = true := by rw [Nat.ble_eq, hsz]; exact hb2
      refine SWP.runQ (SL ih [(79, [(21, false), (31, true)]), (19, [(14, true)])] []) 100 79 hnt [] (e := .ret) (z := ⟨[], ⟨[⟨[.ptr 0 0, .own 0 (0 + ByteArray.size (mkS (txC [.int .i64 k, .int .i64 n, .str s, .slice (Dats.len ks) (Dats.cells ks)])))], 67⟩, ⟨[PV.iface 62 (.ptr 0 0), .int .i64 (Int.ofNat w)], 72⟩, ⟨[.int .i64 k, .int .i64 n, .str s, .slice (Dats.len ks) (Dats.cells ks)], 24⟩], [some ⟨[] ++ bytesPV (mkS (txC [.int .i64 k, .int .i64 n, .str s, .slice (Dats.len ks) (Dats.cells ks)])), 0 + ByteArray.size (mkS (txC [.int .i64 k, .int .i64 n, .str s, .slice (Dats.len ks) (Dats.cells ks)])), 5, 1⟩]⟩⟩) (o := [(true, true), (isTxp [PV.int IntKind.i64 k, PV.int IntKind.i64 n, PV.str s, PV.slice (Dats.len ks) (Dats.cells ks)], true), (Int.ofNat (Dats.len ks) == (0 : Int), false), (decide (IntKind.wrap IntKind.i64 (IntKind.wrap IntKind.i64 (Int.ofNat (c + ByteArray.size (mkS (txC [PV.int IntKind.i64 k, PV.int IntKind.i64 n, PV.str s, PV.slice (Dats.len ks) (Dats.cells ks)])))) + Int.ofNat r) ≤ Int.ofNat w), true), (Nat.ble (0 + ByteArray.size (mkS (txC [PV.int IntKind.i64 k, PV.int IntKind.i64 n, PV.str s, PV.slice (Dats.len ks) (Dats.cells ks)]))) 140737488355328, true)]) (by kernel_rfl) (by repeat' first | exact okO_nil | refine okN ?_ ?_ | assumption | rfl) (fun st hs => fin st _ lg.symm ?_)
      rw [hs, tx, bytesPL_append, List.length_append]; rfl
  have hnot : ¬ (ks.len = 0 ∨ c + (textD (.mk k n s ks)).length + r ≤ w) := fun h => h.elim h0 hft
  have c5 : decide (IntKind.wrap IntKind.i64 (IntKind.wrap IntKind.i64 ((↑c : Int) + (↑(ByteArray.size (mkS (txC [PV.int IntKind.i64 k, PV.int IntKind.i64 n, PV.str s, PV.slice (Dats.len ks) (Dats.cells ks)]))) : Int)) + (↑r : Int)) ≤ (↑w : Int)) = false := by rw [hwr, decide_eq_false_iff_not]; omega
  have lg : layG pS w (.mk k n s ks) c r b = layGL pS w ks true c r true (b ++ [40]) ++ [41] := by
    rw [layG, hmt]; simp only []; rw [if_neg hnot]; rfl
  have hT := layT_list w k n s ks c r hnot
  rw [hT] at hb
  simp only [List.length_cons, List.length_append, List.length_nil] at hb
  have hks : ks.size < N + 1 := by simp only [Dat.size] at hN; omega
  have hfk : formedL ks = true := by
    simp only [formedD, Bool.or_eq_true, Bool.and_eq_true, decide_eq_true_eq] at hfm
    rcases hfm with (h | h) | h
    · exact absurd h.2 h0
    · exact absurd h.2 h0
    · exact h.2
  have hk3 : k = 3 := by
    simp only [formedD, Bool.or_eq_true, Bool.and_eq_true, decide_eq_true_eq] at hfm
    rcases hfm with (h | h) | h
    · exact absurd h.2 h0
    · exact absurd h.2 h0
    · exact h.1.1.1
  have htx : (textD (.mk k n s ks)).length = (textL true ks).length + 2 := by subst hk3; rw [textD, if_neg (by decide), if_neg (by decide)]; simp
  have wc1 : IntKind.wrap IntKind.i64 (Int.ofNat (c + 1)) = ((c + 1 : Nat) : Int) := wrapO _ (by omega)
  have wc1' : IntKind.wrap IntKind.i64 ((c : Int) + 1) = ((c + 1 : Nat) : Int) := wc1
  have wc2 : IntKind.wrap IntKind.i64 (Int.ofNat (c + 2)) = ((c + 2 : Nat) : Int) := wrapO _ (by omega)
  have wc2' : IntKind.wrap IntKind.i64 ((c : Int) + 2) = ((c + 2 : Nat) : Int) := wc2
  have wr1 : IntKind.wrap IntKind.i64 (Int.ofNat (r + 1)) = ((r + 1 : Nat) : Int) := wrapO _ (by omega)
  have wr1' : IntKind.wrap IntKind.i64 ((r : Int) + 1) = ((r + 1 : Nat) : Int) := wr1
  have wl : IntKind.wrap IntKind.i64 (Int.ofNat (Dats.len ks) - (1 : Int)) = ((ks.len - 1 : Nat) : Int) := wrapD _ (by omega) (by omega)
  have rl : ∀ (p : List UInt8) (m : Nat), bytesPL p ++ [PV.int IntKind.u8 (10 : Int)] ++ bytesPL (List.replicate m 32) = bytesPL (p ++ 10 :: List.replicate m 32) := fun p m => by rw [bytesPL_append, List.append_assoc]; rfl
  refine Q.runSeq (SL ih [] []) 100 79 hnt [2, 3, 4, 5] (z := ⟨[(2, .int .i64 c), (3, .int .i64 r), (4, .ptr 1 0), (5, .ptr 2 0)], ⟨[B0, LB w, DB k n s ks], rws⟩⟩) (o := []) (by kernel_rfl) okO_nil ?_
  refine Q.seq fun K hK => ?_
  have r2 : ∀ st, nrm [2, 3, 4, 5] st = ⟨[(2, .int .i64 c), (3, .int .i64 r), (4, .ptr 1 0), (5, .ptr 2 0)], ⟨[B0, LB w, DB k n s ks], rws⟩⟩ → K st := fun st hs => hK st (.norm [2, 3, 4, 5] (by
    rw [hs]
    clear hs hK
    refine Q.runSeq (SL ih [] []) 100 79 hnt [2, 3, 4, 5, 8] (z := ⟨[(2, .int .i64 c), (3, .int .i64 r), (4, .ptr 1 0), (5, .ptr 2 0), (8, .str (mkS (txC [PV.int IntKind.i64 k, PV.int IntKind.i64 n, PV.str s, PV.slice (Dats.len ks) (Dats.cells ks)])))], ⟨[B0, LB w, DB k n s ks], rws⟩⟩) (o := [(true, true), (isTxp [PV.int IntKind.i64 k, PV.int IntKind.i64 n, PV.str s, PV.slice (Dats.len ks) (Dats.cells ks)], true)]) (by kernel_rfl) (by repeat' first | exact okO_nil | refine okN ?_ ?_ | assumption | rfl) ?_
    refine Q.runSeq (SL ih [(79, [(21, false), (31, false)])] []) 100 79 hnt [2, 3, 4, 5] (z := ⟨[(2, .int .i64 c), (3, .int .i64 r), (4, .ptr 1 0), (5, .ptr 2 0)], ⟨[B0, LB w, DB k n s ks], rws⟩⟩) (o := [(Int.ofNat (Dats.len ks) == (0 : Int), false), (decide (IntKind.wrap IntKind.i64 (IntKind.wrap IntKind.i64 ((↑c : Int) + (↑(ByteArray.size (mkS (txC [PV.int IntKind.i64 k, PV.int IntKind.i64 n, PV.str s, PV.slice (Dats.len ks) (Dats.cells ks)]))) : Int)) + (↑r : Int)) ≤ (↑w : Int)), false)]) (by kernel_rfl) (by repeat' first | exact okO_nil | refine okN ?_ ?_ | assumption | rfl) ?_
    refine Q.seq fun K hK => ?_
    have rest : ∀ st, nrm [2, 3, 4, 5] st = ⟨[(2, .int .i64 c), (3, .int .i64 r), (4, .ptr 1 0), (5, .ptr 2 0)], ⟨[pB (b.length + 1), LB w, DB k n s ks], [some (bR (bytesPL b ++ [.int .u8 40]) (b.length + 1))]⟩⟩ → K st := fun st hs => hK st (.norm [2, 3, 4, 5] (by
      rw [hs]
      clear hs hK
      let P (j : Nat) : List UInt8 := layGL pS w (ks.take j) true c r (decide (j = ks.len)) (b ++ [40])
      have hP0 : P 0 = b ++ [40] := by
        simp only [P]
        cases ks <;> rfl
      have hPl : P ks.len = layGL pS w ks true c r true (b ++ [40]) := by simp only [P, take_all, decide_true]
      let T (j : Nat) : AS := ⟨[(2, .int .i64 c), (3, .int .i64 r), (4, .ptr 1 0), (5, .ptr 2 0), (41, .slice ks.len ks.cells), (42, .int .i64 ks.len), (43, .int .i64 j)], ⟨[pB (P j).length, LB w, DB k n s ks], [some (bR (bytesPL (P j)) (P j).length)]⟩⟩
      refine Q.seq fun K2 hK2 => ?_
      refine Q.runSeq (SL ih [] []) 100 79 hnt [2, 3, 4, 5, 41, 42, 43] (z := T 0) (o := []) (by simp only [T, hP0, bytesPL_append, List.length_append]; kernel_rfl) okO_nil ?_
      refine Q.block ?_
      refine Q.loopH (σ := { j : Nat // j ≤ ks.len }) [2, 3, 4, 5, 41, 42, 43] 3 (by rw [hnb]; exact (by decide : 1 ≤ 3)) (fun j => T j.1) (fun j => ks.len - j.1) ⟨0, Nat.zero_le _⟩ (fun j => ⟨rfl, rfl, rfl⟩) ⟨[], by simp only [List.append_nil]; rfl⟩ fun ⟨j, hj⟩ => ?_
      rcases Nat.lt_or_ge j ks.len with hlt | hge
      · obtain ⟨k', n', s', ks', hget⟩ := Dats.get_mk ks j
        have hsz := Dats.get_size ks j hlt
        have hoj := Dats.get_ok ks j hlt hok.2
        have hrj := Dats.get_rng ks j hlt hrng.2
        have hfj := (formedL_iff ks).1 hfk j hlt
        have htj := textL_get ks true j hlt
        have hPj : decide (j = ks.len) = false := decide_eq_false_iff_not.2 (by omega)
        have hPn : P (j + 1) = layG pS w (.mk k' n' s' ks') (if j = 0 ∧ true = true then c + 1 else c + 2) (if decide (j + 1 = ks.len) = true then r + 1 else 0) (if j = 0 ∧ true = true then P j else pS.line (c + 2) (P j)) := by
          have e0 : P (j + 1) = layGL pS w (ks.take (j + 1)) true c r (decide (j + 1 = ks.len)) (b ++ [40]) := rfl
          have e1 : P j = layGL pS w (ks.take j) true c r false (b ++ [40]) := by
            show layGL pS w (ks.take j) true c r (decide (j = ks.len)) (b ++ [40]) = _
            rw [hPj]
          rw [e0, e1, layGL_take pS w c r ks true j _ _ hlt, hget]
        have hbd : (P j).length + (if j = 0 then ([] : List UInt8) else 10 :: List.replicate (c + 2) 32).length + (layT w (.mk k' n' s' ks') (if j = 0 then c + 1 else c + 2) (if j + 1 = ks.len then r + 1 else 0)).length + 1 ≤ 140737488355328 := by
          have h1 : (P j).length ≤ (b ++ [40]).length + (layTL w (ks.take j) true c r false).length := by
            simp only [P, hPj]
            exact lay_lenL _ _ _ _ _ _ _
          have h2 := congrArg List.length (layTL_take w c r ks j (decide (j + 1 = ks.len)) hlt)
          have h3 : (layTL w (ks.take (j + 1)) true c r (decide (j + 1 = ks.len))).length ≤ (layTL w ks true c r true).length := by
            by_cases h : j + 1 = ks.len
            · rw [decide_eq_true h, h, take_all]; exact Nat.le_refl _
            · rw [decide_eq_false h]; exact layTL_mono w c r ks (j + 1) (by omega)
          rw [hget] at h2
          simp only [List.length_append, List.length_cons, List.length_nil, decide_eq_true_eq] at h1 h2
          omega
        rw [hget] at hsz hoj hrj hfj htj
        have hlp : ∀ w c r b, lpC w c r b [PV.int IntKind.i64 k', PV.int IntKind.i64 n', PV.str s', PV.slice (Dats.len ks') (Dats.cells ks')] = layG pS w (.mk k' n' s' ks') c r b := fun w c r b => lpC_at w c r b (.mk k' n' s' ks')
        have hlr : ∀ w c r, lrC w c r [PV.int IntKind.i64 k', PV.int IntKind.i64 n', PV.str s', PV.slice (Dats.len ks') (Dats.cells ks')] = (layT w (.mk k' n' s' ks') c r).length := fun w c r => lrC_at w c r (.mk k' n' s' ks')
        have d1 : isLay N [PV.int IntKind.i64 k', PV.int IntKind.i64 n', PV.str s', PV.slice (Dats.len ks') (Dats.cells ks')] = true := isLay_at (d := .mk k' n' s' ks') (by omega) hoj hrj hfj (by omega)
        have d2 := lt_at hlt
        have d3 := in_at hlt
        have d4 : decide (TD.size d24 ≤ List.length (List.drop (Int.toNat (j : Int) * TD.size d24) (Dats.cells ks))) = true := kid_len hlt
        have d5 := kid_same' hlt hget
        have wj := wrap1 j (by omega)
        show SWP G0 C _ _ ⟨[(2, .int .i64 c), (3, .int .i64 r), (4, .ptr 1 0), (5, .ptr 2 0), (41, .slice ks.len ks.cells), (42, .int .i64 ks.len), (43, .int .i64 j)], ⟨[pB (P j).length, LB w, DB k n s ks], [some (bR (bytesPL (P j)) (P j).length)]⟩⟩
        obtain ⟨p, hp⟩ : ∃ x, x = P j := ⟨_, rfl⟩
        rw [← hp] at hbd hPn ⊢
        clear hp hP0 hPl hK2
        by_cases hz : j = 0 <;> by_cases hl : j + 1 = ks.len
        · have e1 : (Int.ofNat j == IntKind.wrap IntKind.i64 (Int.ofNat (Dats.len ks) - (1 : Int))) = true := by
            rw [wl, beq_iff_eq]
            show (j : Int) = _
            omega
          have e2 : (Int.ofNat j == (0 : Int)) = true := by
            rw [beq_iff_eq]
            show (j : Int) = 0
            omega
          have hPs : P (j + 1) = layG pS w (.mk k' n' s' ks') (c + 1) (r + 1) p := by
            simp only [hPn, and_true, decide_eq_true_eq, if_pos hz, if_pos hl]
            try rfl
          simp only [if_pos hz, if_pos hl, List.length_nil, List.length_cons, List.length_replicate] at hbd
          clear hPn
          refine SWP.runQ (SL ih [(79, [(44, true), (46, true), (47, true), (53, true), (57, true)])] [(79, [(47, .agg [.int .i64 k', .int .i64 n', .str s', .slice ks'.len ks'.cells])])]) 100 79 hnt [2, 3, 4, 5, 41, 42, 43] (e := .normal) (z := ⟨[(2, .int .i64 (Int.ofNat c)), (3, .int .i64 (Int.ofNat r)), (4, .ptr 1 0), (5, .ptr 2 0), (41, .slice (Dats.len ks) (Dats.cells ks)), (42, .int .i64 (Int.ofNat (Dats.len ks))), (43, .int .i64 (IntKind.wrap IntKind.i64 (Int.ofNat (j + 1))))], ⟨[⟨[.ptr 0 0, .own 0 (List.length (lpC (Int.toNat (Int.ofNat w)) (Int.toNat (IntKind.wrap IntKind.i64 (Int.ofNat (c + 1)))) (Int.toNat (IntKind.wrap IntKind.i64 (Int.ofNat (r + 1)))) (bytesOf (bytesPL p)) [.int .i64 k', .int .i64 n', .str s', .slice (Dats.len ks') (Dats.cells ks')]))], 67⟩, ⟨[PV.iface 62 (.ptr 0 0), .int .i64 (Int.ofNat w)], 72⟩, ⟨[.int .i64 k, .int .i64 n, .str s, .slice (Dats.len ks) (Dats.cells ks)], 24⟩, ⟨[.int .i64 k', .int .i64 n', .str s', .slice (Dats.len ks') (Dats.cells ks')], 24⟩], [some ⟨bytesPL (lpC (Int.toNat (Int.ofNat w)) (Int.toNat (IntKind.wrap IntKind.i64 (Int.ofNat (c + 1)))) (Int.toNat (IntKind.wrap IntKind.i64 (Int.ofNat (r + 1)))) (bytesOf (bytesPL p)) [.int .i64 k', .int .i64 n', .str s', .slice (Dats.len ks') (Dats.cells ks')]), List.length (lpC (Int.toNat (Int.ofNat w)) (Int.toNat (IntKind.wrap IntKind.i64 (Int.ofNat (c + 1)))) (Int.toNat (IntKind.wrap IntKind.i64 (Int.ofNat (r + 1)))) (bytesOf (bytesPL p)) [.int .i64 k', .int .i64 n', .str s', .slice (Dats.len ks') (Dats.cells ks')]), 5, 1⟩]⟩⟩) (o := [(decide ((↑j : Int) < (↑(Dats.len ks) : Int)), true), (true, true), (decide (0 ≤ (↑j : Int) ∧ (↑j : Int) < (↑(Dats.len ks) : Int)), true), (decide (TD.size d24 ≤ List.length (List.drop (Int.toNat (↑j : Int) * TD.size d24) (Dats.cells ks))), true), (same (PV.agg (List.take 4 (List.drop (Int.toNat (Int.ofNat j) * 4) (Dats.cells ks)))) (PV.agg [PV.int IntKind.i64 k', PV.int IntKind.i64 n', PV.str s', PV.slice (Dats.len ks') (Dats.cells ks')]), true), (Int.ofNat j == IntKind.wrap IntKind.i64 (Int.ofNat (Dats.len ks) - (1 : Int)), true), (true, true), (Int.ofNat j == (0 : Int), true), (true, true), (isLay N [PV.int IntKind.i64 k', PV.int IntKind.i64 n', PV.str s', PV.slice (Dats.len ks') (Dats.cells ks')], true), (decide (0 ≤ (↑w : Int) ∧ (↑w : Int) ≤ 4398046511104), true), (decide (0 ≤ IntKind.wrap IntKind.i64 ((↑c : Int) + 1) ∧ IntKind.wrap IntKind.i64 ((↑c : Int) + 1) + 2 * (↑N : Int) ≤ 4398046511104), true), (decide (0 ≤ IntKind.wrap IntKind.i64 ((↑r : Int) + 1) ∧ IntKind.wrap IntKind.i64 ((↑r : Int) + 1) + (↑N : Int) ≤ 4398046511104), true), (Nat.beq (List.length p) (List.length p), true), (Nat.beq (List.length (bytesPL p)) (List.length p), true), (isBytes8 (bytesPL p), true), (Nat.ble (List.length p + lrC (Int.toNat (Int.ofNat w)) (Int.toNat (IntKind.wrap IntKind.i64 (Int.ofNat (c + 1)))) (Int.toNat (IntKind.wrap IntKind.i64 (Int.ofNat (r + 1)))) [PV.int IntKind.i64 k', PV.int IntKind.i64 n', PV.str s', PV.slice (Dats.len ks') (Dats.cells ks')]) 140737488355328, true)]) (by kernel_rfl) (by clear hPs; (try simp only [wc1, wc1', wc2, wc2', wr1, wr1', Int.toNat_natCast, toNat_of, bytesPV_mkS, rl, isBytes8_PL, bytesPL_length, mkS_size, List.length_replicate, List.length_append, List.length_cons, List.length_nil, hlr]); (repeat' (first | exact okO_nil | refine okN ?_ ?_)); all_goals first | (with_reducible rfl) | (simp only [decide_eq_true_eq, decide_eq_false_iff_not, Nat.ble_eq, Nat.beq_eq]; omega) | (simp only [Nat.beq_eq]; done) | assumption | rfl | exact same_of rfl) (fun st hs => ⟨⟨j + 1, hlt⟩, Nat.sub_lt_sub_left hlt (Nat.lt_succ_self j), [DB k' n' s' ks'], ?_⟩)
          rw [hs]
          simp only [T, hPs]
          simp only [wc1, wc2, wr1, Int.toNat_natCast, toNat_of, bytesPV_mkS, rl, bytesOf_PL, hlp, show IntKind.wrap IntKind.i64 (Int.ofNat (j + 1)) = ((j + 1 : Nat) : Int) from wj]
          rfl
        · have e1 : (Int.ofNat j == IntKind.wrap IntKind.i64 (Int.ofNat (Dats.len ks) - (1 : Int))) = false := by
            rw [wl, beq_eq_false_iff_ne]
            show (j : Int) ≠ _
            omega
          have e2 : (Int.ofNat j == (0 : Int)) = true := by
            rw [beq_iff_eq]
            show (j : Int) = 0
            omega
          have hPs : P (j + 1) = layG pS w (.mk k' n' s' ks') (c + 1) (0) p := by
            simp only [hPn, and_true, decide_eq_true_eq, if_pos hz, if_neg hl]
            try rfl
          simp only [if_pos hz, if_neg hl, List.length_nil, List.length_cons, List.length_replicate] at hbd
          clear hPn
          refine SWP.runQ (SL ih [(79, [(44, true), (46, true), (47, true), (53, false), (57, true)])] [(79, [(47, .agg [.int .i64 k', .int .i64 n', .str s', .slice ks'.len ks'.cells])])]) 100 79 hnt [2, 3, 4, 5, 41, 42, 43] (e := .normal) (z := ⟨[(2, .int .i64 (Int.ofNat c)), (3, .int .i64 (Int.ofNat r)), (4, .ptr 1 0), (5, .ptr 2 0), (41, .slice (Dats.len ks) (Dats.cells ks)), (42, .int .i64 (Int.ofNat (Dats.len ks))), (43, .int .i64 (IntKind.wrap IntKind.i64 (Int.ofNat (j + 1))))], ⟨[⟨[.ptr 0 0, .own 0 (List.length (lpC (Int.toNat (Int.ofNat w)) (Int.toNat (IntKind.wrap IntKind.i64 (Int.ofNat (c + 1)))) 0 (bytesOf (bytesPL p)) [.int .i64 k', .int .i64 n', .str s', .slice (Dats.len ks') (Dats.cells ks')]))], 67⟩, ⟨[PV.iface 62 (.ptr 0 0), .int .i64 (Int.ofNat w)], 72⟩, ⟨[.int .i64 k, .int .i64 n, .str s, .slice (Dats.len ks) (Dats.cells ks)], 24⟩, ⟨[.int .i64 k', .int .i64 n', .str s', .slice (Dats.len ks') (Dats.cells ks')], 24⟩], [some ⟨bytesPL (lpC (Int.toNat (Int.ofNat w)) (Int.toNat (IntKind.wrap IntKind.i64 (Int.ofNat (c + 1)))) 0 (bytesOf (bytesPL p)) [.int .i64 k', .int .i64 n', .str s', .slice (Dats.len ks') (Dats.cells ks')]), List.length (lpC (Int.toNat (Int.ofNat w)) (Int.toNat (IntKind.wrap IntKind.i64 (Int.ofNat (c + 1)))) 0 (bytesOf (bytesPL p)) [.int .i64 k', .int .i64 n', .str s', .slice (Dats.len ks') (Dats.cells ks')]), 5, 1⟩]⟩⟩) (o := [(decide ((↑j : Int) < (↑(Dats.len ks) : Int)), true), (true, true), (decide (0 ≤ (↑j : Int) ∧ (↑j : Int) < (↑(Dats.len ks) : Int)), true), (decide (TD.size d24 ≤ List.length (List.drop (Int.toNat (↑j : Int) * TD.size d24) (Dats.cells ks))), true), (same (PV.agg (List.take 4 (List.drop (Int.toNat (Int.ofNat j) * 4) (Dats.cells ks)))) (PV.agg [PV.int IntKind.i64 k', PV.int IntKind.i64 n', PV.str s', PV.slice (Dats.len ks') (Dats.cells ks')]), true), (Int.ofNat j == IntKind.wrap IntKind.i64 (Int.ofNat (Dats.len ks) - (1 : Int)), false), (false, false), (Int.ofNat j == (0 : Int), true), (true, true), (isLay N [PV.int IntKind.i64 k', PV.int IntKind.i64 n', PV.str s', PV.slice (Dats.len ks') (Dats.cells ks')], true), (decide (0 ≤ (↑w : Int) ∧ (↑w : Int) ≤ 4398046511104), true), (decide (0 ≤ IntKind.wrap IntKind.i64 ((↑c : Int) + 1) ∧ IntKind.wrap IntKind.i64 ((↑c : Int) + 1) + 2 * (↑N : Int) ≤ 4398046511104), true), (decide ((0 : Int) ≤ 0 ∧ 0 + (↑N : Int) ≤ 4398046511104), true), (Nat.beq (List.length p) (List.length p), true), (Nat.beq (List.length (bytesPL p)) (List.length p), true), (isBytes8 (bytesPL p), true), (Nat.ble (List.length p + lrC (Int.toNat (Int.ofNat w)) (Int.toNat (IntKind.wrap IntKind.i64 (Int.ofNat (c + 1)))) 0 [PV.int IntKind.i64 k', PV.int IntKind.i64 n', PV.str s', PV.slice (Dats.len ks') (Dats.cells ks')]) 140737488355328, true)]) (by kernel_rfl) (by clear hPs; (try simp only [wc1, wc1', wc2, wc2', wr1, wr1', Int.toNat_natCast, toNat_of, bytesPV_mkS, rl, isBytes8_PL, bytesPL_length, mkS_size, List.length_replicate, List.length_append, List.length_cons, List.length_nil, hlr]); (repeat' (first | exact okO_nil | refine okN ?_ ?_)); all_goals first | (with_reducible rfl) | (simp only [decide_eq_true_eq, decide_eq_false_iff_not, Nat.ble_eq, Nat.beq_eq]; omega) | (simp only [Nat.beq_eq]; done) | assumption | rfl | exact same_of rfl) (fun st hs => ⟨⟨j + 1, hlt⟩, Nat.sub_lt_sub_left hlt (Nat.lt_succ_self j), [DB k' n' s' ks'], ?_⟩)
          rw [hs]
          simp only [T, hPs]
          simp only [wc1, wc2, wr1, Int.toNat_natCast, toNat_of, bytesPV_mkS, rl, bytesOf_PL, hlp, show IntKind.wrap IntKind.i64 (Int.ofNat (j + 1)) = ((j + 1 : Nat) : Int) from wj]
          rfl
        · have e1 : (Int.ofNat j == IntKind.wrap IntKind.i64 (Int.ofNat (Dats.len ks) - (1 : Int))) = true := by
            rw [wl, beq_iff_eq]
            show (j : Int) = _
            omega
          have e2 : (Int.ofNat j == (0 : Int)) = false := by
            rw [beq_eq_false_iff_ne]
            show (j : Int) ≠ 0
            omega
          have hPs : P (j + 1) = layG pS w (.mk k' n' s' ks') (c + 2) (r + 1) (p ++ 10 :: List.replicate (c + 2) 32) := by
            simp only [hPn, and_true, decide_eq_true_eq, if_neg hz, if_pos hl]
            try rfl
          simp only [if_neg hz, if_pos hl, List.length_nil, List.length_cons, List.length_replicate] at hbd
          clear hPn
          refine SWP.runQ (SL ih [(79, [(44, true), (46, true), (47, true), (53, true), (57, false)]), (17, [(14, true)]), (19, [(14, true)])] [(79, [(47, .agg [.int .i64 k', .int .i64 n', .str s', .slice ks'.len ks'.cells])])]) 100 79 hnt [2, 3, 4, 5, 41, 42, 43] (e := .normal) (z := ⟨[(2, .int .i64 (Int.ofNat c)), (3, .int .i64 (Int.ofNat r)), (4, .ptr 1 0), (5, .ptr 2 0), (41, .slice (Dats.len ks) (Dats.cells ks)), (42, .int .i64 (Int.ofNat (Dats.len ks))), (43, .int .i64 (IntKind.wrap IntKind.i64 (Int.ofNat (j + 1))))], ⟨[⟨[.ptr 0 0, .own 0 (List.length (lpC (Int.toNat (Int.ofNat w)) (Int.toNat (IntKind.wrap IntKind.i64 (Int.ofNat (c + 2)))) (Int.toNat (IntKind.wrap IntKind.i64 (Int.ofNat (r + 1)))) (bytesOf (bytesPL p ++ [PV.int IntKind.u8 (10 : Int)] ++ bytesPV (mkS (List.replicate (Int.toNat (IntKind.wrap IntKind.i64 (Int.ofNat (c + 2)))) 32)))) [.int .i64 k', .int .i64 n', .str s', .slice (Dats.len ks') (Dats.cells ks')]))], 67⟩, ⟨[PV.iface 62 (.ptr 0 0), .int .i64 (Int.ofNat w)], 72⟩, ⟨[.int .i64 k, .int .i64 n, .str s, .slice (Dats.len ks) (Dats.cells ks)], 24⟩, ⟨[.int .i64 k', .int .i64 n', .str s', .slice (Dats.len ks') (Dats.cells ks')], 24⟩], [some ⟨bytesPL (lpC (Int.toNat (Int.ofNat w)) (Int.toNat (IntKind.wrap IntKind.i64 (Int.ofNat (c + 2)))) (Int.toNat (IntKind.wrap IntKind.i64 (Int.ofNat (r + 1)))) (bytesOf (bytesPL p ++ [PV.int IntKind.u8 (10 : Int)] ++ bytesPV (mkS (List.replicate (Int.toNat (IntKind.wrap IntKind.i64 (Int.ofNat (c + 2)))) 32)))) [.int .i64 k', .int .i64 n', .str s', .slice (Dats.len ks') (Dats.cells ks')]), List.length (lpC (Int.toNat (Int.ofNat w)) (Int.toNat (IntKind.wrap IntKind.i64 (Int.ofNat (c + 2)))) (Int.toNat (IntKind.wrap IntKind.i64 (Int.ofNat (r + 1)))) (bytesOf (bytesPL p ++ [PV.int IntKind.u8 (10 : Int)] ++ bytesPV (mkS (List.replicate (Int.toNat (IntKind.wrap IntKind.i64 (Int.ofNat (c + 2)))) 32)))) [.int .i64 k', .int .i64 n', .str s', .slice (Dats.len ks') (Dats.cells ks')]), 5, 1⟩]⟩⟩) (o := [(decide ((↑j : Int) < (↑(Dats.len ks) : Int)), true), (true, true), (decide (0 ≤ (↑j : Int) ∧ (↑j : Int) < (↑(Dats.len ks) : Int)), true), (decide (TD.size d24 ≤ List.length (List.drop (Int.toNat (↑j : Int) * TD.size d24) (Dats.cells ks))), true), (same (PV.agg (List.take 4 (List.drop (Int.toNat (Int.ofNat j) * 4) (Dats.cells ks)))) (PV.agg [PV.int IntKind.i64 k', PV.int IntKind.i64 n', PV.str s', PV.slice (Dats.len ks') (Dats.cells ks')]), true), (Int.ofNat j == IntKind.wrap IntKind.i64 (Int.ofNat (Dats.len ks) - (1 : Int)), true), (true, true), (Int.ofNat j == (0 : Int), false), (false, false), (true, true), (Nat.ble ((List.length p + 1) * 1) 140737488355328, true), (Nat.ble (List.length p + 1) 9223372036854775807, true), (true, true), (decide (0 ≤ IntKind.wrap IntKind.i64 ((↑c : Int) + 2) ∧ IntKind.wrap IntKind.i64 ((↑c : Int) + 2) ≤ 140737488355328), true), (Nat.ble (List.length p + 1 + ByteArray.size (mkS (List.replicate (Int.toNat (IntKind.wrap IntKind.i64 (Int.ofNat (c + 2)))) 32))) 140737488355328, true), (isLay N [PV.int IntKind.i64 k', PV.int IntKind.i64 n', PV.str s', PV.slice (Dats.len ks') (Dats.cells ks')], true), (decide (0 ≤ (↑w : Int) ∧ (↑w : Int) ≤ 4398046511104), true), (decide (0 ≤ IntKind.wrap IntKind.i64 ((↑c : Int) + 2) ∧ IntKind.wrap IntKind.i64 ((↑c : Int) + 2) + 2 * (↑N : Int) ≤ 4398046511104), true), (decide (0 ≤ IntKind.wrap IntKind.i64 ((↑r : Int) + 1) ∧ IntKind.wrap IntKind.i64 ((↑r : Int) + 1) + (↑N : Int) ≤ 4398046511104), true), (Nat.beq (List.length p + 1 + ByteArray.size (mkS (List.replicate (Int.toNat (IntKind.wrap IntKind.i64 (Int.ofNat (c + 2)))) 32))) (List.length p + 1 + ByteArray.size (mkS (List.replicate (Int.toNat (IntKind.wrap IntKind.i64 (Int.ofNat (c + 2)))) 32))), true), (Nat.beq (List.length (bytesPL p ++ [PV.int IntKind.u8 (10 : Int)] ++ bytesPV (mkS (List.replicate (Int.toNat (IntKind.wrap IntKind.i64 (Int.ofNat (c + 2)))) 32)))) (List.length p + 1 + ByteArray.size (mkS (List.replicate (Int.toNat (IntKind.wrap IntKind.i64 (Int.ofNat (c + 2)))) 32))), true), (isBytes8 (bytesPL p ++ [PV.int IntKind.u8 (10 : Int)] ++ bytesPV (mkS (List.replicate (Int.toNat (IntKind.wrap IntKind.i64 (Int.ofNat (c + 2)))) 32))), true), (Nat.ble (List.length p + 1 + ByteArray.size (mkS (List.replicate (Int.toNat (IntKind.wrap IntKind.i64 (Int.ofNat (c + 2)))) 32)) + lrC (Int.toNat (Int.ofNat w)) (Int.toNat (IntKind.wrap IntKind.i64 (Int.ofNat (c + 2)))) (Int.toNat (IntKind.wrap IntKind.i64 (Int.ofNat (r + 1)))) [PV.int IntKind.i64 k', PV.int IntKind.i64 n', PV.str s', PV.slice (Dats.len ks') (Dats.cells ks')]) 140737488355328, true)]) (by kernel_rfl) (by clear hPs; (try simp only [wc1, wc1', wc2, wc2', wr1, wr1', Int.toNat_natCast, toNat_of, bytesPV_mkS, rl, isBytes8_PL, bytesPL_length, mkS_size, List.length_replicate, List.length_append, List.length_cons, List.length_nil, hlr]); (repeat' (first | exact okO_nil | refine okN ?_ ?_)); all_goals first | (with_reducible rfl) | (simp only [decide_eq_true_eq, decide_eq_false_iff_not, Nat.ble_eq, Nat.beq_eq]; omega) | (simp only [Nat.beq_eq]; done) | assumption | rfl | exact same_of rfl) (fun st hs => ⟨⟨j + 1, hlt⟩, Nat.sub_lt_sub_left hlt (Nat.lt_succ_self j), [DB k' n' s' ks'], ?_⟩)
          rw [hs]
          simp only [T, hPs]
          simp only [wc1, wc2, wr1, Int.toNat_natCast, toNat_of, bytesPV_mkS, rl, bytesOf_PL, hlp, show IntKind.wrap IntKind.i64 (Int.ofNat (j + 1)) = ((j + 1 : Nat) : Int) from wj]
          rfl
        · have e1 : (Int.ofNat j == IntKind.wrap IntKind.i64 (Int.ofNat (Dats.len ks) - (1 : Int))) = false := by
            rw [wl, beq_eq_false_iff_ne]
            show (j : Int) ≠ _
            omega
          have e2 : (Int.ofNat j == (0 : Int)) = false := by
            rw [beq_eq_false_iff_ne]
            show (j : Int) ≠ 0
            omega
          have hPs : P (j + 1) = layG pS w (.mk k' n' s' ks') (c + 2) (0) (p ++ 10 :: List.replicate (c + 2) 32) := by
            simp only [hPn, and_true, decide_eq_true_eq, if_neg hz, if_neg hl]
            try rfl
          simp only [if_neg hz, if_neg hl, List.length_nil, List.length_cons, List.length_replicate] at hbd
          clear hPn
          refine SWP.runQ (SL ih [(79, [(44, true), (46, true), (47, true), (53, false), (57, false)]), (17, [(14, true)]), (19, [(14, true)])] [(79, [(47, .agg [.int .i64 k', .int .i64 n', .str s', .slice ks'.len ks'.cells])])]) 100 79 hnt [2, 3, 4, 5, 41, 42, 43] (e := .normal) (z := ⟨[(2, .int .i64 (Int.ofNat c)), (3, .int .i64 (Int.ofNat r)), (4, .ptr 1 0), (5, .ptr 2 0), (41, .slice (Dats.len ks) (Dats.cells ks)), (42, .int .i64 (Int.ofNat (Dats.len ks))), (43, .int .i64 (IntKind.wrap IntKind.i64 (Int.ofNat (j + 1))))], ⟨[⟨[.ptr 0 0, .own 0 (List.length (lpC (Int.toNat (Int.ofNat w)) (Int.toNat (IntKind.wrap IntKind.i64 (Int.ofNat (c + 2)))) 0 (bytesOf (bytesPL p ++ [PV.int IntKind.u8 (10 : Int)] ++ bytesPV (mkS (List.replicate (Int.toNat (IntKind.wrap IntKind.i64 (Int.ofNat (c + 2)))) 32)))) [.int .i64 k', .int .i64 n', .str s', .slice (Dats.len ks') (Dats.cells ks')]))], 67⟩, ⟨[PV.iface 62 (.ptr 0 0), .int .i64 (Int.ofNat w)], 72⟩, ⟨[.int .i64 k, .int .i64 n, .str s, .slice (Dats.len ks) (Dats.cells ks)], 24⟩, ⟨[.int .i64 k', .int .i64 n', .str s', .slice (Dats.len ks') (Dats.cells ks')], 24⟩], [some ⟨bytesPL (lpC (Int.toNat (Int.ofNat w)) (Int.toNat (IntKind.wrap IntKind.i64 (Int.ofNat (c + 2)))) 0 (bytesOf (bytesPL p ++ [PV.int IntKind.u8 (10 : Int)] ++ bytesPV (mkS (List.replicate (Int.toNat (IntKind.wrap IntKind.i64 (Int.ofNat (c + 2)))) 32)))) [.int .i64 k', .int .i64 n', .str s', .slice (Dats.len ks') (Dats.cells ks')]), List.length (lpC (Int.toNat (Int.ofNat w)) (Int.toNat (IntKind.wrap IntKind.i64 (Int.ofNat (c + 2)))) 0 (bytesOf (bytesPL p ++ [PV.int IntKind.u8 (10 : Int)] ++ bytesPV (mkS (List.replicate (Int.toNat (IntKind.wrap IntKind.i64 (Int.ofNat (c + 2)))) 32)))) [.int .i64 k', .int .i64 n', .str s', .slice (Dats.len ks') (Dats.cells ks')]), 5, 1⟩]⟩⟩) (o := [(decide ((↑j : Int) < (↑(Dats.len ks) : Int)), true), (true, true), (decide (0 ≤ (↑j : Int) ∧ (↑j : Int) < (↑(Dats.len ks) : Int)), true), (decide (TD.size d24 ≤ List.length (List.drop (Int.toNat (↑j : Int) * TD.size d24) (Dats.cells ks))), true), (same (PV.agg (List.take 4 (List.drop (Int.toNat (Int.ofNat j) * 4) (Dats.cells ks)))) (PV.agg [PV.int IntKind.i64 k', PV.int IntKind.i64 n', PV.str s', PV.slice (Dats.len ks') (Dats.cells ks')]), true), (Int.ofNat j == IntKind.wrap IntKind.i64 (Int.ofNat (Dats.len ks) - (1 : Int)), false), (false, false), (Int.ofNat j == (0 : Int), false), (false, false), (true, true), (Nat.ble ((List.length p + 1) * 1) 140737488355328, true), (Nat.ble (List.length p + 1) 9223372036854775807, true), (true, true), (decide (0 ≤ IntKind.wrap IntKind.i64 ((↑c : Int) + 2) ∧ IntKind.wrap IntKind.i64 ((↑c : Int) + 2) ≤ 140737488355328), true), (Nat.ble (List.length p + 1 + ByteArray.size (mkS (List.replicate (Int.toNat (IntKind.wrap IntKind.i64 (Int.ofNat (c + 2)))) 32))) 140737488355328, true), (isLay N [PV.int IntKind.i64 k', PV.int IntKind.i64 n', PV.str s', PV.slice (Dats.len ks') (Dats.cells ks')], true), (decide (0 ≤ (↑w : Int) ∧ (↑w : Int) ≤ 4398046511104), true), (decide (0 ≤ IntKind.wrap IntKind.i64 ((↑c : Int) + 2) ∧ IntKind.wrap IntKind.i64 ((↑c : Int) + 2) + 2 * (↑N : Int) ≤ 4398046511104), true), (decide ((0 : Int) ≤ 0 ∧ 0 + (↑N : Int) ≤ 4398046511104), true), (Nat.beq (List.length p + 1 + ByteArray.size (mkS (List.replicate (Int.toNat (IntKind.wrap IntKind.i64 (Int.ofNat (c + 2)))) 32))) (List.length p + 1 + ByteArray.size (mkS (List.replicate (Int.toNat (IntKind.wrap IntKind.i64 (Int.ofNat (c + 2)))) 32))), true), (Nat.beq (List.length (bytesPL p ++ [PV.int IntKind.u8 (10 : Int)] ++ bytesPV (mkS (List.replicate (Int.toNat (IntKind.wrap IntKind.i64 (Int.ofNat (c + 2)))) 32)))) (List.length p + 1 + ByteArray.size (mkS (List.replicate (Int.toNat (IntKind.wrap IntKind.i64 (Int.ofNat (c + 2)))) 32))), true), (isBytes8 (bytesPL p ++ [PV.int IntKind.u8 (10 : Int)] ++ bytesPV (mkS (List.replicate (Int.toNat (IntKind.wrap IntKind.i64 (Int.ofNat (c + 2)))) 32))), true), (Nat.ble (List.length p + 1 + ByteArray.size (mkS (List.replicate (Int.toNat (IntKind.wrap IntKind.i64 (Int.ofNat (c + 2)))) 32)) + lrC (Int.toNat (Int.ofNat w)) (Int.toNat (IntKind.wrap IntKind.i64 (Int.ofNat (c + 2)))) 0 [PV.int IntKind.i64 k', PV.int IntKind.i64 n', PV.str s', PV.slice (Dats.len ks') (Dats.cells ks')]) 140737488355328, true)]) (by kernel_rfl) (by clear hPs; (try simp only [wc1, wc1', wc2, wc2', wr1, wr1', Int.toNat_natCast, toNat_of, bytesPV_mkS, rl, isBytes8_PL, bytesPL_length, mkS_size, List.length_replicate, List.length_append, List.length_cons, List.length_nil, hlr]); (repeat' (first | exact okO_nil | refine okN ?_ ?_)); all_goals first | (with_reducible rfl) | (simp only [decide_eq_true_eq, decide_eq_false_iff_not, Nat.ble_eq, Nat.beq_eq]; omega) | (simp only [Nat.beq_eq]; done) | assumption | rfl | exact same_of rfl) (fun st hs => ⟨⟨j + 1, hlt⟩, Nat.sub_lt_sub_left hlt (Nat.lt_succ_self j), [DB k' n' s' ks'], ?_⟩)
          rw [hs]
          simp only [T, hPs]
          simp only [wc1, wc2, wr1, Int.toNat_natCast, toNat_of, bytesPV_mkS, rl, bytesOf_PL, hlp, show IntKind.wrap IntKind.i64 (Int.ofNat (j + 1)) = ((j + 1 : Nat) : Int) from wj]
          rfl
      · obtain rfl : j = ks.len := by omega
        have d2 := ge_at hge
        have hpl : (P ks.len).length ≤ b.length + 1 + (layTL w ks true c r true).length := by
          rw [hPl]
          have := lay_lenL w ks true c r true (b ++ [40])
          simpa using this
        show SWP G0 C _ _ ⟨[(2, .int .i64 c), (3, .int .i64 r), (4, .ptr 1 0), (5, .ptr 2 0), (41, .slice ks.len ks.cells), (42, .int .i64 ks.len), (43, .int .i64 ks.len)], ⟨[pB (P ks.len).length, LB w, DB k n s ks], [some (bR (bytesPL (P ks.len)) (P ks.len).length)]⟩⟩
        obtain ⟨p, hp⟩ : ∃ x, x = P ks.len := ⟨_, rfl⟩
        rw [← hp] at hpl hPl ⊢
        refine SWP.runQ (SL ih [(79, [(44, false)])] []) 100 79 hnt [2, 3, 4, 5] (e := .exit 0) (z := ⟨[(2, .int .i64 c), (3, .int .i64 r), (4, .ptr 1 0), (5, .ptr 2 0)], ⟨[pB p.length, LB w, DB k n s ks], [some (bR (bytesPL p) p.length)]⟩⟩) (o := [(decide ((ks.len : Int) < (ks.len : Int)), false), (false, false)]) (by kernel_rfl) (by repeat' first | exact okO_nil | refine okN ?_ ?_ | assumption | rfl) (fun st hs => hK2 st (.norm [2, 3, 4, 5] ?_))
        rw [hs]
        have d8 : Nat.ble (List.length p + 1) 140737488355328 = true := by rw [Nat.ble_eq]; omega
        refine SWP.runQ (SL ih [(19, [(14, true)])] []) 100 79 hnt [] (e := .normal) (z := ⟨[], ⟨[⟨[.ptr 0 0, .own 0 (List.length p + 1)], 67⟩, ⟨[PV.iface 62 (.ptr 0 0), .int .i64 (Int.ofNat w)], 72⟩, ⟨[.int .i64 k, .int .i64 n, .str s, .slice (Dats.len ks) (Dats.cells ks)], 24⟩], [some ⟨bytesPL p ++ [PV.int IntKind.u8 (41 : Int)], List.length p + 1, 5, 1⟩]⟩⟩) (o := [(Nat.ble (List.length p + 1) 140737488355328, true)]) (by kernel_rfl) (by repeat' first | exact okO_nil | refine okN ?_ ?_ | assumption | rfl) (fun st hs => fin st (p ++ [41]) (by rw [lg, hPl]) ?_)
        rw [hs, bytesPL_append, List.length_append]; rfl))
    rcases hB with ⟨rfl, rfl⟩ | ⟨rfl, rfl, rfl⟩
    · have d8 : Nat.ble (List.length b + 1) 140737488355328 = true := by rw [Nat.ble_eq]; omega
      exact SWP.runQ (SL ih [(19, [(14, true)])] []) 100 79 hnt [2, 3, 4, 5] (e := .normal) (z := ⟨[(2, .int .i64 (Int.ofNat c)), (3, .int .i64 (Int.ofNat r)), (4, .ptr 1 0), (5, .ptr 2 0)], ⟨[⟨[.ptr 0 0, .own 0 (List.length b + 1)], 67⟩, ⟨[PV.iface 62 (.ptr 0 0), .int .i64 (Int.ofNat w)], 72⟩, ⟨[.int .i64 k, .int .i64 n, .str s, .slice (Dats.len ks) (Dats.cells ks)], 24⟩], [some ⟨bytesPL b ++ [PV.int IntKind.u8 (40 : Int)], List.length b + 1, 5, 1⟩]⟩⟩) (o := [(Nat.ble (List.length b + 1) 140737488355328, true)]) (by kernel_rfl) (by repeat' first | exact okO_nil | refine okN ?_ ?_ | assumption | rfl) (fun st hs => rest st hs)
    · exact SWP.runQ (SL ih [(19, [(14, true)])] []) 100 79 hnt [2, 3, 4, 5] (e := .normal) (z := ⟨[(2, .int .i64 (Int.ofNat c)), (3, .int .i64 (Int.ofNat r)), (4, .ptr 1 0), (5, .ptr 2 0)], ⟨[⟨[.ptr 0 0, .own 0 1], 67⟩, ⟨[PV.iface 62 (.ptr 0 0), .int .i64 (Int.ofNat w)], 72⟩, ⟨[.int .i64 k, .int .i64 n, .str s, .slice (Dats.len ks) (Dats.cells ks)], 24⟩], [some ⟨[PV.int IntKind.u8 (40 : Int)], 1, 5, 1⟩]⟩⟩) (o := [(true, true)]) (by kernel_rfl) (by repeat' first | exact okO_nil | refine okN ?_ ?_ | assumption | rfl) (fun st hs => rest st hs)))
  rcases hB with ⟨rfl, rfl⟩ | ⟨rfl, rfl, rfl⟩
  · exact SWP.runQ (SL ih [(8, [(7, true)])] []) 100 79 hnt [2, 3, 4, 5] (e := .normal) (z := ⟨[(2, .int .i64 (Int.ofNat c)), (3, .int .i64 (Int.ofNat r)), (4, .ptr 1 0), (5, .ptr 2 0)], ⟨[⟨[.ptr 0 0, .own 0 (List.length b)], 67⟩, ⟨[PV.iface 62 (.ptr 0 0), .int .i64 (Int.ofNat w)], 72⟩, ⟨[.int .i64 k, .int .i64 n, .str s, .slice (Dats.len ks) (Dats.cells ks)], 24⟩], [some ⟨bytesPL b, List.length b, 5, 1⟩]⟩⟩) (o := [(decide ((↑(List.length b) : Int) ≤ 2000000), true)]) (by kernel_rfl) (by repeat' first | exact okO_nil | refine okN ?_ ?_ | assumption | rfl) (fun st hs => r2 st hs)
  · exact SWP.runQ (SL ih [] []) 100 79 hnt [2, 3, 4, 5] (e := .normal) (z := ⟨[(2, .int .i64 (Int.ofNat c)), (3, .int .i64 (Int.ofNat r)), (4, .ptr 1 0), (5, .ptr 2 0)], ⟨[⟨[PV.nilptr, PV.nil], 67⟩, ⟨[PV.iface 62 (.ptr 0 0), .int .i64 (Int.ofNat w)], 72⟩, ⟨[.int .i64 k, .int .i64 n, .str s, .slice (Dats.len ks) (Dats.cells ks)], 24⟩], []⟩⟩) (o := []) (by kernel_rfl) (by repeat' first | exact okO_nil | refine okN ?_ ?_ | assumption | rfl) (fun st hs => r2 st hs)
theorem layAt (N : Nat) : LayAt N := by
  induction N with
  | zero => intro d h; omega
  | succ N ih => exact fun d hN hok hrng hf ht w c r hw hc hr b hb => lay_gen ih d hN hok hrng hf ht w c r hw hc hr _ _ b (.inl ⟨rfl, rfl⟩) hb
theorem lay_new (d : Dat) (hok : d.ok) (hrng : d.rng) (hf : formedD d = true) (ht : (textD d).length ≤ 4398046511104) (w c r : Nat) (hw : w ≤ 4398046511104) (hc : c + 2 * (d.size + 2) ≤ 4398046511104) (hr : r + (d.size + 2) ≤ 4398046511104) (hb : (layT w d c r).length ≤ 140737488355328) :
    RCalls G0 26 [.agg [.iface 62 (.ptr 0 0), .int .i64 w], .agg d.cells, .int .i64 c, .int .i64 r] ⟨[pB0], []⟩ (fun o H => o = .ret (.tup []) ∧ H = ⟨[pB (layG pS w d c r []).length], [some (bR (bytesPL (layG pS w d c r [])) (layG pS w d c r []).length)]⟩) :=
  lay_gen (layAt (d.size + 1)) d (by omega) hok hrng hf ht w c r hw (by omega) (by omega) pB0 [] [] (.inr ⟨rfl, rfl, rfl⟩) (by simpa using hb)
end Seat
end Go.Proofs.YtkblfapbakfgpaaGreatDoor
namespace Go.Proofs.YtkblfapbakfgpaaGreatDoor
open Go.AS Go.RowKit
set_option linter.unusedVariables false
set_option linter.unusedSimpArgs false
set_option maxRecDepth 100000
set_option maxHeartbeats 4000000
namespace Seat
def mB (x y z : Nat) : Box := ⟨[.int .i64 x, .int .i64 y, .int .i64 z], 79⟩
def mT (t : Nat × Nat × Nat) : Box := mB t.1 t.2.1 t.2.2
noncomputable def lmC (w c r : Nat) (t : Nat × Nat × Nat) (cs : List PV) : Nat × Nat × Nat := ofCells (fun d => layG mS w d c r t) (0, 0, 0) cs
theorem lmC_at (w c r : Nat) (t : Nat × Nat × Nat) (d : Dat) : lmC w c r t d.cells = layG mS w d c r t := ofCells_at _ _ d
def MetAt (N : Nat) : Prop := ∀ d : Dat, d.size < N → d.ok → d.rng → formedD d = true → (textD d).length ≤ 4398046511104 → ∀ w c r : Nat, w ≤ 4398046511104 → c + 2 * N ≤ 4398046511104 → r + N ≤ 4398046511104 → ∀ x y z : Nat, x + (layT w d c r).length ≤ 140737488355328 → y + (layT w d c r).length ≤ 140737488355328 →
  RCalls G0 26 [.agg [.iface 75 (.ptr 0 0), .int .i64 w], .agg d.cells, .int .i64 c, .int .i64 r] ⟨[mB x y z], []⟩ (fun o H => o = .ret (.tup []) ∧ H = ⟨[mT (layG mS w d c r (x, y, z))], []⟩)
noncomputable def metV (N : Nat) (f : Nat) (xs : List PV) (H : Hp) : Option (PV × Hp × Ob) := match f, xs, H with
  | 26, [.agg [.iface tp (.ptr 0 0), .int .i64 w], .agg cs, .int .i64 c, .int .i64 r], ⟨[⟨[.int .i64 x, .int .i64 y, .int .i64 z], ty⟩], []⟩ => match Nat.beq tp 75 && Nat.beq ty 79 with
    | true => some (.tup [], ⟨[⟨[.int .i64 (lmC w.toNat c.toNat r.toNat (x.toNat, y.toNat, z.toNat) cs).1, .int .i64 (lmC w.toNat c.toNat r.toNat (x.toNat, y.toNat, z.toNat) cs).2.1, .int .i64 (lmC w.toNat c.toNat r.toNat (x.toNat, y.toNat, z.toNat) cs).2.2], ty⟩], []⟩,
        [(isLay N cs, true), (decide (0 ≤ w ∧ w ≤ 4398046511104), true), (decide (0 ≤ c ∧ c + 2 * (N : Int) ≤ 4398046511104), true), (decide (0 ≤ r ∧ r + (N : Int) ≤ 4398046511104), true), (decide (0 ≤ x), true), (decide (0 ≤ y), true), (decide (0 ≤ z), true), (Nat.ble (x.toNat + lrC w.toNat c.toNat r.toNat cs) 140737488355328, true), (Nat.ble (y.toNat + lrC w.toNat c.toNat r.toNat cs) 140737488355328, true)])
    | false => none
  | _, _, _ => none
theorem metV_ok {N : Nat} (ih : MetAt N) (f : Nat) (xs : List PV) (H : Hp) (r : PV) (H' : Hp) (o : Ob) (h : metV N f xs H = some (r, H', o)) (ho : ∀ p ∈ o, p.1 = p.2) : RCalls G0 f xs H (fun o' H2 => o' = .ret r ∧ H2 = H') ∧ r.scP (belowN H'.bx.length) (belowN H'.rw.length) = true ∧ H'.scB H'.bx.length H'.rw.length = true := by
  unfold metV at h
  split at h
  · rename_i tp w cs c r' x y z ty
    split at h
    · rename_i hc
      cases h
      simp only [Bool.and_eq_true, Nat.beq_eq] at hc
      obtain ⟨rfl, rfl⟩ := hc
      obtain ⟨d, rfl, h1, h2, h3, h4, h5⟩ := isLay_of (ho (isLay N cs, true) (by simp))
      have g1 := of_decide_eq_true (ho (decide (0 ≤ w ∧ w ≤ 4398046511104), true) (by simp))
      have g2 := of_decide_eq_true (ho (decide (0 ≤ c ∧ c + 2 * (N : Int) ≤ 4398046511104), true) (by simp))
      have g3 := of_decide_eq_true (ho (decide (0 ≤ r' ∧ r' + (N : Int) ≤ 4398046511104), true) (by simp))
      have g4 := of_decide_eq_true (ho (decide (0 ≤ x), true) (by simp))
      have g5 := of_decide_eq_true (ho (decide (0 ≤ y), true) (by simp))
      have g6 := of_decide_eq_true (ho (decide (0 ≤ z), true) (by simp))
      have g7 := ho (Nat.ble (x.toNat + lrC w.toNat c.toNat r'.toNat d.cells) 140737488355328, true) (by simp)
      have g8 := ho (Nat.ble (y.toNat + lrC w.toNat c.toNat r'.toNat d.cells) 140737488355328, true) (by simp)
      simp only [Nat.ble_eq] at g7 g8
      rw [lrC_at] at g7 g8
      rw [lmC_at]
      have key := ih d h1 h2 h3 h4 h5 w.toNat c.toNat r'.toNat (by omega) (by omega) (by omega) x.toNat y.toNat z.toNat g7 g8
      rw [mB, Int.toNat_of_nonneg g1.1, Int.toNat_of_nonneg g2.1, Int.toNat_of_nonneg g3.1, Int.toNat_of_nonneg g4, Int.toNat_of_nonneg g5, Int.toNat_of_nonneg g6] at key
      exact ⟨key, rfl, rfl⟩
    · cases h
  · cases h
def hpM (f : Nat) : Bool := hasN [131, 130, 129] f
noncomputable def SM {N : Nat} (ih : MetAt N) (l : List (Nat × List (Nat × Bool))) (v : List (Nat × List (Nat × PV))) : Cfg G0 := { F := F, hF := hF, S := txS, hS := txS_ok, V := metV N, hV := metV_ok ih, hp := hpM, D := hpM, orc := orcM l, val := valM v }
theorem mxC (a u : Nat) : (if (a : Int) > (u : Int) then (a : Int) else (u : Int)) = ((max u a : Nat) : Int) := by
  rcases Nat.lt_or_ge u a with h | h
  · rw [if_pos (by omega), Nat.max_eq_right (by omega)]
  · rw [if_neg (by omega), Nat.max_eq_left h]
theorem wrapC (a : Nat) (h : a ≤ 9223372036854775807) : IntKind.wrap IntKind.i64 ((a : Nat) : Int) = (a : Int) := wrapO a h
theorem met_len (w : Nat) (d : Dat) (c r : Nat) (t : Nat × Nat × Nat) : (layG mS w d c r t).1 ≤ t.1 + (layT w d c r).length ∧ (layG mS w d c r t).2.1 ≤ t.2.1 + (layT w d c r).length := by
  have h : Sim mS rS (fun x y => x.1 ≤ t.1 + y.length ∧ x.2.1 ≤ t.2.1 + y.length) := ⟨fun s x y h => by simp [mS, rS]; omega, fun n x y h => by simp [mS, rS]; omega, fun x y h _ => by simp [mS] at h, fun y => rfl⟩
  exact (sim h w).1 d c r t [] ⟨by simp, by simp⟩
theorem met_lenL (w : Nat) (ks : Dats) (f : Bool) (c r : Nat) (l : Bool) (t : Nat × Nat × Nat) : (layGL mS w ks f c r l t).1 ≤ t.1 + (layTL w ks f c r l).length ∧ (layGL mS w ks f c r l t).2.1 ≤ t.2.1 + (layTL w ks f c r l).length := by
  have h : Sim mS rS (fun x y => x.1 ≤ t.1 + y.length ∧ x.2.1 ≤ t.2.1 + y.length) := ⟨fun s x y h => by simp [mS, rS]; omega, fun n x y h => by simp [mS, rS]; omega, fun x y h _ => by simp [mS] at h, fun y => rfl⟩
  exact (sim h w).2 ks f c r l t [] ⟨by simp, by simp⟩
def LM (w : Nat) : Box := ⟨[.iface 75 (.ptr 0 0), .int .i64 w], 72⟩
theorem met_gen {N : Nat} (ih : MetAt N) (d : Dat) (hN : d.size < N + 1) (hok : d.ok) (hrng : d.rng) (hfm : formedD d = true) (htl : (textD d).length ≤ 4398046511104) (w c r : Nat) (hw : w ≤ 4398046511104) (hc : c + 2 * (N + 1) ≤ 4398046511104) (hr : r + (N + 1) ≤ 4398046511104)
    (x y z : Nat) (hx : x + (layT w d c r).length ≤ 140737488355328) (hy : y + (layT w d c r).length ≤ 140737488355328) :
    RCalls G0 26 [.agg [.iface 75 (.ptr 0 0), .int .i64 w], .agg d.cells, .int .i64 c, .int .i64 r] ⟨[mB x y z], []⟩ (fun o H => o = .ret (.tup []) ∧ H = ⟨[mT (layG mS w d c r (x, y, z))], []⟩) := by
  obtain ⟨k, n, s, ks⟩ := d
  have hlen := hok.1
  have tx : txC [PV.int IntKind.i64 k, PV.int IntKind.i64 n, PV.str s, PV.slice (Dats.len ks) (Dats.cells ks)] = textD (.mk k n s ks) := txC_at (.mk k n s ks)
  have c1 : isTxp [PV.int IntKind.i64 k, PV.int IntKind.i64 n, PV.str s, PV.slice (Dats.len ks) (Dats.cells ks)] = true := isTxp_at (d := .mk k n s ks) hok hrng hfm (by omega)
  refine Fn.enterH Tryz.func26 Tryz.ntmps26 rfl (Nat.le_of_ble_eq_true rfl) fun C fr fp hnt hnb hfr => ?_
  have fin : ∀ st l, l = layG mS w (.mk k n s ks) c r (x, y, z) → nrm [] st = ⟨[], ⟨[mT l, LM w, DB k n s ks], []⟩⟩ → fr st := fun st l hl hs => hfr st [] (by
    rw [hs, ← hl]
    exact ⟨1, 0, .tup [], Nat.le_refl _, (by decide : 1 ≤ 3), Nat.le_refl _, Nat.le_refl _, rfl, rfl, rfl, rfl, rfl⟩)
  have hmt : ∀ t, mS.more t = true := fun _ => rfl
  have hsz : ByteArray.size (mkS (txC [PV.int IntKind.i64 k, PV.int IntKind.i64 n, PV.str s, PV.slice (Dats.len ks) (Dats.cells ks)])) = (textD (.mk k n s ks)).length := by rw [tx]; rfl
  have hwr : IntKind.wrap IntKind.i64 (IntKind.wrap IntKind.i64 ((↑c : Int) + (↑(ByteArray.size (mkS (txC [PV.int IntKind.i64 k, PV.int IntKind.i64 n, PV.str s, PV.slice (Dats.len ks) (Dats.cells ks)]))) : Int)) + (↑r : Int)) = ((c + (textD (.mk k n s ks)).length + r : Nat) : Int) := by
    rw [hsz]; exact wrap3 _ _ _ (by omega)
  have short : ∀ (hs : ks.len = 0 ∨ c + (textD (.mk k n s ks)).length + r ≤ w), layG mS w (.mk k n s ks) c r (x, y, z) = (x, y + (textD (.mk k n s ks)).length, max z (y + (textD (.mk k n s ks)).length)) ∧ y + (textD (.mk k n s ks)).length ≤ 140737488355328 := fun hs => by
    refine ⟨by rw [layG, hmt]; simp only []; rw [if_pos hs]; rfl, ?_⟩
    have : layT w (.mk k n s ks) c r = textD (.mk k n s ks) := by
      unfold layT
      rw [layG]
      simp only [rS]
      rw [if_pos hs]
      simp
    rw [this] at hy
    exact hy
  by_cases h0 : ks.len = 0
  · obtain ⟨lg, hb2⟩ := short (.inl h0)
    have c3 : (Int.ofNat (Dats.len ks) == (0 : Int)) = true := by rw [h0]; rfl
    have wy := wrapC (y + (textD (.mk k n s ks)).length) (by omega)
    refine SWP.runQ (SM ih [(79, [(21, true)])] []) 100 79 hnt [] (e := .ret) (z := ⟨[], ⟨[⟨[.int .i64 (Int.ofNat x), .int .i64 (IntKind.wrap IntKind.i64 (Int.ofNat (y + ByteArray.size (mkS (txC [.int .i64 k, .int .i64 n, .str s, .slice (Dats.len ks) (Dats.cells ks)]))))), .int .i64 (if IntKind.wrap IntKind.i64 (Int.ofNat (y + ByteArray.size (mkS (txC [.int .i64 k, .int .i64 n, .str s, .slice (Dats.len ks) (Dats.cells ks)])))) > Int.ofNat z then IntKind.wrap IntKind.i64 (Int.ofNat (y + ByteArray.size (mkS (txC [.int .i64 k, .int .i64 n, .str s, .slice (Dats.len ks) (Dats.cells ks)])))) else Int.ofNat z)], 79⟩, ⟨[PV.iface 75 (.ptr 0 0), .int .i64 (Int.ofNat w)], 72⟩, ⟨[.int .i64 k, .int .i64 n, .str s, .slice (Dats.len ks) (Dats.cells ks)], 24⟩], []⟩⟩) (o := [(true, true), (isTxp [PV.int IntKind.i64 k, PV.int IntKind.i64 n, PV.str s, PV.slice (Dats.len ks) (Dats.cells ks)], true), (Int.ofNat (Dats.len ks) == (0 : Int), true)]) (by kernel_rfl) (by repeat' first | exact okO_nil | refine okN ?_ ?_ | assumption | rfl) (fun st hs => fin st _ lg.symm ?_)
    rw [hs]
    simp only [hsz, Int.ofNat_eq_natCast, wy, mxC]
    rfl
  have c3 : (Int.ofNat (Dats.len ks) == (0 : Int)) = false := by rw [beq_eq_false_iff_ne]; show (ks.len : Int) ≠ 0; omega
  by_cases hft : c + (textD (.mk k n s ks)).length + r ≤ w
  · obtain ⟨lg, hb2⟩ := short (.inr hft)
    have c5 : decide (IntKind.wrap IntKind.i64 (IntKind.wrap IntKind.i64 ((↑c : Int) + (↑(ByteArray.size (mkS (txC [PV.int IntKind.i64 k, PV.int IntKind.i64 n, PV.str s, PV.slice (Dats.len ks) (Dats.cells ks)]))) : Int)) + (↑r : Int)) ≤ (↑w : Int)) = true := by rw [hwr, decide_eq_true_eq]; omega
    have wy := wrapC (y + (textD (.mk k n s ks)).length) (by omega)
    refine SWP.runQ (SM ih [(79, [(21, false), (31, true)])] []) 100 79 hnt [] (e := .ret) (z := ⟨[], ⟨[⟨[.int .i64 (Int.ofNat x), .int .i64 (IntKind.wrap IntKind.i64 (Int.ofNat (y + ByteArray.size (mkS (txC [.int .i64 k, .int .i64 n, .str s, .slice (Dats.len ks) (Dats.cells ks)]))))), .int .i64 (if IntKind.wrap IntKind.i64 (Int.ofNat (y + ByteArray.size (mkS (txC [.int .i64 k, .int .i64 n, .str s, .slice (Dats.len ks) (Dats.cells ks)])))) > Int.ofNat z then IntKind.wrap IntKind.i64 (Int.ofNat (y + ByteArray.size (mkS (txC [.int .i64 k, .int .i64 n, .str s, .slice (Dats.len ks) (Dats.cells ks)])))) else Int.ofNat z)], 79⟩, ⟨[PV.iface 75 (.ptr 0 0), .int .i64 (Int.ofNat w)], 72⟩, ⟨[.int .i64 k, .int .i64 n, .str s, .slice (Dats.len ks) (Dats.cells ks)], 24⟩], []⟩⟩) (o := [(true, true), (isTxp [PV.int IntKind.i64 k, PV.int IntKind.i64 n, PV.str s, PV.slice (Dats.len ks) (Dats.cells ks)], true), (Int.ofNat (Dats.len ks) == (0 : Int), false), (decide (IntKind.wrap IntKind.i64 (IntKind.wrap IntKind.i64 (Int.ofNat (c + ByteArray.size (mkS (txC [PV.int IntKind.i64 k, PV.int IntKind.i64 n, PV.str s, PV.slice (Dats.len ks) (Dats.cells ks)])))) + Int.ofNat r) ≤ Int.ofNat w), true)]) (by kernel_rfl) (by repeat' first | exact okO_nil | refine okN ?_ ?_ | assumption | rfl) (fun st hs => fin st _ lg.symm ?_)
    rw [hs]
    simp only [hsz, Int.ofNat_eq_natCast, wy, mxC]
    rfl
  have hnot : ¬ (ks.len = 0 ∨ c + (textD (.mk k n s ks)).length + r ≤ w) := fun h => h.elim h0 hft
  have c5 : decide (IntKind.wrap IntKind.i64 (IntKind.wrap IntKind.i64 ((↑c : Int) + (↑(ByteArray.size (mkS (txC [PV.int IntKind.i64 k, PV.int IntKind.i64 n, PV.str s, PV.slice (Dats.len ks) (Dats.cells ks)]))) : Int)) + (↑r : Int)) ≤ (↑w : Int)) = false := by rw [hwr, decide_eq_false_iff_not]; omega
  have lg : layG mS w (.mk k n s ks) c r (x, y, z) = mS.text [41] (layGL mS w ks true c r true (x, y + 1, max z (y + 1))) := by
    rw [layG, hmt]; simp only []; rw [if_neg hnot]; rfl
  have hT := layT_list w k n s ks c r hnot
  rw [hT] at hx hy
  simp only [List.length_cons, List.length_append, List.length_nil] at hx hy
  have hks : ks.size < N + 1 := by simp only [Dat.size] at hN; omega
  have hfk : formedL ks = true := by
    simp only [formedD, Bool.or_eq_true, Bool.and_eq_true, decide_eq_true_eq] at hfm
    rcases hfm with (h | h) | h
    · exact absurd h.2 h0
    · exact absurd h.2 h0
    · exact h.2
  have hk3 : k = 3 := by
    simp only [formedD, Bool.or_eq_true, Bool.and_eq_true, decide_eq_true_eq] at hfm
    rcases hfm with (h | h) | h
    · exact absurd h.2 h0
    · exact absurd h.2 h0
    · exact h.1.1.1
  have htx : (textD (.mk k n s ks)).length = (textL true ks).length + 2 := by subst hk3; rw [textD, if_neg (by decide), if_neg (by decide)]; simp
  have wc1 := wrapC (c + 1) (by omega)
  have wc1' : IntKind.wrap IntKind.i64 ((c : Int) + 1) = ((c + 1 : Nat) : Int) := wc1
  have wc2 := wrapC (c + 2) (by omega)
  have wc2' : IntKind.wrap IntKind.i64 ((c : Int) + 2) = ((c + 2 : Nat) : Int) := wc2
  have wr1 := wrapC (r + 1) (by omega)
  have wr1' : IntKind.wrap IntKind.i64 ((r : Int) + 1) = ((r + 1 : Nat) : Int) := wr1
  have wl : IntKind.wrap IntKind.i64 (Int.ofNat (Dats.len ks) - (1 : Int)) = ((ks.len - 1 : Nat) : Int) := wrapD _ (by omega) (by omega)
  have wy := wrapC (y + 1) (by omega)
  have wy' : IntKind.wrap IntKind.i64 ((↑y : Int) + (↑(ByteArray.size { data := #[40] }) : Int)) = ((y + 1 : Nat) : Int) := wy
  refine Q.runSeq (SM ih [] []) 100 79 hnt [2, 3, 4, 5] (z := ⟨[(2, .int .i64 (Int.ofNat c)), (3, .int .i64 (Int.ofNat r)), (4, .ptr 1 0), (5, .ptr 2 0)], ⟨[⟨[.int .i64 (Int.ofNat x), .int .i64 (Int.ofNat y), .int .i64 (Int.ofNat z)], 79⟩, ⟨[PV.iface 75 (.ptr 0 0), .int .i64 (Int.ofNat w)], 72⟩, ⟨[.int .i64 k, .int .i64 n, .str s, .slice (Dats.len ks) (Dats.cells ks)], 24⟩], []⟩⟩) (o := []) (by kernel_rfl) (by repeat' first | exact okO_nil | refine okN ?_ ?_ | assumption | rfl) ?_
  refine Q.runSeq (SM ih [] []) 100 79 hnt [2, 3, 4, 5] (z := ⟨[(2, .int .i64 (Int.ofNat c)), (3, .int .i64 (Int.ofNat r)), (4, .ptr 1 0), (5, .ptr 2 0)], ⟨[⟨[.int .i64 (Int.ofNat x), .int .i64 (Int.ofNat y), .int .i64 (Int.ofNat z)], 79⟩, ⟨[PV.iface 75 (.ptr 0 0), .int .i64 (Int.ofNat w)], 72⟩, ⟨[.int .i64 k, .int .i64 n, .str s, .slice (Dats.len ks) (Dats.cells ks)], 24⟩], []⟩⟩) (o := []) (by kernel_rfl) (by repeat' first | exact okO_nil | refine okN ?_ ?_ | assumption | rfl) ?_
  refine Q.runSeq (SM ih [] []) 100 79 hnt [2, 3, 4, 5, 8] (z := ⟨[(2, .int .i64 (Int.ofNat c)), (3, .int .i64 (Int.ofNat r)), (4, .ptr 1 0), (5, .ptr 2 0), (8, .str (mkS (txC [.int .i64 k, .int .i64 n, .str s, .slice (Dats.len ks) (Dats.cells ks)])))], ⟨[⟨[.int .i64 (Int.ofNat x), .int .i64 (Int.ofNat y), .int .i64 (Int.ofNat z)], 79⟩, ⟨[PV.iface 75 (.ptr 0 0), .int .i64 (Int.ofNat w)], 72⟩, ⟨[.int .i64 k, .int .i64 n, .str s, .slice (Dats.len ks) (Dats.cells ks)], 24⟩], []⟩⟩) (o := [(true, true), (isTxp [PV.int IntKind.i64 k, PV.int IntKind.i64 n, PV.str s, PV.slice (Dats.len ks) (Dats.cells ks)], true)]) (by kernel_rfl) (by repeat' first | exact okO_nil | refine okN ?_ ?_ | assumption | rfl) ?_
  refine Q.runSeq (SM ih [(79, [(21, false), (31, false)])] []) 100 79 hnt [2, 3, 4, 5] (z := ⟨[(2, .int .i64 (Int.ofNat c)), (3, .int .i64 (Int.ofNat r)), (4, .ptr 1 0), (5, .ptr 2 0)], ⟨[⟨[.int .i64 (Int.ofNat x), .int .i64 (Int.ofNat y), .int .i64 (Int.ofNat z)], 79⟩, ⟨[PV.iface 75 (.ptr 0 0), .int .i64 (Int.ofNat w)], 72⟩, ⟨[.int .i64 k, .int .i64 n, .str s, .slice (Dats.len ks) (Dats.cells ks)], 24⟩], []⟩⟩) (o := [(Int.ofNat (Dats.len ks) == (0 : Int), false), (decide (IntKind.wrap IntKind.i64 (IntKind.wrap IntKind.i64 ((↑c : Int) + (↑(ByteArray.size (mkS (txC [PV.int IntKind.i64 k, PV.int IntKind.i64 n, PV.str s, PV.slice (Dats.len ks) (Dats.cells ks)]))) : Int)) + (↑r : Int)) ≤ (↑w : Int)), false)]) (by kernel_rfl) (by repeat' first | exact okO_nil | refine okN ?_ ?_ | assumption | rfl) ?_
  refine Q.runSeq (SM ih [] []) 100 79 hnt [2, 3, 4, 5] (z := ⟨[(2, .int .i64 (Int.ofNat c)), (3, .int .i64 (Int.ofNat r)), (4, .ptr 1 0), (5, .ptr 2 0)], ⟨[⟨[.int .i64 (Int.ofNat x), .int .i64 (IntKind.wrap IntKind.i64 (Int.ofNat (y + 1))), .int .i64 (if IntKind.wrap IntKind.i64 ((↑y : Int) + (↑(ByteArray.size ⟨#[40]⟩) : Int)) > (↑z : Int) then IntKind.wrap IntKind.i64 (Int.ofNat (y + 1)) else Int.ofNat z)], 79⟩, ⟨[PV.iface 75 (.ptr 0 0), .int .i64 (Int.ofNat w)], 72⟩, ⟨[.int .i64 k, .int .i64 n, .str s, .slice (Dats.len ks) (Dats.cells ks)], 24⟩], []⟩⟩) (o := []) (by kernel_rfl) (by repeat' first | exact okO_nil | refine okN ?_ ?_ | assumption | rfl) ?_
  simp only [Int.ofNat_eq_natCast, wy, wy', mxC]
  let P (j : Nat) : Nat × Nat × Nat := layGL mS w (ks.take j) true c r (decide (j = ks.len)) (x, y + 1, max z (y + 1))
  have hP0 : P 0 = (x, y + 1, max z (y + 1)) := by
    simp only [P]
    cases ks <;> rfl
  have hPl : P ks.len = layGL mS w ks true c r true (x, y + 1, max z (y + 1)) := by simp only [P, take_all, decide_true]
  let T (j : Nat) : AS := ⟨[(2, .int .i64 c), (3, .int .i64 r), (4, .ptr 1 0), (5, .ptr 2 0), (41, .slice ks.len ks.cells), (42, .int .i64 ks.len), (43, .int .i64 j)], ⟨[mT (P j), LM w, DB k n s ks], []⟩⟩
  refine Q.seq fun K2 hK2 => ?_
  refine Q.runSeq (SM ih [] []) 100 79 hnt [2, 3, 4, 5, 41, 42, 43] (z := T 0) (o := []) (by simp only [T, hP0]; kernel_rfl) okO_nil ?_
  refine Q.block ?_
  refine Q.loopH (σ := { j : Nat // j ≤ ks.len }) [2, 3, 4, 5, 41, 42, 43] 3 (by rw [hnb]; exact (by decide : 1 ≤ 3)) (fun j => T j.1) (fun j => ks.len - j.1) ⟨0, Nat.zero_le _⟩ (fun j => ⟨rfl, rfl, rfl⟩) ⟨[], by simp only [List.append_nil]; rfl⟩ fun ⟨j, hj⟩ => ?_
  rcases Nat.lt_or_ge j ks.len with hlt | hge
  · obtain ⟨k', n', s', ks', hget⟩ := Dats.get_mk ks j
    have hsz := Dats.get_size ks j hlt
    have hoj := Dats.get_ok ks j hlt hok.2
    have hrj := Dats.get_rng ks j hlt hrng.2
    have hfj := (formedL_iff ks).1 hfk j hlt
    have htj := textL_get ks true j hlt
    have hPj : decide (j = ks.len) = false := decide_eq_false_iff_not.2 (by omega)
    have hPn : P (j + 1) = layG mS w (.mk k' n' s' ks') (if j = 0 ∧ true = true then c + 1 else c + 2) (if decide (j + 1 = ks.len) = true then r + 1 else 0) (if j = 0 ∧ true = true then P j else mS.line (c + 2) (P j)) := by
      have e0 : P (j + 1) = layGL mS w (ks.take (j + 1)) true c r (decide (j + 1 = ks.len)) (x, y + 1, max z (y + 1)) := rfl
      have e1 : P j = layGL mS w (ks.take j) true c r false (x, y + 1, max z (y + 1)) := by
        show layGL mS w (ks.take j) true c r (decide (j = ks.len)) (x, y + 1, max z (y + 1)) = _
        rw [hPj]
      rw [e0, e1, layGL_take mS w c r ks true j _ _ hlt, hget]
    have h2 := congrArg List.length (layTL_take w c r ks j (decide (j + 1 = ks.len)) hlt)
    have h3 : (layTL w (ks.take (j + 1)) true c r (decide (j + 1 = ks.len))).length ≤ (layTL w ks true c r true).length := by
      by_cases h : j + 1 = ks.len
      · rw [decide_eq_true h, h, take_all]; exact Nat.le_refl _
      · rw [decide_eq_false h]; exact layTL_mono w c r ks (j + 1) (by omega)
    rw [hget] at h2
    simp only [List.length_append, decide_eq_true_eq] at h2
    have hml : (P j).1 ≤ x + (layTL w (ks.take j) true c r false).length ∧ (P j).2.1 ≤ (y + 1) + (layTL w (ks.take j) true c r false).length := by
      show (layGL mS w (ks.take j) true c r (decide (j = ks.len)) (x, y + 1, max z (y + 1))).1 ≤ _ ∧ (layGL mS w (ks.take j) true c r (decide (j = ks.len)) (x, y + 1, max z (y + 1))).2.1 ≤ _
      rw [hPj]
      exact met_lenL w (ks.take j) true c r false (x, y + 1, max z (y + 1))
    have hbd : (P j).1 + (if j = 0 then ([] : List UInt8) else 10 :: List.replicate (c + 2) 32).length + (layT w (.mk k' n' s' ks') (if j = 0 then c + 1 else c + 2) (if j + 1 = ks.len then r + 1 else 0)).length + 1 ≤ 140737488355328 := by omega
    have hbd2 : (P j).2.1 + (if j = 0 then ([] : List UInt8) else 10 :: List.replicate (c + 2) 32).length + (layT w (.mk k' n' s' ks') (if j = 0 then c + 1 else c + 2) (if j + 1 = ks.len then r + 1 else 0)).length + 1 ≤ 140737488355328 := by omega
    clear h2 h3 hml
    rw [hget] at hsz hoj hrj hfj htj
    have hlm : ∀ w c r t, lmC w c r t [PV.int IntKind.i64 k', PV.int IntKind.i64 n', PV.str s', PV.slice (Dats.len ks') (Dats.cells ks')] = layG mS w (.mk k' n' s' ks') c r t := fun w c r b => lmC_at w c r b (.mk k' n' s' ks')
    have hlr : ∀ w c r, lrC w c r [PV.int IntKind.i64 k', PV.int IntKind.i64 n', PV.str s', PV.slice (Dats.len ks') (Dats.cells ks')] = (layT w (.mk k' n' s' ks') c r).length := fun w c r => lrC_at w c r (.mk k' n' s' ks')
    have d1 : isLay N [PV.int IntKind.i64 k', PV.int IntKind.i64 n', PV.str s', PV.slice (Dats.len ks') (Dats.cells ks')] = true := isLay_at (d := .mk k' n' s' ks') (by omega) hoj hrj hfj (by omega)
    have d2 := lt_at hlt
    have d3 := in_at hlt
    have d4 : decide (TD.size d24 ≤ List.length (List.drop (Int.toNat (j : Int) * TD.size d24) (Dats.cells ks))) = true := kid_len hlt
    have d5 := kid_same' hlt hget
    have wj' := wrapC (j + 1) (by omega)
    obtain ⟨p, q, u, hp⟩ : ∃ p q u, P j = (p, q, u) := ⟨_, _, _, rfl⟩
    show SWP G0 C _ _ ⟨[(2, .int .i64 c), (3, .int .i64 r), (4, .ptr 1 0), (5, .ptr 2 0), (41, .slice ks.len ks.cells), (42, .int .i64 ks.len), (43, .int .i64 j)], ⟨[mT (P j), LM w, DB k n s ks], []⟩⟩
    rw [hp] at hbd hbd2 hPn ⊢
    simp only [] at hbd hbd2
    have wp1 := wrapC (p + 1) (by omega)
    have wp1' : IntKind.wrap IntKind.i64 ((p : Int) + 1) = ((p + 1 : Nat) : Int) := wp1
    clear hp hP0 hPl hK2
    by_cases hz : j = 0 <;> by_cases hl : j + 1 = ks.len
    · have e1 : (Int.ofNat j == IntKind.wrap IntKind.i64 (Int.ofNat (Dats.len ks) - (1 : Int))) = true := by
        rw [wl, beq_iff_eq]
        show (j : Int) = _
        omega
      have e2 : (Int.ofNat j == (0 : Int)) = true := by
        rw [beq_iff_eq]
        show (j : Int) = 0
        omega
      have hPs : P (j + 1) = layG mS w (.mk k' n' s' ks') (c + 1) (r + 1) (p, q, u) := by
        simp only [hPn, and_true, decide_eq_true_eq, if_pos hz, if_pos hl]
        try rfl
      simp only [if_pos hz, if_pos hl, List.length_nil, List.length_cons, List.length_replicate] at hbd hbd2
      clear hPn
      refine SWP.runQ (SM ih [(79, [(44, true), (46, true), (47, true), (53, true), (57, true)])] [(79, [(47, .agg [.int .i64 k', .int .i64 n', .str s', .slice ks'.len ks'.cells])])]) 100 79 hnt [2, 3, 4, 5, 41, 42, 43] (e := .normal) (z := ⟨[(2, .int .i64 (Int.ofNat c)), (3, .int .i64 (Int.ofNat r)), (4, .ptr 1 0), (5, .ptr 2 0), (41, .slice (Dats.len ks) (Dats.cells ks)), (42, .int .i64 (Int.ofNat (Dats.len ks))), (43, .int .i64 (IntKind.wrap IntKind.i64 (Int.ofNat (j + 1))))], ⟨[⟨[.int .i64 (Int.ofNat (Prod.fst (lmC (Int.toNat (Int.ofNat w)) (Int.toNat (IntKind.wrap IntKind.i64 (Int.ofNat (c + 1)))) (Int.toNat (IntKind.wrap IntKind.i64 (Int.ofNat (r + 1)))) (Int.toNat (Int.ofNat p), Int.toNat (Int.ofNat q), Int.toNat (Int.ofNat u)) [.int .i64 k', .int .i64 n', .str s', .slice (Dats.len ks') (Dats.cells ks')]))), .int .i64 (Int.ofNat (Prod.fst (Prod.snd (lmC (Int.toNat (Int.ofNat w)) (Int.toNat (IntKind.wrap IntKind.i64 (Int.ofNat (c + 1)))) (Int.toNat (IntKind.wrap IntKind.i64 (Int.ofNat (r + 1)))) (Int.toNat (Int.ofNat p), Int.toNat (Int.ofNat q), Int.toNat (Int.ofNat u)) [.int .i64 k', .int .i64 n', .str s', .slice (Dats.len ks') (Dats.cells ks')])))), .int .i64 (Int.ofNat (Prod.snd (Prod.snd (lmC (Int.toNat (Int.ofNat w)) (Int.toNat (IntKind.wrap IntKind.i64 (Int.ofNat (c + 1)))) (Int.toNat (IntKind.wrap IntKind.i64 (Int.ofNat (r + 1)))) (Int.toNat (Int.ofNat p), Int.toNat (Int.ofNat q), Int.toNat (Int.ofNat u)) [.int .i64 k', .int .i64 n', .str s', .slice (Dats.len ks') (Dats.cells ks')]))))], 79⟩, ⟨[PV.iface 75 (.ptr 0 0), .int .i64 (Int.ofNat w)], 72⟩, ⟨[.int .i64 k, .int .i64 n, .str s, .slice (Dats.len ks) (Dats.cells ks)], 24⟩, ⟨[.int .i64 k', .int .i64 n', .str s', .slice (Dats.len ks') (Dats.cells ks')], 24⟩], []⟩⟩) (o := [(decide ((↑j : Int) < (↑(Dats.len ks) : Int)), true), (true, true), (decide (0 ≤ (↑j : Int) ∧ (↑j : Int) < (↑(Dats.len ks) : Int)), true), (decide (TD.size d24 ≤ List.length (List.drop (Int.toNat (↑j : Int) * TD.size d24) (Dats.cells ks))), true), (same (PV.agg (List.take 4 (List.drop (Int.toNat (Int.ofNat j) * 4) (Dats.cells ks)))) (PV.agg [PV.int IntKind.i64 k', PV.int IntKind.i64 n', PV.str s', PV.slice (Dats.len ks') (Dats.cells ks')]), true), (Int.ofNat j == IntKind.wrap IntKind.i64 (Int.ofNat (Dats.len ks) - (1 : Int)), true), (true, true), (Int.ofNat j == (0 : Int), true), (true, true), (isLay N [PV.int IntKind.i64 k', PV.int IntKind.i64 n', PV.str s', PV.slice (Dats.len ks') (Dats.cells ks')], true), (decide (0 ≤ (↑w : Int) ∧ (↑w : Int) ≤ 4398046511104), true), (decide (0 ≤ IntKind.wrap IntKind.i64 ((↑c : Int) + 1) ∧ IntKind.wrap IntKind.i64 ((↑c : Int) + 1) + 2 * (↑N : Int) ≤ 4398046511104), true), (decide (0 ≤ IntKind.wrap IntKind.i64 ((↑r : Int) + 1) ∧ IntKind.wrap IntKind.i64 ((↑r : Int) + 1) + (↑N : Int) ≤ 4398046511104), true), (true, true), (true, true), (true, true), (Nat.ble (Int.toNat (Int.ofNat p) + lrC (Int.toNat (Int.ofNat w)) (Int.toNat (IntKind.wrap IntKind.i64 (Int.ofNat (c + 1)))) (Int.toNat (IntKind.wrap IntKind.i64 (Int.ofNat (r + 1)))) [PV.int IntKind.i64 k', PV.int IntKind.i64 n', PV.str s', PV.slice (Dats.len ks') (Dats.cells ks')]) 140737488355328, true), (Nat.ble (Int.toNat (Int.ofNat q) + lrC (Int.toNat (Int.ofNat w)) (Int.toNat (IntKind.wrap IntKind.i64 (Int.ofNat (c + 1)))) (Int.toNat (IntKind.wrap IntKind.i64 (Int.ofNat (r + 1)))) [PV.int IntKind.i64 k', PV.int IntKind.i64 n', PV.str s', PV.slice (Dats.len ks') (Dats.cells ks')]) 140737488355328, true)]) (by kernel_rfl) (by clear hPs; (repeat' (first | exact okO_nil | refine okN ?_ ?_)); all_goals first | (with_reducible rfl) | assumption | (simp only [Int.ofNat_eq_natCast, wc1, wc1', wc2, wc2', wr1, wr1', wp1, wp1', Int.toNat_natCast, mxC, hlr]; done) | ((try simp only [Int.ofNat_eq_natCast, wc1, wc1', wc2, wc2', wr1, wr1', wp1, wp1', Int.toNat_natCast, mxC, hlr]); simp only [decide_eq_true_eq, decide_eq_false_iff_not, Nat.ble_eq, Nat.beq_eq]; omega)) (fun st hs => ⟨⟨j + 1, hlt⟩, Nat.sub_lt_sub_left hlt (Nat.lt_succ_self j), [DB k' n' s' ks'], ?_⟩)
      rw [hs]
      simp only [T, hPs]
      simp only [Int.ofNat_eq_natCast, wc1, wc1', wc2, wc2', wr1, wr1', wp1, wp1', Int.toNat_natCast, mxC, hlr, hlm, wj']
      rfl
    · have e1 : (Int.ofNat j == IntKind.wrap IntKind.i64 (Int.ofNat (Dats.len ks) - (1 : Int))) = false := by
        rw [wl, beq_eq_false_iff_ne]
        show (j : Int) ≠ _
        omega
      have e2 : (Int.ofNat j == (0 : Int)) = true := by
        rw [beq_iff_eq]
        show (j : Int) = 0
        omega
      have hPs : P (j + 1) = layG mS w (.mk k' n' s' ks') (c + 1) (0) (p, q, u) := by
        simp only [hPn, and_true, decide_eq_true_eq, if_pos hz, if_neg hl]
        try rfl
      simp only [if_pos hz, if_neg hl, List.length_nil, List.length_cons, List.length_replicate] at hbd hbd2
      clear hPn
      refine SWP.runQ (SM ih [(79, [(44, true), (46, true), (47, true), (53, false), (57, true)])] [(79, [(47, .agg [.int .i64 k', .int .i64 n', .str s', .slice ks'.len ks'.cells])])]) 100 79 hnt [2, 3, 4, 5, 41, 42, 43] (e := .normal) (z := ⟨[(2, .int .i64 (Int.ofNat c)), (3, .int .i64 (Int.ofNat r)), (4, .ptr 1 0), (5, .ptr 2 0), (41, .slice (Dats.len ks) (Dats.cells ks)), (42, .int .i64 (Int.ofNat (Dats.len ks))), (43, .int .i64 (IntKind.wrap IntKind.i64 (Int.ofNat (j + 1))))], ⟨[⟨[.int .i64 (Int.ofNat (Prod.fst (lmC (Int.toNat (Int.ofNat w)) (Int.toNat (IntKind.wrap IntKind.i64 (Int.ofNat (c + 1)))) 0 (Int.toNat (Int.ofNat p), Int.toNat (Int.ofNat q), Int.toNat (Int.ofNat u)) [.int .i64 k', .int .i64 n', .str s', .slice (Dats.len ks') (Dats.cells ks')]))), .int .i64 (Int.ofNat (Prod.fst (Prod.snd (lmC (Int.toNat (Int.ofNat w)) (Int.toNat (IntKind.wrap IntKind.i64 (Int.ofNat (c + 1)))) 0 (Int.toNat (Int.ofNat p), Int.toNat (Int.ofNat q), Int.toNat (Int.ofNat u)) [.int .i64 k', .int .i64 n', .str s', .slice (Dats.len ks') (Dats.cells ks')])))), .int .i64 (Int.ofNat (Prod.snd (Prod.snd (lmC (Int.toNat (Int.ofNat w)) (Int.toNat (IntKind.wrap IntKind.i64 (Int.ofNat (c + 1)))) 0 (Int.toNat (Int.ofNat p), Int.toNat (Int.ofNat q), Int.toNat (Int.ofNat u)) [.int .i64 k', .int .i64 n', .str s', .slice (Dats.len ks') (Dats.cells ks')]))))], 79⟩, ⟨[PV.iface 75 (.ptr 0 0), .int .i64 (Int.ofNat w)], 72⟩, ⟨[.int .i64 k, .int .i64 n, .str s, .slice (Dats.len ks) (Dats.cells ks)], 24⟩, ⟨[.int .i64 k', .int .i64 n', .str s', .slice (Dats.len ks') (Dats.cells ks')], 24⟩], []⟩⟩) (o := [(decide ((↑j : Int) < (↑(Dats.len ks) : Int)), true), (true, true), (decide (0 ≤ (↑j : Int) ∧ (↑j : Int) < (↑(Dats.len ks) : Int)), true), (decide (TD.size d24 ≤ List.length (List.drop (Int.toNat (↑j : Int) * TD.size d24) (Dats.cells ks))), true), (same (PV.agg (List.take 4 (List.drop (Int.toNat (Int.ofNat j) * 4) (Dats.cells ks)))) (PV.agg [PV.int IntKind.i64 k', PV.int IntKind.i64 n', PV.str s', PV.slice (Dats.len ks') (Dats.cells ks')]), true), (Int.ofNat j == IntKind.wrap IntKind.i64 (Int.ofNat (Dats.len ks) - (1 : Int)), false), (false, false), (Int.ofNat j == (0 : Int), true), (true, true), (isLay N [PV.int IntKind.i64 k', PV.int IntKind.i64 n', PV.str s', PV.slice (Dats.len ks') (Dats.cells ks')], true), (decide (0 ≤ (↑w : Int) ∧ (↑w : Int) ≤ 4398046511104), true), (decide (0 ≤ IntKind.wrap IntKind.i64 ((↑c : Int) + 1) ∧ IntKind.wrap IntKind.i64 ((↑c : Int) + 1) + 2 * (↑N : Int) ≤ 4398046511104), true), (decide ((0 : Int) ≤ 0 ∧ 0 + (↑N : Int) ≤ 4398046511104), true), (true, true), (true, true), (true, true), (Nat.ble (Int.toNat (Int.ofNat p) + lrC (Int.toNat (Int.ofNat w)) (Int.toNat (IntKind.wrap IntKind.i64 (Int.ofNat (c + 1)))) 0 [PV.int IntKind.i64 k', PV.int IntKind.i64 n', PV.str s', PV.slice (Dats.len ks') (Dats.cells ks')]) 140737488355328, true), (Nat.ble (Int.toNat (Int.ofNat q) + lrC (Int.toNat (Int.ofNat w)) (Int.toNat (IntKind.wrap IntKind.i64 (Int.ofNat (c + 1)))) 0 [PV.int IntKind.i64 k', PV.int IntKind.i64 n', PV.str s', PV.slice (Dats.len ks') (Dats.cells ks')]) 140737488355328, true)]) (by kernel_rfl) (by clear hPs; (repeat' (first | exact okO_nil | refine okN ?_ ?_)); all_goals first | (with_reducible rfl) | assumption | (simp only [Int.ofNat_eq_natCast, wc1, wc1', wc2, wc2', wr1, wr1', wp1, wp1', Int.toNat_natCast, mxC, hlr]; done) | ((try simp only [Int.ofNat_eq_natCast, wc1, wc1', wc2, wc2', wr1, wr1', wp1, wp1', Int.toNat_natCast, mxC, hlr]); simp only [decide_eq_true_eq, decide_eq_false_iff_not, Nat.ble_eq, Nat.beq_eq]; omega)) (fun st hs => ⟨⟨j + 1, hlt⟩, Nat.sub_lt_sub_left hlt (Nat.lt_succ_self j), [DB k' n' s' ks'], ?_⟩)
      rw [hs]
      simp only [T, hPs]
      simp only [Int.ofNat_eq_natCast, wc1, wc1', wc2, wc2', wr1, wr1', wp1, wp1', Int.toNat_natCast, mxC, hlr, hlm, wj']
      rfl
    · have e1 : (Int.ofNat j == IntKind.wrap IntKind.i64 (Int.ofNat (Dats.len ks) - (1 : Int))) = true := by
        rw [wl, beq_iff_eq]
        show (j : Int) = _
        omega
      have e2 : (Int.ofNat j == (0 : Int)) = false := by
        rw [beq_eq_false_iff_ne]
        show (j : Int) ≠ 0
        omega
      have hPs : P (j + 1) = layG mS w (.mk k' n' s' ks') (c + 2) (r + 1) (p + 1, c + 2, max u (c + 2)) := by
        simp only [hPn, and_true, decide_eq_true_eq, if_neg hz, if_pos hl]
        try rfl
      simp only [if_neg hz, if_pos hl, List.length_nil, List.length_cons, List.length_replicate] at hbd hbd2
      clear hPn
      refine SWP.runQ (SM ih [(79, [(44, true), (46, true), (47, true), (53, true), (57, false)])] [(79, [(47, .agg [.int .i64 k', .int .i64 n', .str s', .slice ks'.len ks'.cells])])]) 100 79 hnt [2, 3, 4, 5, 41, 42, 43] (e := .normal) (z := ⟨[(2, .int .i64 (Int.ofNat c)), (3, .int .i64 (Int.ofNat r)), (4, .ptr 1 0), (5, .ptr 2 0), (41, .slice (Dats.len ks) (Dats.cells ks)), (42, .int .i64 (Int.ofNat (Dats.len ks))), (43, .int .i64 (IntKind.wrap IntKind.i64 (Int.ofNat (j + 1))))], ⟨[⟨[.int .i64 (Int.ofNat (Prod.fst (lmC (Int.toNat (Int.ofNat w)) (Int.toNat (IntKind.wrap IntKind.i64 (Int.ofNat (c + 2)))) (Int.toNat (IntKind.wrap IntKind.i64 (Int.ofNat (r + 1)))) (Int.toNat (IntKind.wrap IntKind.i64 (Int.ofNat (p + 1))), Int.toNat (IntKind.wrap IntKind.i64 (Int.ofNat (c + 2))), Int.toNat (if IntKind.wrap IntKind.i64 ((↑c : Int) + 2) > (↑u : Int) then IntKind.wrap IntKind.i64 (Int.ofNat (c + 2)) else Int.ofNat u)) [.int .i64 k', .int .i64 n', .str s', .slice (Dats.len ks') (Dats.cells ks')]))), .int .i64 (Int.ofNat (Prod.fst (Prod.snd (lmC (Int.toNat (Int.ofNat w)) (Int.toNat (IntKind.wrap IntKind.i64 (Int.ofNat (c + 2)))) (Int.toNat (IntKind.wrap IntKind.i64 (Int.ofNat (r + 1)))) (Int.toNat (IntKind.wrap IntKind.i64 (Int.ofNat (p + 1))), Int.toNat (IntKind.wrap IntKind.i64 (Int.ofNat (c + 2))), Int.toNat (if IntKind.wrap IntKind.i64 ((↑c : Int) + 2) > (↑u : Int) then IntKind.wrap IntKind.i64 (Int.ofNat (c + 2)) else Int.ofNat u)) [.int .i64 k', .int .i64 n', .str s', .slice (Dats.len ks') (Dats.cells ks')])))), .int .i64 (Int.ofNat (Prod.snd (Prod.snd (lmC (Int.toNat (Int.ofNat w)) (Int.toNat (IntKind.wrap IntKind.i64 (Int.ofNat (c + 2)))) (Int.toNat (IntKind.wrap IntKind.i64 (Int.ofNat (r + 1)))) (Int.toNat (IntKind.wrap IntKind.i64 (Int.ofNat (p + 1))), Int.toNat (IntKind.wrap IntKind.i64 (Int.ofNat (c + 2))), Int.toNat (if IntKind.wrap IntKind.i64 ((↑c : Int) + 2) > (↑u : Int) then IntKind.wrap IntKind.i64 (Int.ofNat (c + 2)) else Int.ofNat u)) [.int .i64 k', .int .i64 n', .str s', .slice (Dats.len ks') (Dats.cells ks')]))))], 79⟩, ⟨[PV.iface 75 (.ptr 0 0), .int .i64 (Int.ofNat w)], 72⟩, ⟨[.int .i64 k, .int .i64 n, .str s, .slice (Dats.len ks) (Dats.cells ks)], 24⟩, ⟨[.int .i64 k', .int .i64 n', .str s', .slice (Dats.len ks') (Dats.cells ks')], 24⟩], []⟩⟩) (o := [(decide ((↑j : Int) < (↑(Dats.len ks) : Int)), true), (true, true), (decide (0 ≤ (↑j : Int) ∧ (↑j : Int) < (↑(Dats.len ks) : Int)), true), (decide (TD.size d24 ≤ List.length (List.drop (Int.toNat (↑j : Int) * TD.size d24) (Dats.cells ks))), true), (same (PV.agg (List.take 4 (List.drop (Int.toNat (Int.ofNat j) * 4) (Dats.cells ks)))) (PV.agg [PV.int IntKind.i64 k', PV.int IntKind.i64 n', PV.str s', PV.slice (Dats.len ks') (Dats.cells ks')]), true), (Int.ofNat j == IntKind.wrap IntKind.i64 (Int.ofNat (Dats.len ks) - (1 : Int)), true), (true, true), (Int.ofNat j == (0 : Int), false), (false, false), (isLay N [PV.int IntKind.i64 k', PV.int IntKind.i64 n', PV.str s', PV.slice (Dats.len ks') (Dats.cells ks')], true), (decide (0 ≤ (↑w : Int) ∧ (↑w : Int) ≤ 4398046511104), true), (decide (0 ≤ IntKind.wrap IntKind.i64 ((↑c : Int) + 2) ∧ IntKind.wrap IntKind.i64 ((↑c : Int) + 2) + 2 * (↑N : Int) ≤ 4398046511104), true), (decide (0 ≤ IntKind.wrap IntKind.i64 ((↑r : Int) + 1) ∧ IntKind.wrap IntKind.i64 ((↑r : Int) + 1) + (↑N : Int) ≤ 4398046511104), true), (decide (0 ≤ IntKind.wrap IntKind.i64 ((↑p : Int) + 1)), true), (decide (0 ≤ IntKind.wrap IntKind.i64 ((↑c : Int) + 2)), true), (decide (0 ≤ if IntKind.wrap IntKind.i64 ((↑c : Int) + 2) > (↑u : Int) then IntKind.wrap IntKind.i64 ((↑c : Int) + 2) else (↑u : Int)), true), (Nat.ble (Int.toNat (IntKind.wrap IntKind.i64 (Int.ofNat (p + 1))) + lrC (Int.toNat (Int.ofNat w)) (Int.toNat (IntKind.wrap IntKind.i64 (Int.ofNat (c + 2)))) (Int.toNat (IntKind.wrap IntKind.i64 (Int.ofNat (r + 1)))) [PV.int IntKind.i64 k', PV.int IntKind.i64 n', PV.str s', PV.slice (Dats.len ks') (Dats.cells ks')]) 140737488355328, true), (Nat.ble (Int.toNat (IntKind.wrap IntKind.i64 (Int.ofNat (c + 2))) + lrC (Int.toNat (Int.ofNat w)) (Int.toNat (IntKind.wrap IntKind.i64 (Int.ofNat (c + 2)))) (Int.toNat (IntKind.wrap IntKind.i64 (Int.ofNat (r + 1)))) [PV.int IntKind.i64 k', PV.int IntKind.i64 n', PV.str s', PV.slice (Dats.len ks') (Dats.cells ks')]) 140737488355328, true)]) (by kernel_rfl) (by clear hPs; (repeat' (first | exact okO_nil | refine okN ?_ ?_)); all_goals first | (with_reducible rfl) | assumption | (simp only [Int.ofNat_eq_natCast, wc1, wc1', wc2, wc2', wr1, wr1', wp1, wp1', Int.toNat_natCast, mxC, hlr]; done) | ((try simp only [Int.ofNat_eq_natCast, wc1, wc1', wc2, wc2', wr1, wr1', wp1, wp1', Int.toNat_natCast, mxC, hlr]); simp only [decide_eq_true_eq, decide_eq_false_iff_not, Nat.ble_eq, Nat.beq_eq]; omega)) (fun st hs => ⟨⟨j + 1, hlt⟩, Nat.sub_lt_sub_left hlt (Nat.lt_succ_self j), [DB k' n' s' ks'], ?_⟩)
      rw [hs]
      simp only [T, hPs]
      simp only [Int.ofNat_eq_natCast, wc1, wc1', wc2, wc2', wr1, wr1', wp1, wp1', Int.toNat_natCast, mxC, hlr, hlm, wj']
      rfl
    · have e1 : (Int.ofNat j == IntKind.wrap IntKind.i64 (Int.ofNat (Dats.len ks) - (1 : Int))) = false := by
        rw [wl, beq_eq_false_iff_ne]
        show (j : Int) ≠ _
        omega
      have e2 : (Int.ofNat j == (0 : Int)) = false := by
        rw [beq_eq_false_iff_ne]
        show (j : Int) ≠ 0
        omega
      have hPs : P (j + 1) = layG mS w (.mk k' n' s' ks') (c + 2) (0) (p + 1, c + 2, max u (c + 2)) := by
        simp only [hPn, and_true, decide_eq_true_eq, if_neg hz, if_neg hl]
        try rfl
      simp only [if_neg hz, if_neg hl, List.length_nil, List.length_cons, List.length_replicate] at hbd hbd2
      clear hPn
      refine SWP.runQ (SM ih [(79, [(44, true), (46, true), (47, true), (53, false), (57, false)])] [(79, [(47, .agg [.int .i64 k', .int .i64 n', .str s', .slice ks'.len ks'.cells])])]) 100 79 hnt [2, 3, 4, 5, 41, 42, 43] (e := .normal) (z := ⟨[(2, .int .i64 (Int.ofNat c)), (3, .int .i64 (Int.ofNat r)), (4, .ptr 1 0), (5, .ptr 2 0), (41, .slice (Dats.len ks) (Dats.cells ks)), (42, .int .i64 (Int.ofNat (Dats.len ks))), (43, .int .i64 (IntKind.wrap IntKind.i64 (Int.ofNat (j + 1))))], ⟨[⟨[.int .i64 (Int.ofNat (Prod.fst (lmC (Int.toNat (Int.ofNat w)) (Int.toNat (IntKind.wrap IntKind.i64 (Int.ofNat (c + 2)))) 0 (Int.toNat (IntKind.wrap IntKind.i64 (Int.ofNat (p + 1))), Int.toNat (IntKind.wrap IntKind.i64 (Int.ofNat (c + 2))), Int.toNat (if IntKind.wrap IntKind.i64 ((↑c : Int) + 2) > (↑u : Int) then IntKind.wrap IntKind.i64 (Int.ofNat (c + 2)) else Int.ofNat u)) [.int .i64 k', .int .i64 n', .str s', .slice (Dats.len ks') (Dats.cells ks')]))), .int .i64 (Int.ofNat (Prod.fst (Prod.snd (lmC (Int.toNat (Int.ofNat w)) (Int.toNat (IntKind.wrap IntKind.i64 (Int.ofNat (c + 2)))) 0 (Int.toNat (IntKind.wrap IntKind.i64 (Int.ofNat (p + 1))), Int.toNat (IntKind.wrap IntKind.i64 (Int.ofNat (c + 2))), Int.toNat (if IntKind.wrap IntKind.i64 ((↑c : Int) + 2) > (↑u : Int) then IntKind.wrap IntKind.i64 (Int.ofNat (c + 2)) else Int.ofNat u)) [.int .i64 k', .int .i64 n', .str s', .slice (Dats.len ks') (Dats.cells ks')])))), .int .i64 (Int.ofNat (Prod.snd (Prod.snd (lmC (Int.toNat (Int.ofNat w)) (Int.toNat (IntKind.wrap IntKind.i64 (Int.ofNat (c + 2)))) 0 (Int.toNat (IntKind.wrap IntKind.i64 (Int.ofNat (p + 1))), Int.toNat (IntKind.wrap IntKind.i64 (Int.ofNat (c + 2))), Int.toNat (if IntKind.wrap IntKind.i64 ((↑c : Int) + 2) > (↑u : Int) then IntKind.wrap IntKind.i64 (Int.ofNat (c + 2)) else Int.ofNat u)) [.int .i64 k', .int .i64 n', .str s', .slice (Dats.len ks') (Dats.cells ks')]))))], 79⟩, ⟨[PV.iface 75 (.ptr 0 0), .int .i64 (Int.ofNat w)], 72⟩, ⟨[.int .i64 k, .int .i64 n, .str s, .slice (Dats.len ks) (Dats.cells ks)], 24⟩, ⟨[.int .i64 k', .int .i64 n', .str s', .slice (Dats.len ks') (Dats.cells ks')], 24⟩], []⟩⟩) (o := [(decide ((↑j : Int) < (↑(Dats.len ks) : Int)), true), (true, true), (decide (0 ≤ (↑j : Int) ∧ (↑j : Int) < (↑(Dats.len ks) : Int)), true), (decide (TD.size d24 ≤ List.length (List.drop (Int.toNat (↑j : Int) * TD.size d24) (Dats.cells ks))), true), (same (PV.agg (List.take 4 (List.drop (Int.toNat (Int.ofNat j) * 4) (Dats.cells ks)))) (PV.agg [PV.int IntKind.i64 k', PV.int IntKind.i64 n', PV.str s', PV.slice (Dats.len ks') (Dats.cells ks')]), true), (Int.ofNat j == IntKind.wrap IntKind.i64 (Int.ofNat (Dats.len ks) - (1 : Int)), false), (false, false), (Int.ofNat j == (0 : Int), false), (false, false), (isLay N [PV.int IntKind.i64 k', PV.int IntKind.i64 n', PV.str s', PV.slice (Dats.len ks') (Dats.cells ks')], true), (decide (0 ≤ (↑w : Int) ∧ (↑w : Int) ≤ 4398046511104), true), (decide (0 ≤ IntKind.wrap IntKind.i64 ((↑c : Int) + 2) ∧ IntKind.wrap IntKind.i64 ((↑c : Int) + 2) + 2 * (↑N : Int) ≤ 4398046511104), true), (decide ((0 : Int) ≤ 0 ∧ 0 + (↑N : Int) ≤ 4398046511104), true), (decide (0 ≤ IntKind.wrap IntKind.i64 ((↑p : Int) + 1)), true), (decide (0 ≤ IntKind.wrap IntKind.i64 ((↑c : Int) + 2)), true), (decide (0 ≤ if IntKind.wrap IntKind.i64 ((↑c : Int) + 2) > (↑u : Int) then IntKind.wrap IntKind.i64 ((↑c : Int) + 2) else (↑u : Int)), true), (Nat.ble (Int.toNat (IntKind.wrap IntKind.i64 (Int.ofNat (p + 1))) + lrC (Int.toNat (Int.ofNat w)) (Int.toNat (IntKind.wrap IntKind.i64 (Int.ofNat (c + 2)))) 0 [PV.int IntKind.i64 k', PV.int IntKind.i64 n', PV.str s', PV.slice (Dats.len ks') (Dats.cells ks')]) 140737488355328, true), (Nat.ble (Int.toNat (IntKind.wrap IntKind.i64 (Int.ofNat (c + 2))) + lrC (Int.toNat (Int.ofNat w)) (Int.toNat (IntKind.wrap IntKind.i64 (Int.ofNat (c + 2)))) 0 [PV.int IntKind.i64 k', PV.int IntKind.i64 n', PV.str s', PV.slice (Dats.len ks') (Dats.cells ks')]) 140737488355328, true)]) (by kernel_rfl) (by clear hPs; (repeat' (first | exact okO_nil | refine okN ?_ ?_)); all_goals first | (with_reducible rfl) | assumption | (simp only [Int.ofNat_eq_natCast, wc1, wc1', wc2, wc2', wr1, wr1', wp1, wp1', Int.toNat_natCast, mxC, hlr]; done) | ((try simp only [Int.ofNat_eq_natCast, wc1, wc1', wc2, wc2', wr1, wr1', wp1, wp1', Int.toNat_natCast, mxC, hlr]); simp only [decide_eq_true_eq, decide_eq_false_iff_not, Nat.ble_eq, Nat.beq_eq]; omega)) (fun st hs => ⟨⟨j + 1, hlt⟩, Nat.sub_lt_sub_left hlt (Nat.lt_succ_self j), [DB k' n' s' ks'], ?_⟩)
      rw [hs]
      simp only [T, hPs]
      simp only [Int.ofNat_eq_natCast, wc1, wc1', wc2, wc2', wr1, wr1', wp1, wp1', Int.toNat_natCast, mxC, hlr, hlm, wj']
      rfl
  · obtain rfl : j = ks.len := by omega
    have d2 := ge_at hge
    have hpl : (P ks.len).2.1 ≤ y + 1 + (layTL w ks true c r true).length := by
      rw [hPl]
      exact (met_lenL w ks true c r true (x, y + 1, max z (y + 1))).2
    show SWP G0 C _ _ ⟨[(2, .int .i64 c), (3, .int .i64 r), (4, .ptr 1 0), (5, .ptr 2 0), (41, .slice ks.len ks.cells), (42, .int .i64 ks.len), (43, .int .i64 ks.len)], ⟨[mT (P ks.len), LM w, DB k n s ks], []⟩⟩
    obtain ⟨p, q, u, hp⟩ : ∃ p q u, P ks.len = (p, q, u) := ⟨_, _, _, rfl⟩
    rw [hp] at hpl hPl ⊢
    simp only [] at hpl
    have wq := wrapC (q + 1) (by omega)
    have wq' : IntKind.wrap IntKind.i64 ((↑q : Int) + (↑(ByteArray.size { data := #[41] }) : Int)) = ((q + 1 : Nat) : Int) := wq
    refine SWP.runQ (SM ih [(79, [(44, false)])] []) 100 79 hnt [2, 3, 4, 5] (e := .exit 0) (z := ⟨[(2, .int .i64 c), (3, .int .i64 r), (4, .ptr 1 0), (5, .ptr 2 0)], ⟨[mT (p, q, u), LM w, DB k n s ks], []⟩⟩) (o := [(decide ((ks.len : Int) < (ks.len : Int)), false), (false, false)]) (by kernel_rfl) (by repeat' first | exact okO_nil | refine okN ?_ ?_ | assumption | rfl) (fun st hs => hK2 st (.norm [2, 3, 4, 5] ?_))
    rw [hs]
    refine SWP.runQ (SM ih [] []) 100 79 hnt [] (e := .normal) (z := ⟨[], ⟨[⟨[.int .i64 (Int.ofNat p), .int .i64 (IntKind.wrap IntKind.i64 (Int.ofNat (q + 1))), .int .i64 (if IntKind.wrap IntKind.i64 ((↑q : Int) + (↑(ByteArray.size ⟨#[41]⟩) : Int)) > (↑u : Int) then IntKind.wrap IntKind.i64 (Int.ofNat (q + 1)) else Int.ofNat u)], 79⟩, ⟨[PV.iface 75 (.ptr 0 0), .int .i64 (Int.ofNat w)], 72⟩, ⟨[.int .i64 k, .int .i64 n, .str s, .slice (Dats.len ks) (Dats.cells ks)], 24⟩], []⟩⟩) (o := []) (by kernel_rfl) (by repeat' first | exact okO_nil | refine okN ?_ ?_ | assumption | rfl) (fun st hs => fin st (p, q + 1, max u (q + 1)) (by rw [lg, ← hPl]; rfl) ?_)
    rw [hs]
    simp only [Int.ofNat_eq_natCast, wq, wq', mxC]
    rfl
theorem metAt (N : Nat) : MetAt N := by
  induction N with
  | zero => intro d h; omega
  | succ N ih => exact fun d hN hok hrng hf ht w c r hw hc hr x y z hx hy => met_gen ih d hN hok hrng hf ht w c r hw hc hr x y z hx hy
end Seat
end Go.Proofs.YtkblfapbakfgpaaGreatDoor
