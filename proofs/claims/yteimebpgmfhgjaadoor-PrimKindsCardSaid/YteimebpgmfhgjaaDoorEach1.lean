/- datum.each: what it comes to; the yield's call. -/
import Derived.Test.YteimebpgmfhgjaaDoorEach0
namespace Go.Proofs.YteimebpgmfhgjaaDoor
open Go.AS
set_option linter.unusedVariables false
set_option linter.unusedSimpArgs false
set_option maxRecDepth 100000
namespace Seat
mutual
/-- The counter, behind all data in a datum at a depth. -/
def eachF (f : Int → Nat → Int) : Dat → Int → Nat → Int
  | .mk _ _ _ ks, c, n => eachL f ks (f c n) (n + 1)
def eachL (f : Int → Nat → Int) : Dats → Int → Nat → Int
  | .nil, c, _ => c
  | .cons d ds, c, n => eachL f ds (eachF f d c n) n
end
def eachP (f : Int → Nat → Int) (ks : Dats) (c : Int) (n : Nat) : Nat → Int
  | 0 => c
  | j + 1 => eachF f (ks.get j) (eachP f ks c n j) n
theorem eachP_len (f : Int → Nat → Int) (n : Nat) : ∀ (ks : Dats) (c : Int), eachP f ks c n ks.len = eachL f ks c n := by
  have shift : ∀ (d : Dat) (ds : Dats) (c : Int) (j : Nat), eachP f (.cons d ds) c n (j + 1) = eachP f ds (eachF f d c n) n j := by
    intro d ds c j
    induction j with
    | zero => simp [eachP, Dats.get]
    | succ j ih => rw [eachP, ih]; simp only [eachP, Dats.get]
  intro ks
  induction ks using Dats.rec (motive_1 := fun _ => True) with
  | mk => trivial
  | nil => intro c; rfl
  | cons d ds _ ih => intro c; simp only [Dats.len, eachL]; rw [shift, ih]
mutual
def deepN : Dat → Nat
  | .mk _ _ _ ks => deepNL ks + 1
def deepNL : Dats → Nat
  | .nil => 0
  | .cons d ds => max (deepN d) (deepNL ds)
end
theorem deepN_get : ∀ (ks : Dats) (j : Nat), j < ks.len → deepN (ks.get j) ≤ deepNL ks
  | .nil, j, h => by simp [Dats.len] at h
  | .cons d ds, 0, h => by simp only [Dats.get, deepNL]; omega
  | .cons d ds, j + 1, h => by
    have := deepN_get ds j (by simp only [Dats.len] at h; omega)
    simp only [Dats.get, deepNL]; omega
theorem wrapN (n : Nat) (h : n ≤ 9223372036854775807) : IntKind.i64.wrap (n : Int) = n := by rw [IntKind.wrap_i64]; omega
section
variable {Y : Nat} {f : Int → Nat → Int}
/-- The yield's call in region 1, of a path that is a box's. -/
theorem yield_scr (hY : Yok Y f) (k n : Int) (s : ByteArray) (m : Nat) (cs : List PV) (cnt : Int) (pl pm : Nat) (hp : pl ≤ pm) {C : Ctx} {Q : AEx → AS → Prop} {K : AS → Prop} (hnt : C.nt = 31) (st : AS) (h3 : lk st.t 9 = yOf Y) (h4 : lk st.t 10 = .agg [.int .i64 k, .int .i64 n, .str s, .slice m cs]) (h5 : lk st.t 11 = .bsl 1 pl pm) (hb : st.h.bx[0]? = some (ctr cnt)) (hb1 : st.h.bx[1]? = some (scr pm))
    (hK : K (({ st with h := ⟨st.h.bx.set 0 (ctr (f cnt pl)), st.h.rw⟩ } : AS).put (some 12) (.bool true))) :
    SOne G0 C (some 12) (.call ⟨.value (.tmp 9), #[.tmp 10, .tmp 11], #[24, 78]⟩) Q K st := fun o h1 h2 => by
  obtain ⟨q, hq⟩ := hY.fn
  obtain ⟨a1, a2, a3⟩ := hF _ _ hq
  refine SOp.callF (f := Y) (ys := [.agg [.int .i64 k, .int .i64 n, .str s, .slice m cs], .bsl 1 pl pm, .ptr 0 0]) (xs := [.agg [.int .i64 k, .int .i64 n, .str s, .slice m cs], .bsl 1 pl pm, .ptr 0 0]) (fun i => i) [ctr cnt, scr pm] h2 ?_ a1 a2 a3 rfl ?_ ?_ ?_ ?_ ?_ (hY.scr k n s m cs cnt pl pm hp) ?_
  · simp only [target, AS.ev, h3, yOf, List.map_cons, List.map_nil, h4, h5, List.cons_append, List.nil_append]
  · intro j y x hy hx
    match j with
    | 0 => simp at hy hx; subst hy; subst hx; exact .pure rfl
    | 1 => simp at hy hx; subst hy; subst hx; exact .bsl (by simp)
    | 2 => simp at hy hx; subst hy; subst hx; exact .ptr (by simp)
    | j + 3 => simp at hy
  · intro i b hi
    match i with
    | 0 => simp at hi; subst hi; exact hb
    | 1 => simp at hi; subst hi; exact hb1
    | i + 2 => simp at hi
  · simp only [List.all_cons, List.all_nil, scr, ctr, scL_rep]; rfl
  · intro i j hi hj h; exact h
  · rw [h1, hnt]; rfl
  · rintro o' b ⟨rfl, rfl⟩
    refine ⟨_, _, rfl, rfl, by simp only [List.take, List.length_cons, List.length_nil, List.all_cons, List.all_nil, scr, ctr, scL_rep]; rfl, List.length_set .., fun i hi => ?_, fun j hj => ?_, by rw [h1]; exact hK⟩
    · match i with
      | 0 => rw [List.getElem?_set_self (List.getElem?_eq_some_iff.1 hb).1]; rfl
      | 1 => rw [List.getElem?_set_ne (by simp)]; exact hb1
      | i + 2 => exact absurd hi (by simp only [List.length_cons, List.length_nil]; omega)
    · rw [List.getElem?_set_ne (hj 0 (by simp))]
/-- The same, of no path. -/
theorem yield_nil (hY : Yok Y f) (k n : Int) (s : ByteArray) (m : Nat) (cs : List PV) (cnt : Int) {C : Ctx} {Q : AEx → AS → Prop} {K : AS → Prop} (hnt : C.nt = 31) (st : AS) (h3 : lk st.t 9 = yOf Y) (h4 : lk st.t 10 = .agg [.int .i64 k, .int .i64 n, .str s, .slice m cs]) (h5 : lk st.t 11 = .nil) (hb : st.h.bx[0]? = some (ctr cnt))
    (hK : K (({ st with h := ⟨st.h.bx.set 0 (ctr (f cnt 0)), st.h.rw⟩ } : AS).put (some 12) (.bool true))) :
    SOne G0 C (some 12) (.call ⟨.value (.tmp 9), #[.tmp 10, .tmp 11], #[24, 78]⟩) Q K st := fun o h1 h2 => by
  obtain ⟨q, hq⟩ := hY.fn
  obtain ⟨a1, a2, a3⟩ := hF _ _ hq
  refine SOp.callF (f := Y) (ys := [.agg [.int .i64 k, .int .i64 n, .str s, .slice m cs], .nil, .ptr 0 0]) (xs := [.agg [.int .i64 k, .int .i64 n, .str s, .slice m cs], .nil, .ptr 0 0]) (fun i => i) [ctr cnt] h2 ?_ a1 a2 a3 rfl ?_ ?_ rfl ?_ ?_ (hY.nil k n s m cs cnt) ?_
  · simp only [target, AS.ev, h3, yOf, List.map_cons, List.map_nil, h4, h5, List.cons_append, List.nil_append]
  · intro j y x hy hx
    match j with
    | 0 => simp at hy hx; subst hy; subst hx; exact .pure rfl
    | 1 => simp at hy hx; subst hy; subst hx; exact .pure rfl
    | 2 => simp at hy hx; subst hy; subst hx; exact .ptr (by simp)
    | j + 3 => simp at hy
  · intro i b hi
    match i with
    | 0 => simp at hi; subst hi; exact hb
    | i + 1 => simp at hi
  · intro i j hi hj h; exact h
  · rw [h1, hnt]; rfl
  · rintro o' b ⟨rfl, rfl⟩
    refine ⟨_, _, rfl, rfl, rfl, List.length_set .., fun i hi => ?_, fun j hj => ?_, by rw [h1]; exact hK⟩
    · have : i = 0 := by simp at hi; exact hi
      subst this
      rw [List.getElem?_set_self (List.getElem?_eq_some_iff.1 hb).1]
      rfl
    · rw [List.getElem?_set_ne (hj 0 (by simp))]
/-- What a call of each is known to do, of data of less than N. -/
def EachAt (Y : Nat) (f : Int → Nat → Int) (N : Nat) : Prop := ∀ d : Dat, d.size < N → d.ok → ∀ (cnt : Int) (n m : Nat), n ≤ m → n + deepN d ≤ 17592186044415 → PCalls G0 64 [.agg d.cells, .bsl 1 n m, yOf Y] [ctr cnt, scr m] (fun o b => o = .ret (.bool true) ∧ b = [ctr (eachF f d cnt n), scr m])
/-- The call of each in region 6: box 0 is the counter, box q the path's. -/
theorem each_call {N : Nat} (hN : EachAt Y f N) (d : Dat) (hd : d.size < N) (hok : d.ok) (cnt : Int) (q n m : Nat) (hq : q ≠ 0) (hnm : n ≤ m) (hdeep : n + deepN d ≤ 17592186044415) {C : Ctx} {Q : AEx → AS → Prop} {K : AS → Prop} (hnt : C.nt = 31) (st : AS) (h3 : lk st.t 22 = .agg d.cells) (h4 : lk st.t 26 = .bsl q n m) (h5 : lk st.t 27 = yOf Y) (hb : st.h.bx[0]? = some (ctr cnt)) (hb1 : st.h.bx[q]? = some (scr m))
    (hK : K (({ st with h := ⟨st.h.bx.set 0 (ctr (eachF f d cnt n)), st.h.rw⟩ } : AS).put (some 28) (.bool true))) :
    SOne G0 C (some 28) (.call ⟨.value (.func 64), #[.tmp 22, .tmp 26, .tmp 27], #[24, 78, 89]⟩) Q K st := fun o h1 h2 => by
  obtain ⟨a1, a2, a3⟩ := hF 64 _ rfl
  refine SOp.callF (f := 64) (ys := [.agg d.cells, .bsl q n m, yOf Y]) (xs := [.agg d.cells, .bsl 1 n m, yOf Y]) (fun i => match i with | 0 => 0 | _ => q) [ctr cnt, scr m] h2 ?_ a1 a2 a3 rfl ?_ ?_ ?_ ?_ ?_ (hN d hd hok cnt n m hnm hdeep) ?_
  · simp only [target, AS.ev, h3, yOf, List.map_cons, List.map_nil, h4, h5, List.cons_append, List.nil_append, List.append_nil]
  · intro j y x hy hx
    match j with
    | 0 => simp at hy hx; subst hy; subst hx; exact .pure (by simp only [PV.pure, Dat.pure])
    | 1 => simp at hy hx; subst hy; subst hx; exact .bsl (pos := fun i => match i with | 0 => 0 | _ => q) (b := 1) (by simp)
    | 2 =>
      simp [yOf] at hy hx; subst hy; subst hx
      refine .func rfl fun j y x hy hx => ?_
      match j with
      | 0 => simp at hy hx; subst hy; subst hx; exact .ptr (pos := fun i => match i with | 0 => 0 | _ => q) (b := 0) (by simp)
      | j + 1 => simp at hy
    | j + 3 => simp at hy
  · intro i b hi
    match i with
    | 0 => simp at hi; subst hi; exact hb
    | 1 => simp at hi; subst hi; exact hb1
    | i + 2 => simp at hi
  · simp only [List.all_cons, List.all_nil, scr, ctr, scL_rep]; rfl
  · intro i j hi hj h
    match i, j with
    | 0, 0 => rfl
    | 0, 1 => exact absurd h.symm hq
    | 1, 0 => exact absurd h hq
    | 1, 1 => rfl
    | i + 2, _ => exact absurd hi (by simp only [List.length_cons, List.length_nil]; omega)
    | _, j + 2 => exact absurd hj (by simp only [List.length_cons, List.length_nil]; omega)
  · rw [h1, hnt]; rfl
  · rintro o' b ⟨rfl, rfl⟩
    refine ⟨_, _, rfl, rfl, by simp only [List.take, List.length_cons, List.length_nil, List.all_cons, List.all_nil, scr, ctr, scL_rep]; rfl, List.length_set .., fun i hi => ?_, fun j hj => ?_, by rw [h1]; exact hK⟩
    · match i with
      | 0 => exact (List.getElem?_set_self (List.getElem?_eq_some_iff.1 hb).1).trans rfl
      | 1 => exact (List.getElem?_set_ne (Ne.symm hq)).trans hb1
      | i + 2 => exact absurd hi (by simp only [List.length_cons, List.length_nil]; omega)
    · have := hj 0 (by simp)
      exact List.getElem?_set_ne this
end
end Seat
end Go.Proofs.YteimebpgmfhgjaaDoor
