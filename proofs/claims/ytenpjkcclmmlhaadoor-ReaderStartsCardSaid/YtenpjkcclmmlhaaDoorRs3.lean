/- Texts of this session, packed: DatA, DatB, DatC, Read0, Bld0, Bld1, Shelf, Text0, Read1, Lib1, Rp1, Rp2, Rp3, Read4, Read5, Rp4, NumQ, NumR, Eng3, Nz, Tok0. -/
import Derived.Test.YtenpjkcclmmlhaaDoorRs2
/- pagodaref01.Parts: how many parts a datum has. -/
namespace Go.Proofs.YtenpjkcclmmlhaaDoor
open Go.AS
set_option linter.unusedVariables false
set_option linter.unusedSimpArgs false
set_option maxRecDepth 100000
namespace Seat
abbrev w64 (n : Int) : Int := IntKind.i64.wrap n
mutual
def parts : Dat → Nat
  | .mk _ _ _ ks => partsL ks + 1
def partsL : Dats → Nat
  | .nil => 0
  | .cons d ds => parts d + partsL ds
end
def psum (ks : Dats) : Nat → Nat
  | 0 => 0
  | j + 1 => psum ks j + parts (ks.get j)
theorem psum_len : ∀ ks : Dats, psum ks ks.len = partsL ks := by
  have shift : ∀ (d : Dat) (ds : Dats) (j : Nat), psum (.cons d ds) (j + 1) = parts d + psum ds j := by
    intro d ds j
    induction j with
    | zero => simp [psum, Dats.get]
    | succ j ih => rw [psum, ih]; simp only [psum, Dats.get]; omega
  intro ks
  induction ks using Dats.rec (motive_1 := fun _ => True) with
  | mk => trivial
  | nil => rfl
  | cons d ds _ ih => simp only [Dats.len, partsL]; rw [shift, ih]
noncomputable def partsC (cs : List PV) : Int := ofCells (fun d => w64 (parts d)) 0 cs
noncomputable def partsS (N : Nat) : Nat → List PV → Option (PV × Ob)
  | 44, [.agg cs] => some (.int .i64 (partsC cs), [(isDat N cs, true)])
  | _, _ => none
theorem partsS_ok {N : Nat} (ih : ∀ d : Dat, d.size < N → d.ok → Pure G0 44 [.agg d.cells] (fun r => r = .int .i64 (w64 (parts d)))) (f : Nat) (args : List PV) (r : PV) (o : Ob) (h : partsS N f args = some (r, o)) (ho : okO o) (_ : pureL args = true) : Pure G0 f args (fun x => x = r) := by
  unfold partsS at h
  split at h
  · rename_i cs
    cases h
    obtain ⟨d, rfl, h1, h2⟩ := isDat_of (ho _ (List.mem_singleton.2 rfl))
    simp only [partsC, ofCells_at]
    exact ih d h1 h2
  · cases h
def partsO (b : Bool) (nt k : Nat) : Option Bool := match Nat.beq nt 21 with
  | true => match k with
    | 9 => some b
    | 16 => some true
    | 17 => some true
    | _ => none
  | false => none
theorem wrap_in (n : Int) (h : -9223372036854775808 ≤ n ∧ n ≤ 9223372036854775807) : w64 n = n := by unfold w64; rw [IntKind.wrap_i64]; omega
theorem wrap_add (a b : Int) : w64 (w64 a + w64 b) = w64 (a + b) := by unfold w64; simp only [IntKind.wrap_i64]; omega
theorem parts_ok (N : Nat) : ∀ d : Dat, d.size < N → d.ok → Pure G0 44 [.agg d.cells] (fun r => r = .int .i64 (w64 (parts d))) := by
  induction N with
  | zero => intro d h; omega
  | succ N ih =>
    intro d hN hok
    obtain ⟨k, n, s, ks⟩ := d
    let S (b : Bool) : Cfg G0 := { F := F, hF := hF, S := partsS N, hS := partsS_ok ih, orc := partsO b }
    let H : Hp := ⟨[⟨[.int .i64 k, .int .i64 n, .str s, .slice ks.len ks.cells], 25⟩], []⟩
    refine Fn.enterN Tryd.func44 Tryd.ntmps44 rfl (Nat.le_of_ble_eq_true rfl) fun C fr fp hnt hp hfr hfp => ?_
    refine Q.runSeq (S true) 50 21 hnt [1] (z := ⟨[(1, .ptr 0 0)], H⟩) (o := []) (by kernel_rfl) (fun p h => by cases h) ?_
    refine Q.runSeq (S true) 50 21 hnt [1, 3] (z := ⟨[(1, .ptr 0 0), (3, .int .i64 1)], H⟩) (o := []) (by kernel_rfl) (fun p h => by cases h) ?_
    refine Q.seq fun K hK => ?_
    refine Q.runSeq (S true) 50 21 hnt [1, 3, 4] (z := ⟨[(1, .ptr 0 0), (3, .int .i64 1), (4, .int .i64 0)], H⟩) (o := []) (by kernel_rfl) (fun p h => by cases h) ?_
    refine Q.block ?_
    refine Q.loopI (σ := { j : Nat // j ≤ ks.len }) [1, 3, 4] (fun j => ⟨[(1, .ptr 0 0), (3, .int .i64 (w64 (1 + psum ks j.1))), (4, .int .i64 j.1)], H⟩) (fun j => ks.len - j.1) ⟨0, Nat.zero_le _⟩ rfl fun ⟨j, hj⟩ => ?_
    rcases Nat.lt_or_ge j ks.len with hlt | hge
    · refine SWP.runQ (S true) 60 21 hnt [1, 3, 4] (e := .normal) (z := ⟨[(1, .ptr 0 0), (3, .int .i64 (w64 (w64 (1 + psum ks j) + partsC ((ks.cells.drop ((j : Int).toNat * 4)).take 4)))), (4, .int .i64 (w64 ((j : Int) + 1)))], H⟩)
        (o := [(decide ((j : Int) < (ks.len : Int)), true), (true, true), (decide (0 ≤ (j : Int) ∧ (j : Int) < (ks.len : Int)), true), (decide (4 ≤ (ks.cells.drop ((j : Int).toNat * 4)).length), true), (pureL [.agg ((ks.cells.drop ((j : Int).toNat * 4)).take 4)], true), (isDat N ((ks.cells.drop ((j : Int).toNat * 4)).take 4), true)]) (by kernel_rfl) ?_ ?_
      · intro p hm
        simp only [List.mem_cons, List.not_mem_nil, or_false, Int.toNat_natCast, Dats.get_cells ks j hlt] at hm
        have := Dats.get_size ks j hlt
        rcases hm with rfl | rfl | rfl | rfl | rfl | rfl
        · simpa using hlt
        · rfl
        · simpa using hlt
        · simp only [List.length_drop, Dats.cells_len, decide_eq_true_eq]; omega
        · exact Dat.pure1 _
        · exact isDat_at (by simp only [Dat.size] at hN; omega) (Dats.get_ok ks j hlt hok.2)
      · intro s' hs
        refine ⟨⟨j + 1, hlt⟩, Nat.sub_lt_sub_left hlt (Nat.lt_succ_self j), ?_⟩
        rw [hs]
        simp only [Int.toNat_natCast, Dats.get_cells ks j hlt, partsC, ofCells_at, wrap_add, psum]
        rw [wrap_in ((j : Int) + 1) (by have := hok.1; omega)]
        have e : (1 + (psum ks j : Int) + (parts (ks.get j) : Int)) = 1 + ((psum ks j + parts (ks.get j) : Nat) : Int) := by push_cast; omega
        rw [e]
        rfl
    · have hje : j = ks.len := by omega
      subst hje
      refine SWP.runQ (S false) 60 21 hnt [1, 3, 4] (e := .exit 0) (z := ⟨[(1, .ptr 0 0), (3, .int .i64 (w64 (1 + psum ks ks.len))), (4, .int .i64 ks.len)], H⟩) (o := [(decide ((ks.len : Int) < (ks.len : Int)), false), (false, false)]) (by kernel_rfl) ?_ ?_
      · intro p hm
        simp only [List.mem_cons, List.not_mem_nil, or_false] at hm
        rcases hm with rfl | rfl
        · simp
        · rfl
      · intro s' hs
        refine hK s' (.norm [1, 3, 4] ?_)
        rw [hs]
        refine Q.runSeq (S true) 50 21 hnt [2] (z := ⟨[(2, .int .i64 (w64 (1 + psum ks ks.len)))], H⟩) (o := []) (by kernel_rfl) (fun p h => by cases h) ?_
        refine Q.ret (hfr _ [2] (FinR.pure (r := .int .i64 (w64 (1 + psum ks ks.len))) (by kernel_rfl) rfl ?_))
        simp only [psum_len, parts]
        congr 1
        push_cast
        congr 1
        omega
end Seat
end Go.Proofs.YtenpjkcclmmlhaaDoor
/- pagodaref01.Deep: how deep a datum is. -/
namespace Go.Proofs.YtenpjkcclmmlhaaDoor
open Go.AS
set_option linter.unusedVariables false
set_option linter.unusedSimpArgs false
set_option maxRecDepth 100000
namespace Seat
abbrev w64' (n : Int) : Int := IntKind.i64.wrap n
def mx (x y : Int) : Int := if y > x then y else x
mutual
def deep : Dat → Int
  | .mk _ _ _ ks => w64' (deepL ks 0 + 1)
def deepL : Dats → Int → Int
  | .nil, acc => acc
  | .cons d ds, acc => deepL ds (mx acc (deep d))
end
end Seat
end Go.Proofs.YtenpjkcclmmlhaaDoor
/- datum.each: what its yields do: Parts$1 counts, Deep$1 keeps the greatest length. -/
namespace Go.Proofs.YtenpjkcclmmlhaaDoor
open Go.AS
set_option linter.unusedVariables false
set_option linter.unusedSimpArgs false
set_option maxRecDepth 100000
namespace Seat
def ctr (n : Int) : Box := ⟨[.int .i64 n], 3⟩
def scr (m : Nat) : Box := ⟨List.replicate m .junk, 3⟩
theorem scL_rep (k m : Nat) : scL k (List.replicate m PV.junk) = true := by
  induction m with
  | zero => rfl
  | succ m ih => rw [List.replicate_succ]; simp only [scL, ih, Bool.and_true]; rfl
def yOf (Y : Nat) : PV := .func (.func Y) [.ptr 0 0]
structure Yok (Y : Nat) (f : Int → Nat → Int) : Prop where
  fn : ∃ q, F Y = some q
  nil : ∀ (k n : Int) (s : ByteArray) (m : Nat) (cs : List PV) (cnt : Int), PCalls G0 Y [.agg [.int .i64 k, .int .i64 n, .str s, .slice m cs], .nil, .ptr 0 0] [ctr cnt] (fun o b => o = .ret (.bool true) ∧ b = [ctr (f cnt 0)])
  scr : ∀ (k n : Int) (s : ByteArray) (m : Nat) (cs : List PV) (cnt : Int) (pl pm : Nat), pl ≤ pm → PCalls G0 Y [.agg [.int .i64 k, .int .i64 n, .str s, .slice m cs], .bsl 1 pl pm, .ptr 0 0] [ctr cnt, scr pm] (fun o b => o = .ret (.bool true) ∧ b = [ctr (f cnt pl), scr pm])
def fParts (c : Int) (_ : Nat) : Int := IntKind.i64.wrap (c + 1)
def mxi (x y : Int) : Int := if y > x then y else x
def fDeep (c : Int) (n : Nat) : Int := mxi c (IntKind.i64.wrap ((n : Int) + 1))
theorem yParts : Yok 83 fParts where
  fn := ⟨_, rfl⟩
  nil := fun k n s m cs cnt => PCalls.run (S := S0) (o := []) 100 (by kernel_rfl) (fun p h => by cases h)
  scr := fun k n s m cs cnt pl pm h => by
    refine Fn.enterN Tryd.func83 Tryd.ntmps83 rfl (Nat.le_of_ble_eq_true rfl) fun C fr fp hnt hp hfr hfp => ?_
    refine SWP.runQ S0 60 8 hnt [5] (e := .ret) (z := ⟨[(5, .bool true)], ⟨[ctr (fParts cnt pl), Seat.scr pm, ⟨[.int .i64 k, .int .i64 n, .str s, .slice m cs], 25⟩], []⟩⟩) (o := []) (by kernel_rfl) (fun p h => by cases h) (fun s hs => hfr s [5] ?_)
    rw [hs]
    exact ⟨2, .bool true, Nat.le_of_ble_eq_true rfl, Nat.le_of_ble_eq_true rfl, rfl, rfl, by simp only [Seat.scr, ctr, List.take, List.all_cons, List.all_nil, scL_rep]; rfl, rfl, rfl⟩
theorem yDeep : Yok 84 fDeep where
  fn := ⟨_, rfl⟩
  nil := fun k n s m cs cnt => PCalls.run (S := S0) (o := []) 100 (by kernel_rfl) (fun p h => by cases h)
  scr := fun k n s m cs cnt pl pm h => by
    refine Fn.enterN Tryd.func84 Tryd.ntmps84 rfl (Nat.le_of_ble_eq_true rfl) fun C fr fp hnt hp hfr hfp => ?_
    refine SWP.runQ S0 60 11 hnt [5] (e := .ret) (z := ⟨[(5, .bool true)], ⟨[ctr (fDeep cnt pl), Seat.scr pm, ⟨[.int .i64 k, .int .i64 n, .str s, .slice m cs], 25⟩], []⟩⟩) (o := []) (by kernel_rfl) (fun p h => by cases h) (fun s hs => hfr s [5] ?_)
    rw [hs]
    exact ⟨2, .bool true, Nat.le_of_ble_eq_true rfl, Nat.le_of_ble_eq_true rfl, rfl, rfl, by simp only [Seat.scr, ctr, List.take, List.all_cons, List.all_nil, scL_rep]; rfl, rfl, rfl⟩
end Seat
end Go.Proofs.YtenpjkcclmmlhaaDoor
/- datum.each: what it comes to; the yield's call. -/
namespace Go.Proofs.YtenpjkcclmmlhaaDoor
open Go.AS
set_option linter.unusedVariables false
set_option linter.unusedSimpArgs false
set_option maxRecDepth 100000
namespace Seat
mutual
def eachF (f : Int → Nat → Int) : Dat → Int → Nat → Int
  | .mk _ _ _ ks, c, n => eachL f ks (f c n) (n + 1)
def eachL (f : Int → Nat → Int) : Dats → Int → Nat → Int
  | .nil, c, _ => c
  | .cons d ds, c, n => eachL f ds (eachF f d c n) n
end
def eachP (f : Int → Nat → Int) (ks : Dats) (c : Int) (n : Nat) : Nat → Int
  | 0 => c
  | j + 1 => eachF f (ks.get j) (eachP f ks c n j) n
theorem eachP_len (f : Int → Nat → Int) (n : Nat) : ∀ (ks : Dats) (c : Int), eachP f ks c n ks.len = eachL f ks c n := by
  have shift : ∀ (d : Dat) (ds : Dats) (c : Int) (j : Nat), eachP f (.cons d ds) c n (j + 1) = eachP f ds (eachF f d c n) n j := by
    intro d ds c j
    induction j with
    | zero => simp [eachP, Dats.get]
    | succ j ih => rw [eachP, ih]; simp only [eachP, Dats.get]
  intro ks
  induction ks using Dats.rec (motive_1 := fun _ => True) with
  | mk => trivial
  | nil => intro c; rfl
  | cons d ds _ ih => intro c; simp only [Dats.len, eachL]; rw [shift, ih]
mutual
def deepN : Dat → Nat
  | .mk _ _ _ ks => deepNL ks + 1
def deepNL : Dats → Nat
  | .nil => 0
  | .cons d ds => max (deepN d) (deepNL ds)
end
theorem deepN_get : ∀ (ks : Dats) (j : Nat), j < ks.len → deepN (ks.get j) ≤ deepNL ks
  | .nil, j, h => by simp [Dats.len] at h
  | .cons d ds, 0, h => by simp only [Dats.get, deepNL]; omega
  | .cons d ds, j + 1, h => by
    have := deepN_get ds j (by simp only [Dats.len] at h; omega)
    simp only [Dats.get, deepNL]; omega
theorem wrapN (n : Nat) (h : n ≤ 9223372036854775807) : IntKind.i64.wrap (n : Int) = n := by rw [IntKind.wrap_i64]; omega
section
variable {Y : Nat} {f : Int → Nat → Int}
theorem yield_scr (hY : Yok Y f) (k n : Int) (s : ByteArray) (m : Nat) (cs : List PV) (cnt : Int) (pl pm : Nat) (hp : pl ≤ pm) {C : Ctx} {Q : AEx → AS → Prop} {K : AS → Prop} (hnt : C.nt = 31) (st : AS) (h3 : lk st.t 9 = yOf Y) (h4 : lk st.t 10 = .agg [.int .i64 k, .int .i64 n, .str s, .slice m cs]) (h5 : lk st.t 11 = .bsl 1 pl pm) (hb : st.h.bx[0]? = some (ctr cnt)) (hb1 : st.h.bx[1]? = some (scr pm))
    (hK : K (({ st with h := ⟨st.h.bx.set 0 (ctr (f cnt pl)), st.h.rw⟩ } : AS).put (some 12) (.bool true))) :
    SOne G0 C (some 12) (.call ⟨.value (.tmp 9), #[.tmp 10, .tmp 11], #[25, 40]⟩) Q K st := fun o h1 h2 => by
  obtain ⟨q, hq⟩ := hY.fn
  obtain ⟨a1, a2, a3⟩ := hF _ _ hq
  refine SOp.callF (f := Y) (ys := [.agg [.int .i64 k, .int .i64 n, .str s, .slice m cs], .bsl 1 pl pm, .ptr 0 0]) (xs := [.agg [.int .i64 k, .int .i64 n, .str s, .slice m cs], .bsl 1 pl pm, .ptr 0 0]) (fun i => i) [ctr cnt, scr pm] h2 ?_ a1 a2 a3 rfl ?_ ?_ ?_ ?_ ?_ (hY.scr k n s m cs cnt pl pm hp) ?_
  · simp only [target, AS.ev, h3, yOf, List.map_cons, List.map_nil, h4, h5, List.cons_append, List.nil_append]
  · intro j y x hy hx
    match j with
    | 0 => simp at hy hx; subst hy; subst hx; exact .pure rfl
    | 1 => simp at hy hx; subst hy; subst hx; exact .bsl (by simp)
    | 2 => simp at hy hx; subst hy; subst hx; exact .ptr (by simp)
    | j + 3 => simp at hy
  · intro i b hi
    match i with
    | 0 => simp at hi; subst hi; exact hb
    | 1 => simp at hi; subst hi; exact hb1
    | i + 2 => simp at hi
  · simp only [List.all_cons, List.all_nil, scr, ctr, scL_rep]; rfl
  · intro i j hi hj h; exact h
  · rw [h1, hnt]; rfl
  · rintro o' b ⟨rfl, rfl⟩
    refine ⟨_, _, rfl, rfl, by simp only [List.take, List.length_cons, List.length_nil, List.all_cons, List.all_nil, scr, ctr, scL_rep]; rfl, List.length_set .., fun i hi => ?_, fun j hj => ?_, by rw [h1]; exact hK⟩
    · match i with
      | 0 => rw [List.getElem?_set_self (List.getElem?_eq_some_iff.1 hb).1]; rfl
      | 1 => rw [List.getElem?_set_ne (by simp)]; exact hb1
      | i + 2 => exact absurd hi (by simp only [List.length_cons, List.length_nil]; omega)
    · rw [List.getElem?_set_ne (hj 0 (by simp))]
theorem yield_nil (hY : Yok Y f) (k n : Int) (s : ByteArray) (m : Nat) (cs : List PV) (cnt : Int) {C : Ctx} {Q : AEx → AS → Prop} {K : AS → Prop} (hnt : C.nt = 31) (st : AS) (h3 : lk st.t 9 = yOf Y) (h4 : lk st.t 10 = .agg [.int .i64 k, .int .i64 n, .str s, .slice m cs]) (h5 : lk st.t 11 = .nil) (hb : st.h.bx[0]? = some (ctr cnt))
    (hK : K (({ st with h := ⟨st.h.bx.set 0 (ctr (f cnt 0)), st.h.rw⟩ } : AS).put (some 12) (.bool true))) :
    SOne G0 C (some 12) (.call ⟨.value (.tmp 9), #[.tmp 10, .tmp 11], #[25, 40]⟩) Q K st := fun o h1 h2 => by
  obtain ⟨q, hq⟩ := hY.fn
  obtain ⟨a1, a2, a3⟩ := hF _ _ hq
  refine SOp.callF (f := Y) (ys := [.agg [.int .i64 k, .int .i64 n, .str s, .slice m cs], .nil, .ptr 0 0]) (xs := [.agg [.int .i64 k, .int .i64 n, .str s, .slice m cs], .nil, .ptr 0 0]) (fun i => i) [ctr cnt] h2 ?_ a1 a2 a3 rfl ?_ ?_ rfl ?_ ?_ (hY.nil k n s m cs cnt) ?_
  · simp only [target, AS.ev, h3, yOf, List.map_cons, List.map_nil, h4, h5, List.cons_append, List.nil_append]
  · intro j y x hy hx
    match j with
    | 0 => simp at hy hx; subst hy; subst hx; exact .pure rfl
    | 1 => simp at hy hx; subst hy; subst hx; exact .pure rfl
    | 2 => simp at hy hx; subst hy; subst hx; exact .ptr (by simp)
    | j + 3 => simp at hy
  · intro i b hi
    match i with
    | 0 => simp at hi; subst hi; exact hb
    | i + 1 => simp at hi
  · intro i j hi hj h; exact h
  · rw [h1, hnt]; rfl
  · rintro o' b ⟨rfl, rfl⟩
    refine ⟨_, _, rfl, rfl, rfl, List.length_set .., fun i hi => ?_, fun j hj => ?_, by rw [h1]; exact hK⟩
    · have : i = 0 := by simp at hi; exact hi
      subst this
      rw [List.getElem?_set_self (List.getElem?_eq_some_iff.1 hb).1]
      rfl
    · rw [List.getElem?_set_ne (hj 0 (by simp))]
def EachAt (Y : Nat) (f : Int → Nat → Int) (N : Nat) : Prop := ∀ d : Dat, d.size < N → d.ok → ∀ (cnt : Int) (n m : Nat), n ≤ m → n + deepN d ≤ 17592186044415 → PCalls G0 82 [.agg d.cells, .bsl 1 n m, yOf Y] [ctr cnt, scr m] (fun o b => o = .ret (.bool true) ∧ b = [ctr (eachF f d cnt n), scr m])
theorem each_call {N : Nat} (hN : EachAt Y f N) (d : Dat) (hd : d.size < N) (hok : d.ok) (cnt : Int) (q n m : Nat) (hq : q ≠ 0) (hnm : n ≤ m) (hdeep : n + deepN d ≤ 17592186044415) {C : Ctx} {Q : AEx → AS → Prop} {K : AS → Prop} (hnt : C.nt = 31) (st : AS) (h3 : lk st.t 22 = .agg d.cells) (h4 : lk st.t 26 = .bsl q n m) (h5 : lk st.t 27 = yOf Y) (hb : st.h.bx[0]? = some (ctr cnt)) (hb1 : st.h.bx[q]? = some (scr m))
    (hK : K (({ st with h := ⟨st.h.bx.set 0 (ctr (eachF f d cnt n)), st.h.rw⟩ } : AS).put (some 28) (.bool true))) :
    SOne G0 C (some 28) (.call ⟨.value (.func 82), #[.tmp 22, .tmp 26, .tmp 27], #[25, 40, 116]⟩) Q K st := fun o h1 h2 => by
  obtain ⟨a1, a2, a3⟩ := hF 82 _ rfl
  refine SOp.callF (f := 82) (ys := [.agg d.cells, .bsl q n m, yOf Y]) (xs := [.agg d.cells, .bsl 1 n m, yOf Y]) (fun i => match i with | 0 => 0 | _ => q) [ctr cnt, scr m] h2 ?_ a1 a2 a3 rfl ?_ ?_ ?_ ?_ ?_ (hN d hd hok cnt n m hnm hdeep) ?_
  · simp only [target, AS.ev, h3, yOf, List.map_cons, List.map_nil, h4, h5, List.cons_append, List.nil_append, List.append_nil]
  · intro j y x hy hx
    match j with
    | 0 => simp at hy hx; subst hy; subst hx; exact .pure (by simp only [PV.pure, Dat.pure])
    | 1 => simp at hy hx; subst hy; subst hx; exact .bsl (pos := fun i => match i with | 0 => 0 | _ => q) (b := 1) (by simp)
    | 2 =>
      simp [yOf] at hy hx; subst hy; subst hx
      refine .func rfl fun j y x hy hx => ?_
      match j with
      | 0 => simp at hy hx; subst hy; subst hx; exact .ptr (pos := fun i => match i with | 0 => 0 | _ => q) (b := 0) (by simp)
      | j + 1 => simp at hy
    | j + 3 => simp at hy
  · intro i b hi
    match i with
    | 0 => simp at hi; subst hi; exact hb
    | 1 => simp at hi; subst hi; exact hb1
    | i + 2 => simp at hi
  · simp only [List.all_cons, List.all_nil, scr, ctr, scL_rep]; rfl
  · intro i j hi hj h
    match i, j with
    | 0, 0 => rfl
    | 0, 1 => exact absurd h.symm hq
    | 1, 0 => exact absurd h hq
    | 1, 1 => rfl
    | i + 2, _ => exact absurd hi (by simp only [List.length_cons, List.length_nil]; omega)
    | _, j + 2 => exact absurd hj (by simp only [List.length_cons, List.length_nil]; omega)
  · rw [h1, hnt]; rfl
  · rintro o' b ⟨rfl, rfl⟩
    refine ⟨_, _, rfl, rfl, by simp only [List.take, List.length_cons, List.length_nil, List.all_cons, List.all_nil, scr, ctr, scL_rep]; rfl, List.length_set .., fun i hi => ?_, fun j hj => ?_, by rw [h1]; exact hK⟩
    · match i with
      | 0 => exact (List.getElem?_set_self (List.getElem?_eq_some_iff.1 hb).1).trans rfl
      | 1 => exact (List.getElem?_set_ne (Ne.symm hq)).trans hb1
      | i + 2 => exact absurd hi (by simp only [List.length_cons, List.length_nil]; omega)
    · have := hj 0 (by simp)
      exact List.getElem?_set_ne this
end
end Seat
end Go.Proofs.YtenpjkcclmmlhaaDoor
/- datum.each, of a path that is a box's: the walk. -/
namespace Go.Proofs.YtenpjkcclmmlhaaDoor
open Go.AS
set_option linter.unusedVariables false
set_option linter.unusedSimpArgs false
set_option maxRecDepth 100000
namespace Seat
def eachO (b : Bool) (nt k : Nat) : Option Bool := match Nat.beq nt 31 with
  | true => match k with
    | 18 => some b
    | 20 => some true
    | 21 => some true
    | _ => none
  | false => none
def eachV (v : PV) (nt k : Nat) : Option PV := match Nat.beq nt 31 with
  | true => match k with
    | 21 => some v
    | _ => none
  | false => none
theorem eachAt {Y : Nat} {f : Int → Nat → Int} (hY : Yok Y f) (N : Nat) : EachAt Y f N := by
  induction N with
  | zero => intro d h; omega
  | succ N ih =>
    intro d hN hok cnt n m hnm hdeep
    obtain ⟨dk, dn, ds, ks⟩ := d
    let D : Box := ⟨[.int .i64 dk, .int .i64 dn, .str ds, .slice ks.len ks.cells], 25⟩
    let S (b : Bool) (v : PV) : Cfg G0 := { F := F, hF := hF, S := fun _ _ => none, hS := fun _ _ _ _ h => (by cases h), orc := eachO b, val := eachV v }
    refine Fn.enterB Tryd.func82 Tryd.ntmps82 rfl (Nat.le_of_ble_eq_true rfl) fun C fr fp hnt hnb hp hfr hfp => ?_
    refine Q.runSeq S0 50 31 hnt [1, 2, 3] (z := ⟨[(1, .bsl 1 n m), (2, yOf Y), (3, .ptr 2 0)], ⟨[ctr cnt, scr m, D], []⟩⟩) (o := []) (by kernel_rfl) (fun p h => by cases h) ?_
    refine Q.seq fun K hK => ?_
    refine Q.seq fun K2 hK2 => ?_
    (with_reducible refine Q.region (l := ?_) ?_ ?_); rotate_left; focus (simp only [strip, SO.of, List.toList_toArray, List.getElem?_cons_zero, List.getElem?_cons_succ, Option.bind_some]; rfl)
    refine SRun.step _ (by simp only [push_cast, hnt, Nat.reduceEqDiff, reduceIte, Nat.reduceAdd, Nat.reduceSub, Nat.reduceMul, Nat.reduceLeDiff, Nat.reduceLT, Nat.reduceBEq, Nat.reduceBNe, decide_true, decide_false, Nat.le_refl, Bool.not_true, Bool.not_false, Bool.false_eq_true, reduceCtorEq, Bool.true_and, Bool.and_true, ge_iff_le, Nat.lt_irrefl, Nat.zero_le]; rfl) ?_
    refine SRun.step _ (by simp only [push_cast, hnt, Nat.reduceEqDiff, reduceIte, Nat.reduceAdd, Nat.reduceSub, Nat.reduceMul, Nat.reduceLeDiff, Nat.reduceLT, Nat.reduceBEq, Nat.reduceBNe, decide_true, decide_false, Nat.le_refl, Bool.not_true, Bool.not_false, Bool.false_eq_true, reduceCtorEq, Bool.true_and, Bool.and_true, ge_iff_le, Nat.lt_irrefl, Nat.zero_le]; rfl) ?_
    refine SRun.step _ (by simp only [push_cast, hnt, Nat.reduceEqDiff, reduceIte, Nat.reduceAdd, Nat.reduceSub, Nat.reduceMul, Nat.reduceLeDiff, Nat.reduceLT, Nat.reduceBEq, Nat.reduceBNe, decide_true, decide_false, Nat.le_refl, Bool.not_true, Bool.not_false, Bool.false_eq_true, reduceCtorEq, Bool.true_and, Bool.and_true, ge_iff_le, Nat.lt_irrefl, Nat.zero_le]; rfl) ?_
    refine SRun.cons (yield_scr hY dk dn ds ks.len ks.cells cnt n m hnm hnt _ rfl rfl rfl rfl rfl ?_)
    refine SRun.step _ (by simp only [push_cast, hnt, Nat.reduceEqDiff, reduceIte, Nat.reduceAdd, Nat.reduceSub, Nat.reduceMul, Nat.reduceLeDiff, Nat.reduceLT, Nat.reduceBEq, Nat.reduceBNe, decide_true, decide_false, Nat.le_refl, Bool.not_true, Bool.not_false, Bool.false_eq_true, reduceCtorEq, Bool.true_and, Bool.and_true, ge_iff_le, Nat.lt_irrefl, Nat.zero_le]; rfl) ?_
    refine Q.nil (hK2 _ ?_)
    refine Q.cond (b := false) rfl (fun h => by cases h) (fun _ => ?_)
    refine Q.skip (hK _ (.norm [1, 2, 3] ?_))
    have e1 : ∀ (a : Int) t, nrm [1, 2, 3] ⟨t, ⟨[ctr cnt, scr m, D].set 0 (ctr a), []⟩⟩ = nrm [1, 2, 3] ⟨t, ⟨[ctr a, scr m, D], []⟩⟩ := fun _ _ => rfl
    refine Q.seq fun K3 hK3 => ?_
    refine Q.runSeq S0 50 31 hnt [1, 2, 3, 15, 16, 17] (z := ⟨[(1, .bsl 1 n m), (2, yOf Y), (3, .ptr 2 0), (15, .slice ks.len ks.cells), (16, .int .i64 ks.len), (17, .int .i64 0)], ⟨[ctr (f cnt n), scr m, D], []⟩⟩) (o := []) (by kernel_rfl) (fun p h => by cases h) ?_
    refine Q.block ?_
    let T (j : Nat) : AS := ⟨[(1, .bsl 1 n m), (2, yOf Y), (3, .ptr 2 0), (15, .slice ks.len ks.cells), (16, .int .i64 ks.len), (17, .int .i64 j)], ⟨[ctr (eachP f ks (f cnt n) (n + 1) j), scr m, D], []⟩⟩
    refine Q.loopI (σ := { j : Nat // j ≤ ks.len }) [1, 2, 3, 15, 16, 17] (fun j => T j.1) (fun j => ks.len - j.1) ⟨0, Nat.zero_le _⟩ rfl fun ⟨j, hj⟩ => ?_
    rcases Nat.lt_or_ge j ks.len with hlt | hge
    · refine Q.runSeq (S true .nil) 50 31 hnt [1, 2, 3, 15, 16, 17, 18] (z := ⟨(T j).t ++ [(18, .bool true)], (T j).h⟩) (o := [(decide ((j : Int) < (ks.len : Int)), true)]) (by kernel_rfl) (fun p hm => ?_) ?_
      · simp only [List.mem_cons, List.not_mem_nil, or_false] at hm
        subst hm
        simpa using hlt
      refine Q.runSeq S0 50 31 hnt [1, 2, 3, 15, 16, 17] (z := T j) (o := []) (by kernel_rfl) (fun p h => by cases h) ?_
      refine Q.seq fun K4 hK4 => ?_
      refine Q.block ?_
      obtain ⟨k', n', s', ks', hget⟩ : ∃ k' n' s' ks', ks.get j = .mk k' n' s' ks' := by cases h : ks.get j with | mk k n s ks => exact ⟨k, n, s, ks, rfl⟩
      let Kb : Box := ⟨[.int .i64 k', .int .i64 n', .str s', .slice ks'.len ks'.cells], 25⟩
      refine Q.runSeq (S true (.agg Kb.cs)) 50 31 hnt [1, 2, 3, 7, 8, 15, 16, 17] (z := ⟨[(1, .bsl 1 n m), (2, yOf Y), (3, .ptr 2 0), (7, .int .i64 j), (8, .ptr 3 0), (15, .slice ks.len ks.cells), (16, .int .i64 ks.len), (17, .int .i64 j)], ⟨[ctr (eachP f ks (f cnt n) (n + 1) j), scr m, D, Kb], []⟩⟩)
        (o := [(decide (0 ≤ (j : Int) ∧ (j : Int) < (ks.len : Int)), true), (decide (4 ≤ (ks.cells.drop ((j : Int).toNat * 4)).length), true), (same (.agg ((ks.cells.drop ((j : Int).toNat * 4)).take 4)) (.agg Kb.cs), true)]) (by kernel_rfl) (fun p hm => ?_) ?_
      · simp only [List.mem_cons, List.not_mem_nil, or_false, Int.toNat_natCast, Dats.get_cells ks j hlt] at hm
        rcases hm with rfl | rfl | rfl
        · simpa using hlt
        · simp only [List.length_drop, Dats.cells_len, decide_eq_true_eq]; omega
        · exact same_of (by rw [hget]; rfl)
      refine Q.seq fun K6 hK6 => ?_
      have hsz : (ks.get j).size < N := by have := Dats.get_size ks j hlt; simp only [Dat.size] at hN; omega
      have hokj : (ks.get j).ok := Dats.get_ok ks j hlt hok.2
      have hdp : n + 1 + deepN (ks.get j) ≤ 17592186044415 := by have := deepN_get ks j hlt; simp only [deepN] at hdeep; omega
      have hcs : (ks.get j).cells = Kb.cs := by rw [hget]; rfl
      have fin6 : ∀ (s : AS) (more : List Box), nrm [1, 2, 3, 15, 16, 17, 29] s = ⟨(T j).t ++ [(29, .bool false)], ⟨ctr (eachP f ks (f cnt n) (n + 1) (j + 1)) :: scr m :: D :: more, []⟩⟩ → K6 s := fun s more hs => by
        refine hK6 s (.norm [1, 2, 3, 15, 16, 17, 29] ?_)
        rw [hs]
        refine .drop 3 (by rw [hnb]; exact Nat.le_of_ble_eq_true rfl) (by simp) (by simp only [Seat.scr, ctr, List.take, List.all_cons, List.all_nil, scL_rep]; rfl) rfl rfl ?_
        refine SWP.runQ S0 50 31 hnt [1, 2, 3, 15, 16, 17] (e := .normal) (z := ⟨(T j).t, ⟨[ctr (eachP f ks (f cnt n) (n + 1) (j + 1)), scr m, D], []⟩⟩) (o := []) (by kernel_rfl) (fun p h => by cases h) (fun s hs => hK4 s (.norm [1, 2, 3, 15, 16, 17] ?_))
        rw [hs]
        refine SWP.runQ S0 50 31 hnt [1, 2, 3, 15, 16, 17] (e := .normal) (z := ⟨[(1, .bsl 1 n m), (2, yOf Y), (3, .ptr 2 0), (15, .slice ks.len ks.cells), (16, .int .i64 ks.len), (17, .int .i64 (IntKind.i64.wrap ((j : Int) + 1)))], ⟨[ctr (eachP f ks (f cnt n) (n + 1) (j + 1)), scr m, D], []⟩⟩) (o := []) (by kernel_rfl) (fun p h => by cases h) (fun s hs => ⟨⟨j + 1, hlt⟩, Nat.sub_lt_sub_left hlt (Nat.lt_succ_self j), ?_⟩)
        rw [hs]
        have := hok.1
        have e := wrapN (j + 1) (by omega)
        push_cast at e
        rw [e]
        rfl
      refine SWP.draw [4, 6] #[false, false, false, false, false, false, false, false] rfl ?_
      refine SAny.with 2 #[true, true, true, true, true, true, false, false] (fun s => ∃ (q c : Nat) (more : List Box), q ≠ 0 ∧ n + 1 ≤ c ∧ (scr m :: D :: Kb :: more)[q - 1]? = some (scr c) ∧ nrm [1, 2, 3, 15, 16, 17, 22, 26, 27] s = ⟨(T j).t ++ [(22, .agg Kb.cs), (26, .bsl q (n + 1) c), (27, yOf Y)], ⟨ctr (eachP f ks (f cnt n) (n + 1) j) :: scr m :: D :: Kb :: more, []⟩⟩) ?_ ?_
      · rintro s ⟨q, c, more, hq, hc, hbq, hs⟩
        refine SAny.norm [1, 2, 3, 15, 16, 17, 22, 26, 27] ?_
        rw [hs]
        refine SAny.last (i := 6) #[true, true, true, true, true, true, true, false] rfl rfl (by kernel_rfl) rfl ?_
        refine each_call ih (ks.get j) hsz hokj (eachP f ks (f cnt n) (n + 1) j) q (n + 1) c hq hc hdp hnt _ ?_ rfl rfl rfl ?_ ?_ _ rfl rfl
        · rw [hcs]; rfl
        · cases q with
          | zero => exact absurd rfl hq
          | succ q => simpa using hbq
        refine SAny.one (i := 7) #[true, true, true, true, true, true, true, true] rfl rfl (by kernel_rfl) ?_
        refine SOpG.val (x := .bool false) rfl (by rw [hnt]; rfl) ?_
        exact SAny.done (by kernel_rfl) (fin6 _ (Kb :: more) rfl)
      intro tail
      refine SAny.free (i := 1) (l' := #[false, true, false, false, false, false, false, false]) (x := .bsl 1 n m) rfl rfl rfl (by rw [hnt]; rfl) (by kernel_rfl) hp.q ?_
      refine SAny.free (i := 2) (l' := #[false, true, true, false, false, false, false, false]) (x := .int .i64 j) rfl rfl rfl (by rw [hnt]; rfl) (by kernel_rfl) hp.q ?_
      refine SAny.free (i := 5) (l' := #[false, true, true, false, false, true, false, false]) (x := yOf Y) rfl rfl rfl (by rw [hnt]; rfl) (by kernel_rfl) hp.q ?_
      have app : ∀ (Q : AEx → AS → Prop) (K : AS → Prop) (s : AS) (o : Oper), o.op = .call ⟨.builtin .append, #[.tmp 23, .tmp 25], #[40, 40]⟩ → o.dst = some 26 → lk s.t 23 = .bsl 1 n m → lk s.t 25 = .slice 1 [.int .i64 j] → s.h = ⟨[ctr (eachP f ks (f cnt n) (n + 1) j), scr m, D, Kb], []⟩ →
          (∀ (q c : Nat) (more : List Box), q ≠ 0 → n + 1 ≤ c → (scr m :: D :: Kb :: more)[q - 1]? = some (scr c) → K (({ s with h := ⟨ctr (eachP f ks (f cnt n) (n + 1) j) :: scr m :: D :: Kb :: more, []⟩ } : AS).put (some 26) (.bsl q (n + 1) c))) → SOp G0 C o Q K s := fun Q K s o ho hd h23 h25 hh h => by
        have hdo : dstOk C.nt o.dst = true := by rw [hd, hnt]; rfl
        rcases Nat.lt_or_ge m (n + 1) with hm | hm
        · refine SOp.scrGrow (b := 1) (n := n) (m := m) (k := 1) (cs := [.int .i64 j]) (e := 3) (td := d3) (tdt := d40) ho h23 h25 (by rw [hh]; rfl) rfl rfl rfl rfl rfl rfl (by omega) hm ?_ (by omega) hdo fun c hc => ?_
          · show (n + 1) * 8 ≤ _
            omega
          · rw [hd, hh]
            exact h 4 c [scr c] (by omega) hc rfl
        · refine SOp.scrRoom (b := 1) (n := n) (m := m) (k := 1) (cs := [.int .i64 j]) (e := 3) (td := d3) (tdt := d40) ho h23 h25 (by rw [hh]; rfl) rfl rfl rfl rfl rfl (by omega) hm hdo ?_
          rw [hd]
          have := h 1 m [] (by omega) hm rfl
          rw [← hh] at this
          exact this
      refine SAny.two (i := 0) (j := 3) #[true, true, true, false, false, true, false, false] #[false, true, true, true, false, true, false, false] rfl rfl rfl rfl (by kernel_rfl) ?_ ?_
      · refine SOpG.val (x := .agg Kb.cs) rfl (by rw [hnt]; rfl) ?_
        refine SAny.one (i := 3) #[true, true, true, true, false, true, false, false] rfl rfl (by kernel_rfl) ?_
        refine SOpG.buildSlice (e := 3) (td := d3) (tdt := d40) (out := [.int .i64 j]) rfl rfl rfl rfl rfl (by decide) rfl rfl (by rw [hnt]; rfl) ?_
        refine SAny.last (i := 4) #[true, true, true, true, true, true, false, false] rfl rfl (by kernel_rfl) rfl ?_
        refine app _ _ _ _ rfl rfl rfl rfl rfl fun q c more hq hc hb => ?_
        exact tail _ ⟨q, c, more, hq, hc, hb, rfl⟩
      · refine SOpG.buildSlice (e := 3) (td := d3) (tdt := d40) (out := [.int .i64 j]) rfl rfl rfl rfl rfl (by decide) rfl rfl (by rw [hnt]; rfl) ?_
        refine SAny.twoL (i := 0) (j := 4) #[true, true, true, true, false, true, false, false] #[false, true, true, true, true, true, false, false] rfl rfl rfl rfl (by kernel_rfl) rfl ?_ ?_
        · refine SOpG.val (x := .agg Kb.cs) rfl (by rw [hnt]; rfl) ?_
          refine SAny.last (i := 4) #[true, true, true, true, true, true, false, false] rfl rfl (by kernel_rfl) rfl ?_
          refine app _ _ _ _ rfl rfl rfl rfl rfl fun q c more hq hc hb => ?_
          exact tail _ ⟨q, c, more, hq, hc, hb, rfl⟩
        · refine app _ _ _ _ rfl rfl rfl rfl rfl fun q c more hq hc hb => ?_
          refine SAny.one (i := 0) #[true, true, true, true, true, true, false, false] rfl rfl (by kernel_rfl) ?_
          refine SOpG.val (x := .agg Kb.cs) rfl (by rw [hnt]; rfl) ?_
          exact tail _ ⟨q, c, more, hq, hc, hb, rfl⟩
    · have hje : j = ks.len := by omega
      subst hje
      refine SWP.runQ (S false .nil) 60 31 hnt [1, 2, 3, 15, 16, 17] (e := .exit 0) (z := T ks.len) (o := [(decide ((ks.len : Int) < (ks.len : Int)), false), (false, false)]) (by kernel_rfl) ?_ ?_
      · intro p hm
        simp only [List.mem_cons, List.not_mem_nil, or_false] at hm
        rcases hm with rfl | rfl
        · simp
        · rfl
      · intro s' hs
        refine hK3 s' (.norm [1, 2, 3, 15, 16, 17] ?_)
        rw [hs]
        refine SWP.runQ S0 50 31 hnt [6] (e := .ret) (z := ⟨[(6, .bool true)], ⟨[ctr (eachP f ks (f cnt n) (n + 1) ks.len), scr m, D], []⟩⟩) (o := []) (by kernel_rfl) (fun p h => by cases h) (fun s hs => hfr s [6] ?_)
        rw [hs]
        refine ⟨2, .bool true, Nat.le_of_ble_eq_true rfl, Nat.le_of_ble_eq_true rfl, rfl, rfl, by simp only [Seat.scr, ctr, List.take, List.all_cons, List.all_nil, scL_rep]; rfl, rfl, ?_⟩
        rw [eachP_len]
        rfl
end Seat
end Go.Proofs.YtenpjkcclmmlhaaDoor
/- datum.each, of no path: the walk. -/
namespace Go.Proofs.YtenpjkcclmmlhaaDoor
open Go.AS
set_option linter.unusedVariables false
set_option linter.unusedSimpArgs false
set_option maxRecDepth 100000
namespace Seat
theorem each_nil {Y : Nat} {f : Int → Nat → Int} (hY : Yok Y f) (d : Dat) (hok : d.ok) (cnt : Int) (hdeep : deepN d ≤ 17592186044415) : PCalls G0 82 [.agg d.cells, .nil, yOf Y] [ctr cnt] (fun o b => o = .ret (.bool true) ∧ b = [ctr (eachF f d cnt 0)]) := by
  have ih := eachAt hY
  have hZ : True := trivial
  ·
    obtain ⟨dk, dn, ds, ks⟩ := d
    let D : Box := ⟨[.int .i64 dk, .int .i64 dn, .str ds, .slice ks.len ks.cells], 25⟩
    let S (b : Bool) (v : PV) : Cfg G0 := { F := F, hF := hF, S := fun _ _ => none, hS := fun _ _ _ _ h => (by cases h), orc := eachO b, val := eachV v }
    refine Fn.enterB Tryd.func82 Tryd.ntmps82 rfl (Nat.le_of_ble_eq_true rfl) fun C fr fp hnt hnb hp hfr hfp => ?_
    refine Q.runSeq S0 50 31 hnt [1, 2, 3] (z := ⟨[(1, .nil), (2, yOf Y), (3, .ptr 1 0)], ⟨[ctr cnt, D], []⟩⟩) (o := []) (by kernel_rfl) (fun p h => by cases h) ?_
    refine Q.seq fun K hK => ?_
    refine Q.seq fun K2 hK2 => ?_
    (with_reducible refine Q.region (l := ?_) ?_ ?_); rotate_left; focus (simp only [strip, SO.of, List.toList_toArray, List.getElem?_cons_zero, List.getElem?_cons_succ, Option.bind_some]; rfl)
    refine SRun.step _ (by simp only [push_cast, hnt, Nat.reduceEqDiff, reduceIte, Nat.reduceAdd, Nat.reduceSub, Nat.reduceMul, Nat.reduceLeDiff, Nat.reduceLT, Nat.reduceBEq, Nat.reduceBNe, decide_true, decide_false, Nat.le_refl, Bool.not_true, Bool.not_false, Bool.false_eq_true, reduceCtorEq, Bool.true_and, Bool.and_true, ge_iff_le, Nat.lt_irrefl, Nat.zero_le]; rfl) ?_
    refine SRun.step _ (by simp only [push_cast, hnt, Nat.reduceEqDiff, reduceIte, Nat.reduceAdd, Nat.reduceSub, Nat.reduceMul, Nat.reduceLeDiff, Nat.reduceLT, Nat.reduceBEq, Nat.reduceBNe, decide_true, decide_false, Nat.le_refl, Bool.not_true, Bool.not_false, Bool.false_eq_true, reduceCtorEq, Bool.true_and, Bool.and_true, ge_iff_le, Nat.lt_irrefl, Nat.zero_le]; rfl) ?_
    refine SRun.step _ (by simp only [push_cast, hnt, Nat.reduceEqDiff, reduceIte, Nat.reduceAdd, Nat.reduceSub, Nat.reduceMul, Nat.reduceLeDiff, Nat.reduceLT, Nat.reduceBEq, Nat.reduceBNe, decide_true, decide_false, Nat.le_refl, Bool.not_true, Bool.not_false, Bool.false_eq_true, reduceCtorEq, Bool.true_and, Bool.and_true, ge_iff_le, Nat.lt_irrefl, Nat.zero_le]; rfl) ?_
    refine SRun.cons (yield_nil hY dk dn ds ks.len ks.cells cnt hnt _ rfl rfl rfl rfl ?_)
    refine SRun.step _ (by simp only [push_cast, hnt, Nat.reduceEqDiff, reduceIte, Nat.reduceAdd, Nat.reduceSub, Nat.reduceMul, Nat.reduceLeDiff, Nat.reduceLT, Nat.reduceBEq, Nat.reduceBNe, decide_true, decide_false, Nat.le_refl, Bool.not_true, Bool.not_false, Bool.false_eq_true, reduceCtorEq, Bool.true_and, Bool.and_true, ge_iff_le, Nat.lt_irrefl, Nat.zero_le]; rfl) ?_
    refine Q.nil (hK2 _ ?_)
    refine Q.cond (b := false) rfl (fun h => by cases h) (fun _ => ?_)
    refine Q.skip (hK _ (.norm [1, 2, 3] ?_))
    have e1 : ∀ (a : Int) t, nrm [1, 2, 3] ⟨t, ⟨[ctr cnt, D].set 0 (ctr a), []⟩⟩ = nrm [1, 2, 3] ⟨t, ⟨[ctr a, D], []⟩⟩ := fun _ _ => rfl
    refine Q.seq fun K3 hK3 => ?_
    refine Q.runSeq S0 50 31 hnt [1, 2, 3, 15, 16, 17] (z := ⟨[(1, .nil), (2, yOf Y), (3, .ptr 1 0), (15, .slice ks.len ks.cells), (16, .int .i64 ks.len), (17, .int .i64 0)], ⟨[ctr (f cnt 0), D], []⟩⟩) (o := []) (by kernel_rfl) (fun p h => by cases h) ?_
    refine Q.block ?_
    let T (j : Nat) : AS := ⟨[(1, .nil), (2, yOf Y), (3, .ptr 1 0), (15, .slice ks.len ks.cells), (16, .int .i64 ks.len), (17, .int .i64 j)], ⟨[ctr (eachP f ks (f cnt 0) (0 + 1) j), D], []⟩⟩
    refine Q.loopI (σ := { j : Nat // j ≤ ks.len }) [1, 2, 3, 15, 16, 17] (fun j => T j.1) (fun j => ks.len - j.1) ⟨0, Nat.zero_le _⟩ rfl fun ⟨j, hj⟩ => ?_
    rcases Nat.lt_or_ge j ks.len with hlt | hge
    · refine Q.runSeq (S true .nil) 50 31 hnt [1, 2, 3, 15, 16, 17, 18] (z := ⟨(T j).t ++ [(18, .bool true)], (T j).h⟩) (o := [(decide ((j : Int) < (ks.len : Int)), true)]) (by kernel_rfl) (fun p hm => ?_) ?_
      · simp only [List.mem_cons, List.not_mem_nil, or_false] at hm
        subst hm
        simpa using hlt
      refine Q.runSeq S0 50 31 hnt [1, 2, 3, 15, 16, 17] (z := T j) (o := []) (by kernel_rfl) (fun p h => by cases h) ?_
      refine Q.seq fun K4 hK4 => ?_
      refine Q.block ?_
      obtain ⟨k', n', s', ks', hget⟩ : ∃ k' n' s' ks', ks.get j = .mk k' n' s' ks' := by cases h : ks.get j with | mk k n s ks => exact ⟨k, n, s, ks, rfl⟩
      let Kb : Box := ⟨[.int .i64 k', .int .i64 n', .str s', .slice ks'.len ks'.cells], 25⟩
      refine Q.runSeq (S true (.agg Kb.cs)) 50 31 hnt [1, 2, 3, 7, 8, 15, 16, 17] (z := ⟨[(1, .nil), (2, yOf Y), (3, .ptr 1 0), (7, .int .i64 j), (8, .ptr 2 0), (15, .slice ks.len ks.cells), (16, .int .i64 ks.len), (17, .int .i64 j)], ⟨[ctr (eachP f ks (f cnt 0) (0 + 1) j), D, Kb], []⟩⟩)
        (o := [(decide (0 ≤ (j : Int) ∧ (j : Int) < (ks.len : Int)), true), (decide (4 ≤ (ks.cells.drop ((j : Int).toNat * 4)).length), true), (same (.agg ((ks.cells.drop ((j : Int).toNat * 4)).take 4)) (.agg Kb.cs), true)]) (by kernel_rfl) (fun p hm => ?_) ?_
      · simp only [List.mem_cons, List.not_mem_nil, or_false, Int.toNat_natCast, Dats.get_cells ks j hlt] at hm
        rcases hm with rfl | rfl | rfl
        · simpa using hlt
        · simp only [List.length_drop, Dats.cells_len, decide_eq_true_eq]; omega
        · exact same_of (by rw [hget]; rfl)
      refine Q.seq fun K6 hK6 => ?_
      have hsz : (ks.get j).size < (ks.get j).size + 1 := Nat.lt_succ_self _
      have hokj : (ks.get j).ok := Dats.get_ok ks j hlt hok.2
      have hdp : 0 + 1 + deepN (ks.get j) ≤ 17592186044415 := by have := deepN_get ks j hlt; simp only [deepN] at hdeep; omega
      have hcs : (ks.get j).cells = Kb.cs := by rw [hget]; rfl
      have fin6 : ∀ (s : AS) (more : List Box), nrm [1, 2, 3, 15, 16, 17, 29] s = ⟨(T j).t ++ [(29, .bool false)], ⟨ctr (eachP f ks (f cnt 0) (0 + 1) (j + 1)) :: D :: more, []⟩⟩ → K6 s := fun s more hs => by
        refine hK6 s (.norm [1, 2, 3, 15, 16, 17, 29] ?_)
        rw [hs]
        refine .drop 2 (by rw [hnb]; exact Nat.le_of_ble_eq_true rfl) (by simp) (by simp only [Seat.scr, ctr, List.take, List.all_cons, List.all_nil, scL_rep]; rfl) rfl rfl ?_
        refine SWP.runQ S0 50 31 hnt [1, 2, 3, 15, 16, 17] (e := .normal) (z := ⟨(T j).t, ⟨[ctr (eachP f ks (f cnt 0) (0 + 1) (j + 1)), D], []⟩⟩) (o := []) (by kernel_rfl) (fun p h => by cases h) (fun s hs => hK4 s (.norm [1, 2, 3, 15, 16, 17] ?_))
        rw [hs]
        refine SWP.runQ S0 50 31 hnt [1, 2, 3, 15, 16, 17] (e := .normal) (z := ⟨[(1, .nil), (2, yOf Y), (3, .ptr 1 0), (15, .slice ks.len ks.cells), (16, .int .i64 ks.len), (17, .int .i64 (IntKind.i64.wrap ((j : Int) + 1)))], ⟨[ctr (eachP f ks (f cnt 0) (0 + 1) (j + 1)), D], []⟩⟩) (o := []) (by kernel_rfl) (fun p h => by cases h) (fun s hs => ⟨⟨j + 1, hlt⟩, Nat.sub_lt_sub_left hlt (Nat.lt_succ_self j), ?_⟩)
        rw [hs]
        have := hok.1
        have e := wrapN (j + 1) (by omega)
        push_cast at e
        rw [e]
        rfl
      refine SWP.draw [4, 6] #[false, false, false, false, false, false, false, false] rfl ?_
      refine SAny.with 2 #[true, true, true, true, true, true, false, false] (fun s => ∃ (q c : Nat) (more : List Box), q ≠ 0 ∧ 0 + 1 ≤ c ∧ (D :: Kb :: more)[q - 1]? = some (scr c) ∧ nrm [1, 2, 3, 15, 16, 17, 22, 26, 27] s = ⟨(T j).t ++ [(22, .agg Kb.cs), (26, .bsl q (0 + 1) c), (27, yOf Y)], ⟨ctr (eachP f ks (f cnt 0) (0 + 1) j) :: D :: Kb :: more, []⟩⟩) ?_ ?_
      · rintro s ⟨q, c, more, hq, hc, hbq, hs⟩
        refine SAny.norm [1, 2, 3, 15, 16, 17, 22, 26, 27] ?_
        rw [hs]
        refine SAny.last (i := 6) #[true, true, true, true, true, true, true, false] rfl rfl (by kernel_rfl) rfl ?_
        refine each_call (ih ((ks.get j).size + 1)) (ks.get j) hsz hokj (eachP f ks (f cnt 0) (0 + 1) j) q (0 + 1) c hq hc hdp hnt _ ?_ rfl rfl rfl ?_ ?_ _ rfl rfl
        · rw [hcs]; rfl
        · cases q with
          | zero => exact absurd rfl hq
          | succ q => simpa using hbq
        refine SAny.one (i := 7) #[true, true, true, true, true, true, true, true] rfl rfl (by kernel_rfl) ?_
        refine SOpG.val (x := .bool false) rfl (by rw [hnt]; rfl) ?_
        exact SAny.done (by kernel_rfl) (fin6 _ (Kb :: more) rfl)
      intro tail
      refine SAny.free (i := 1) (l' := #[false, true, false, false, false, false, false, false]) (x := .nil) rfl rfl rfl (by rw [hnt]; rfl) (by kernel_rfl) hp.q ?_
      refine SAny.free (i := 2) (l' := #[false, true, true, false, false, false, false, false]) (x := .int .i64 j) rfl rfl rfl (by rw [hnt]; rfl) (by kernel_rfl) hp.q ?_
      refine SAny.free (i := 5) (l' := #[false, true, true, false, false, true, false, false]) (x := yOf Y) rfl rfl rfl (by rw [hnt]; rfl) (by kernel_rfl) hp.q ?_
      have app : ∀ (Q : AEx → AS → Prop) (K : AS → Prop) (s : AS) (o : Oper), o.op = .call ⟨.builtin .append, #[.tmp 23, .tmp 25], #[40, 40]⟩ → o.dst = some 26 → lk s.t 23 = .nil → lk s.t 25 = .slice 1 [.int .i64 j] → s.h = ⟨[ctr (eachP f ks (f cnt 0) (0 + 1) j), D, Kb], []⟩ →
          (∀ (q c : Nat) (more : List Box), q ≠ 0 → 0 + 1 ≤ c → (D :: Kb :: more)[q - 1]? = some (scr c) → K (({ s with h := ⟨ctr (eachP f ks (f cnt 0) (0 + 1) j) :: D :: Kb :: more, []⟩ } : AS).put (some 26) (.bsl q (0 + 1) c))) → SOp G0 C o Q K s := fun Q K s o ho hd h23 h25 hh h => by
        have hdo : dstOk C.nt o.dst = true := by rw [hd, hnt]; rfl
        refine SOp.scrNil (k := 1) (cs := [.int .i64 j]) (e := 3) (td := d3) (tdt := d40) ho h23 h25 rfl rfl rfl rfl rfl rfl (by omega) (by show 1 * 8 ≤ _; omega) (by omega) hdo fun c hc => ?_
        rw [hd, hh]
        exact h 3 c [scr c] (by omega) hc rfl
      refine SAny.two (i := 0) (j := 3) #[true, true, true, false, false, true, false, false] #[false, true, true, true, false, true, false, false] rfl rfl rfl rfl (by kernel_rfl) ?_ ?_
      · refine SOpG.val (x := .agg Kb.cs) rfl (by rw [hnt]; rfl) ?_
        refine SAny.one (i := 3) #[true, true, true, true, false, true, false, false] rfl rfl (by kernel_rfl) ?_
        refine SOpG.buildSlice (e := 3) (td := d3) (tdt := d40) (out := [.int .i64 j]) rfl rfl rfl rfl rfl (by decide) rfl rfl (by rw [hnt]; rfl) ?_
        refine SAny.last (i := 4) #[true, true, true, true, true, true, false, false] rfl rfl (by kernel_rfl) rfl ?_
        refine app _ _ _ _ rfl rfl rfl rfl rfl fun q c more hq hc hb => ?_
        exact tail _ ⟨q, c, more, hq, hc, hb, rfl⟩
      · refine SOpG.buildSlice (e := 3) (td := d3) (tdt := d40) (out := [.int .i64 j]) rfl rfl rfl rfl rfl (by decide) rfl rfl (by rw [hnt]; rfl) ?_
        refine SAny.twoL (i := 0) (j := 4) #[true, true, true, true, false, true, false, false] #[false, true, true, true, true, true, false, false] rfl rfl rfl rfl (by kernel_rfl) rfl ?_ ?_
        · refine SOpG.val (x := .agg Kb.cs) rfl (by rw [hnt]; rfl) ?_
          refine SAny.last (i := 4) #[true, true, true, true, true, true, false, false] rfl rfl (by kernel_rfl) rfl ?_
          refine app _ _ _ _ rfl rfl rfl rfl rfl fun q c more hq hc hb => ?_
          exact tail _ ⟨q, c, more, hq, hc, hb, rfl⟩
        · refine app _ _ _ _ rfl rfl rfl rfl rfl fun q c more hq hc hb => ?_
          refine SAny.one (i := 0) #[true, true, true, true, true, true, false, false] rfl rfl (by kernel_rfl) ?_
          refine SOpG.val (x := .agg Kb.cs) rfl (by rw [hnt]; rfl) ?_
          exact tail _ ⟨q, c, more, hq, hc, hb, rfl⟩
    · have hje : j = ks.len := by omega
      subst hje
      refine SWP.runQ (S false .nil) 60 31 hnt [1, 2, 3, 15, 16, 17] (e := .exit 0) (z := T ks.len) (o := [(decide ((ks.len : Int) < (ks.len : Int)), false), (false, false)]) (by kernel_rfl) ?_ ?_
      · intro p hm
        simp only [List.mem_cons, List.not_mem_nil, or_false] at hm
        rcases hm with rfl | rfl
        · simp
        · rfl
      · intro s' hs
        refine hK3 s' (.norm [1, 2, 3, 15, 16, 17] ?_)
        rw [hs]
        refine SWP.runQ S0 50 31 hnt [6] (e := .ret) (z := ⟨[(6, .bool true)], ⟨[ctr (eachP f ks (f cnt 0) (0 + 1) ks.len), D], []⟩⟩) (o := []) (by kernel_rfl) (fun p h => by cases h) (fun s hs => hfr s [6] ?_)
        rw [hs]
        refine ⟨1, .bool true, Nat.le_of_ble_eq_true rfl, Nat.le_of_ble_eq_true rfl, rfl, rfl, by simp only [Seat.scr, ctr, List.take, List.all_cons, List.all_nil, scL_rep]; rfl, rfl, ?_⟩
        rw [eachP_len]
        rfl
end Seat
end Go.Proofs.YtenpjkcclmmlhaaDoor
/- datum.Parts, datum.Deep. -/
namespace Go.Proofs.YtenpjkcclmmlhaaDoor
open Go.AS
set_option linter.unusedVariables false
set_option linter.unusedSimpArgs false
set_option maxRecDepth 100000
namespace Seat
mutual
theorem eachF_parts : ∀ (d : Dat) (c : Int) (n : Nat), eachF fParts d c n = w64 (c + parts d)
  | .mk k n' s ks, c, n => by
    simp only [eachF, parts, fParts]
    rw [eachL_parts ks]
    congr 1
    push_cast
    omega
theorem eachL_parts : ∀ (ks : Dats) (c : Int) (n : Nat), eachL fParts ks (w64 c) n = w64 (c + partsL ks)
  | .nil, c, n => by simp [eachL, partsL]
  | .cons d ds, c, n => by
    simp only [eachL, partsL]
    rw [eachF_parts d]
    have e : w64 (w64 c + (parts d : Int)) = w64 (c + parts d) := by unfold w64; simp only [IntKind.wrap_i64]; omega
    rw [e, eachL_parts ds]
    congr 1
    push_cast
    omega
end
mutual
theorem eachF_deep : ∀ (d : Dat) (c : Int) (n : Nat), n + deepN d ≤ 17592186044415 → eachF fDeep d c n = max c ((n + deepN d : Nat) : Int)
  | .mk k n' s ks, c, n, h => by
    simp only [deepN] at h
    have e : fDeep c n = max c ((n + 1 : Nat) : Int) := by
      unfold fDeep mxi
      have := wrapN (n + 1) (by omega)
      push_cast at this ⊢
      rw [this]
      split <;> omega
    simp only [eachF, deepN]
    rw [eachL_deep ks _ _ (by omega) (by rw [e]; omega), e]
    omega
theorem eachL_deep : ∀ (ks : Dats) (c : Int) (n : Nat), n + deepNL ks ≤ 17592186044415 → (n : Int) ≤ c → eachL fDeep ks c n = max c ((n + deepNL ks : Nat) : Int)
  | .nil, c, n, h, hc => by simp only [eachL, deepNL]; omega
  | .cons d ds, c, n, h, hc => by
    simp only [deepNL] at h
    simp only [eachL, deepNL]
    rw [eachF_deep d _ _ (by omega), eachL_deep ds _ _ (by omega) (by omega)]
    omega
end
def Good (d : Dat) : Prop := d.ok ∧ deepN d ≤ 17592186044415
open Classical in
noncomputable def isGood (cs : List PV) : Bool := decide (∃ d : Dat, d.cells = cs ∧ Good d)
theorem isGood_at {d : Dat} (h : Good d) : isGood d.cells = true := by
  unfold isGood
  classical exact decide_eq_true ⟨d, rfl, h⟩
theorem isGood_of {cs : List PV} (h : isGood cs = true) : ∃ d : Dat, d.cells = cs ∧ Good d := by
  unfold isGood at h
  classical exact of_decide_eq_true h
noncomputable def eachB (f : Nat) (args : List PV) (x : Box) : Option (PV × Box × Ob) := match f, args, x with
  | 82, [.agg cs, .nil, .func (.func Y) [.ptr 0 0]], ⟨[.int .i64 cnt], 3⟩ => match Y with
      | 83 => some (.bool true, ctr (ofCells (fun d => eachF fParts d cnt 0) 0 cs), [(isGood cs, true)])
      | 84 => some (.bool true, ctr (ofCells (fun d => eachF fDeep d cnt 0) 0 cs), [(isGood cs, true)])
      | _ => none
  | _, _, _ => none
theorem eachB_ok : ∀ f xs x r x' o, eachB f xs x = some (r, x', o) → (∀ p ∈ o, p.1 = p.2) → PCalls G0 f xs [x] (fun o' b' => o' = .ret r ∧ b' = [x']) ∧ r.sc 0 = true ∧ scL 0 x.cs = true ∧ scL 0 x'.cs = true := by
  intro f args x r b o h ho
  unfold eachB at h
  split at h
  · rename_i cs Y cnt
    split at h
    · cases h
      obtain ⟨d, rfl, h1⟩ := isGood_of (ho _ (List.mem_singleton.2 rfl))
      simp only [ofCells_at]
      exact ⟨each_nil yParts d h1.1 cnt h1.2, rfl, rfl, rfl⟩
    · cases h
      obtain ⟨d, rfl, h1⟩ := isGood_of (ho _ (List.mem_singleton.2 rfl))
      simp only [ofCells_at]
      exact ⟨each_nil yDeep d h1.1 cnt h1.2, rfl, rfl, rfl⟩
    · cases h
  · cases h
noncomputable def SE : Cfg G0 := { F := F, hF := hF, S := fun _ _ => none, hS := fun _ _ _ _ h => (by cases h), B := eachB, hB := eachB_ok }
theorem dparts_ok (d : Dat) (hd : Good d) : Pure G0 62 [.agg d.cells] (fun r => r = .int .i64 (w64 (parts d))) := by
  have e : w64 (parts d) = ofCells (fun d => eachF fParts d 0 0) 0 d.cells := by rw [ofCells_at, eachF_parts, Int.zero_add]
  rw [e]
  obtain ⟨k, n, s, ks⟩ := d
  exact Pure.runO (S := SE) 100 (o := [(isGood (Dat.mk k n s ks).cells, true)]) (by kernel_rfl) (fun p hp => by
    rw [List.mem_singleton.1 hp]; exact isGood_at hd)
theorem ddeep_ok (d : Dat) (hd : Good d) : Pure G0 63 [.agg d.cells] (fun r => r = .int .i64 (deepN d)) := by
  have e : (deepN d : Int) = ofCells (fun d => eachF fDeep d 0 0) 0 d.cells := by rw [ofCells_at, eachF_deep _ _ _ (by have := hd.2; omega)]; omega
  rw [e]
  obtain ⟨k, n, s, ks⟩ := d
  exact Pure.runO (S := SE) 100 (o := [(isGood (Dat.mk k n s ks).cells, true)]) (by kernel_rfl) (fun p hp => by
    rw [List.mem_singleton.1 hp]; exact isGood_at hd)
end Seat
end Go.Proofs.YtenpjkcclmmlhaaDoor
/- pagodaref01.Cut: what it comes to. -/
namespace Go.Proofs.YtenpjkcclmmlhaaDoor
open Go.AS
set_option linter.unusedVariables false
set_option linter.unusedSimpArgs false
namespace Seat
def Dats.snoc : Dats → Dat → Dats
  | .nil, e => .cons e .nil
  | .cons d ds, e => .cons d (Dats.snoc ds e)
theorem snoc_cells : ∀ (ds : Dats) (e : Dat), (Dats.snoc ds e).cells = ds.cells ++ e.cells
  | .nil, e => by simp [Dats.snoc, Dats.cells]
  | .cons d ds, e => by simp only [Dats.snoc, Dats.cells, snoc_cells ds e, List.append_assoc]
theorem snoc_len : ∀ (ds : Dats) (e : Dat), (Dats.snoc ds e).len = ds.len + 1
  | .nil, e => rfl
  | .cons d ds, e => by simp only [Dats.snoc, Dats.len, snoc_len ds e]
def cutS (s : ByteArray) : ByteArray := s.extract 0 (min (s.size : Int) 42).toNat
mutual
def cutD : Dat → Int → Int → Dat × Int
  | .mk k n s ks, deep, left =>
    let r := cutL ks deep (left - 1)
    (.mk k n (cutS s) r.1, r.2)
def cutL : Dats → Int → Int → Dats × Int
  | .nil, _, left => (.nil, left)
  | .cons d ds, deep, left => if 1 < deep ∧ 0 < left then
      let r := cutD d (deep - 1) left
      let q := cutL ds deep r.2
      (.cons r.1 q.1, q.2)
    else (.nil, left)
end
def cutN (ks : Dats) (deep left : Int) : Nat → Dats × Int
  | 0 => (.nil, left)
  | j + 1 => (Dats.snoc (cutN ks deep left j).1 (cutD (ks.get j) (deep - 1) (cutN ks deep left j).2).1, (cutD (ks.get j) (deep - 1) (cutN ks deep left j).2).2)
theorem cutN_cons (d : Dat) (ds : Dats) (deep left : Int) (j : Nat) : cutN (.cons d ds) deep left (j + 1) = (.cons (cutD d (deep - 1) left).1 (cutN ds deep (cutD d (deep - 1) left).2 j).1, (cutN ds deep (cutD d (deep - 1) left).2 j).2) := by
  induction j with
  | zero => simp [cutN, Dats.get, Dats.snoc]
  | succ j ih =>
    rw [cutN, ih]
    simp only [cutN, Dats.get, Dats.snoc]
theorem cutN_stop : ∀ (ks : Dats) (deep left : Int) (m : Nat), m ≤ ks.len → (∀ i, i < m → 1 < deep ∧ 0 < (cutN ks deep left i).2) → (m = ks.len ∨ ¬ (1 < deep ∧ 0 < (cutN ks deep left m).2)) → cutL ks deep left = cutN ks deep left m
  | .nil, deep, left, m, hm, hl, hs => by
    simp only [Dats.len] at hm
    obtain rfl : m = 0 := by omega
    rfl
  | .cons d ds, deep, left, 0, hm, hl, hs => by
    rcases hs with h | h
    · simp [Dats.len] at h
    · simp only [cutN] at h
      simp only [cutL, if_neg h, cutN]
  | .cons d ds, deep, left, m + 1, hm, hl, hs => by
    have h0 := hl 0 (by omega)
    simp only [cutN] at h0
    have ih := cutN_stop ds deep (cutD d (deep - 1) left).2 m (by simp only [Dats.len] at hm; omega) (fun i hi => by have := hl (i + 1) (by omega); rw [cutN_cons] at this; exact this) (by
      rcases hs with h | h
      · left; simp only [Dats.len] at h; omega
      · right; rw [cutN_cons] at h; exact h)
    rw [cutN_cons]
    simp only [cutL, if_pos h0, ih]
theorem cutN_len (ks : Dats) (deep left : Int) (j : Nat) : (cutN ks deep left j).1.len = j := by
  induction j with
  | zero => rfl
  | succ j ih => simp only [cutN, snoc_len, ih]
mutual
theorem cutD_parts : ∀ (d : Dat) (deep left : Int), 1 ≤ left → 0 ≤ (cutD d deep left).2 ∧ (cutD d deep left).2 + parts (cutD d deep left).1 = left
  | .mk k n s ks, deep, left, h => by
    have := cutL_parts ks deep (left - 1) (by omega)
    simp only [cutD, parts]
    omega
theorem cutL_parts : ∀ (ks : Dats) (deep left : Int), 0 ≤ left → 0 ≤ (cutL ks deep left).2 ∧ (cutL ks deep left).2 + partsL (cutL ks deep left).1 = left
  | .nil, deep, left, h => by simp only [cutL, partsL]; omega
  | .cons d ds, deep, left, h => by
    simp only [cutL]
    split
    · have h1 := cutD_parts d (deep - 1) left (by omega)
      have h2 := cutL_parts ds deep (cutD d (deep - 1) left).2 h1.1
      simp only [partsL]
      omega
    · simp only [partsL]; omega
end
end Seat
end Go.Proofs.YtenpjkcclmmlhaaDoor
/- room.cut: the law that the interpreter takes. -/
namespace Go.Proofs.YtenpjkcclmmlhaaDoor
open Go.AS
set_option linter.unusedVariables false
set_option linter.unusedSimpArgs false
set_option maxRecDepth 100000
namespace Seat
def room (n : Int) : Box := ⟨[.int .i64 n], 75⟩
def CutAt (N : Nat) : Prop := ∀ d : Dat, d.size < N → d.ok → ∀ deep left : Int, 1 ≤ deep → deep ≤ 4611686018427387904 → 1 ≤ left → left ≤ 1000000 → PCalls G0 40 [.ptr 0 0, .agg d.cells, .int .i64 deep] [room left] (fun o b => o = .ret (.agg (cutD d deep left).1.cells) ∧ b = [room (cutD d deep left).2])
noncomputable def cutB (N : Nat) (f : Nat) (args : List PV) (x : Box) : Option (PV × Box × Ob) := match f, args, x with
  | 40, [.ptr 0 0, .agg cs, .int .i64 deep], ⟨[.int .i64 left], 75⟩ => some (.agg (ofCells (fun d => (cutD d deep left).1.cells) [] cs), room (ofCells (fun d => (cutD d deep left).2) 0 cs), [(isDat N cs, true), (decide (1 ≤ deep ∧ deep ≤ 4611686018427387904 ∧ 1 ≤ left ∧ left ≤ 1000000), true)])
  | _, _, _ => none
theorem cutB_ok {N : Nat} (ih : CutAt N) : ∀ f xs x r x' o, cutB N f xs x = some (r, x', o) → (∀ p ∈ o, p.1 = p.2) → PCalls G0 f xs [x] (fun o' b' => o' = .ret r ∧ b' = [x']) ∧ r.sc 0 = true ∧ scL 0 x.cs = true ∧ scL 0 x'.cs = true := by
  intro f args x r b o h ho
  unfold cutB at h
  split at h
  · rename_i cs deep left
    cases h
    obtain ⟨d, rfl, h1, h2⟩ := isDat_of (ho _ (List.mem_cons_self ..))
    have h3 : 1 ≤ deep ∧ deep ≤ 4611686018427387904 ∧ 1 ≤ left ∧ left ≤ 1000000 := of_decide_eq_true (ho (decide _, true) (List.mem_cons_of_mem _ (List.mem_cons_self ..)))
    simp only [ofCells_at]
    refine ⟨ih d h1 h2 deep left h3.1 h3.2.1 h3.2.2.1 h3.2.2.2, ?_, rfl, rfl⟩
    cases (cutD d deep left).1; rfl
  · cases h
noncomputable def SC {N : Nat} (ih : CutAt N) (l : List (Nat × List (Nat × Bool))) (v : List (Nat × List (Nat × PV))) : Cfg G0 := { F := F, hF := hF, S := fun _ _ => none, hS := fun _ _ _ _ h => (by cases h), orc := orcM l, val := valM v, B := cutB N, hB := cutB_ok ih, D := fun f => Nat.beq f 40 }
end Seat
end Go.Proofs.YtenpjkcclmmlhaaDoor
/- room.cut: the walk. -/
namespace Go.Proofs.YtenpjkcclmmlhaaDoor
open Go.AS
set_option linter.unusedVariables false
set_option linter.unusedSimpArgs false
set_option maxRecDepth 100000
namespace Seat
theorem cutN_left (ks : Dats) (deep left : Int) (m : Nat) : (∀ i, i < m → 1 < deep ∧ 0 < (cutN ks deep left i).2) → (cutN ks deep left m).2 + m ≤ left ∧ (0 ≤ left → 0 ≤ (cutN ks deep left m).2) := by
  induction m with
  | zero => intro _; simp [cutN]
  | succ m ih =>
    intro h
    have h1 := ih fun i hi => h i (by omega)
    have h2 := h m (by omega)
    have h3 := cutD_parts (ks.get m) (deep - 1) (cutN ks deep left m).2 (by omega)
    have h4 : 1 ≤ parts (cutD (ks.get m) (deep - 1) (cutN ks deep left m).2).1 := by
      obtain ⟨k, n, s, ks', e⟩ := Dat.is_mk (cutD (ks.get m) (deep - 1) (cutN ks deep left m).2).1
      rw [e]; simp only [parts]; omega
    simp only [cutN]
    omega
theorem cutAt (N : Nat) : CutAt N := by
  induction N with
  | zero => intro d h; omega
  | succ N ih =>
    intro d hN hok deep left hd1 hd2 hl1 hl2
    obtain ⟨k, n, s, ks⟩ := d
    let D : Box := ⟨[.int .i64 k, .int .i64 n, .str s, .slice ks.len ks.cells], 25⟩
    let Z : Box := ⟨[.int .i64 0, .int .i64 0, .str ⟨#[]⟩, .nil], 25⟩
    have w1 : ∀ x : Int, 1 ≤ x → x ≤ 4611686018427387904 → IntKind.i64.wrap (x - 1) = x - 1 := fun x h1 h2 => by rw [IntKind.wrap_i64]; omega
    refine Fn.enterN Tryd.func40 Tryd.ntmps40 rfl (Nat.le_of_ble_eq_true rfl) fun C fr fp hnt hp hfr hfp => ?_
    refine Q.runSeq S0 50 61 hnt [0, 2, 4, 6] (z := ⟨[(0, .ptr 0 0), (2, .int .i64 deep), (4, .ptr 1 0), (6, .ptr 2 0)], ⟨[room left, D, Z], []⟩⟩) (o := []) (by kernel_rfl) okO_nil ?_
    refine Q.runSeq (SC ih [] [(61, [(13, .int .i64 (left - 1))])]) 50 61 hnt [0, 2, 4, 6] (z := ⟨[(0, .ptr 0 0), (2, .int .i64 deep), (4, .ptr 1 0), (6, .ptr 2 0)], ⟨[room (left - 1), D, Z], []⟩⟩) (o := [(same (.int .i64 (IntKind.i64.wrap (left - 1))) (.int .i64 (left - 1)), true)]) (by kernel_rfl) (fun p hm => by rw [List.mem_singleton.1 hm]; exact same_of (by rw [w1 left hl1 (by omega)])) ?_
    refine Q.runSeq (SC ih [(61, [(26, true)])] [(61, [(26, .str (cutS s))])]) 60 61 hnt [0, 2, 4, 6, 7] (z := ⟨[(0, .ptr 0 0), (2, .int .i64 deep), (4, .ptr 1 0), (6, .ptr 2 0), (7, .ptr 3 0)], ⟨[room (left - 1), D, Z, ⟨[.int .i64 k, .int .i64 n, .str (cutS s), .nil], 25⟩], []⟩⟩)
      (o := [(decide ((0 : Int) ≤ 0 ∧ (0 : Int) ≤ (if (42 : Int) < (s.size : Int) then 42 else (s.size : Int)) ∧ (if (42 : Int) < (s.size : Int) then 42 else (s.size : Int)) ≤ (s.size : Int)), true), (same (.str (s.extract (0 : Int).toNat (if (42 : Int) < (s.size : Int) then 42 else (s.size : Int)).toNat)) (.str (cutS s)), true)]) (by kernel_rfl) (fun p hm => ?_) ?_
    · simp only [List.mem_cons, List.not_mem_nil, or_false] at hm
      have e : (if (42 : Int) < (s.size : Int) then 42 else (s.size : Int)) = min (s.size : Int) 42 := by split <;> omega
      rcases hm with rfl | rfl
      · simp only [decide_eq_true_eq]; rw [e]; omega
      · refine same_of ?_
        rw [e]
        rfl
    refine SWP.adoptB 3 3 25 4 rfl rfl ?_
    refine Q.seq fun K hK => ?_
    let T (j : Nat) : AS := ⟨[(0, .ptr 0 0), (2, .int .i64 deep), (4, .ptr 1 0), (6, .ptr 2 0), (7, .ptr 3 0), (8, .int .i64 j)], ⟨[room (cutN ks deep (left - 1) j).2, D, Z, ⟨[.int .i64 k, .int .i64 n, .str (cutS s), .own 0 j], 25⟩], [some ⟨(cutN ks deep (left - 1) j).1.cells, j, 25, 4⟩]⟩⟩
    refine Q.runSeq S0 50 61 hnt [0, 2, 4, 6, 7, 8] (z := T 0) (o := []) (by kernel_rfl) okO_nil ?_
    refine Q.block ?_
    refine Q.loopI (σ := { j : Nat // j ≤ ks.len ∧ ∀ i, i < j → 1 < deep ∧ 0 < (cutN ks deep (left - 1) i).2 }) [0, 2, 4, 6, 7, 8] (fun j => T j.1) (fun j => ks.len - j.1) ⟨0, Nat.zero_le _, fun i h => absurd h (Nat.not_lt_zero _)⟩ rfl fun ⟨j, hj, hl⟩ => ?_
    have hleft := cutN_left ks deep (left - 1) j hl
    have fin : (j = ks.len ∨ ¬ (1 < deep ∧ 0 < (cutN ks deep (left - 1) j).2)) → ∀ st, nrm [0, 2, 4, 6, 7, 8] st = T j → K st := fun hs st hst => by
      have hc := cutN_stop ks deep (left - 1) j hj hl hs
      have hcl := cutN_len ks deep (left - 1) j
      refine hK st (.norm [0, 2, 4, 6, 7, 8] ?_)
      rw [hst]
      refine SWP.frz [0] ?_
      refine SWP.runQ S0 50 61 hnt [6] (e := .ret) (z := ⟨[(6, .ptr 2 0)], ⟨[room (cutN ks deep (left - 1) j).2, D, ⟨[.int .i64 k, .int .i64 n, .str (cutS s), .slice j (cutN ks deep (left - 1) j).1.cells], 25⟩, ⟨[.int .i64 k, .int .i64 n, .str (cutS s), .slice j (cutN ks deep (left - 1) j).1.cells], 25⟩], [none]⟩⟩) (o := []) (by kernel_rfl) okO_nil (fun st hs => hfr st [6] ?_)
      rw [hs]
      refine ⟨1, .agg [.int .i64 k, .int .i64 n, .str (cutS s), .slice j (cutN ks deep (left - 1) j).1.cells], Nat.le_of_ble_eq_true rfl, Nat.le_of_ble_eq_true rfl, rfl, rfl, rfl, ?_, ?_⟩
      · simp only [cutD, hc, Dat.cells, hcl]
      · simp only [cutD, hc, List.take]
    let z43 (b : Bool) : AS := ⟨(T j).t ++ [(43, .bool b)], (T j).h⟩
    rcases Nat.lt_or_ge j ks.len with hlt | hge
    · by_cases hdp : 1 < deep
      · by_cases hl0 : 0 < (cutN ks deep (left - 1) j).2
        · refine Q.runSeq (SC ih [(61, [(32, true), (35, true), (42, true)])] []) 60 61 hnt [0, 2, 4, 6, 7, 8] (z := T j) (o := [(decide ((j : Int) < (ks.len : Int)), true), (decide ((1 : Int) < deep), true), (decide ((0 : Int) < (cutN ks deep (left - 1) j).2), true)]) (by kernel_rfl) (fun p hm => ?_) ?_
          · simp only [List.mem_cons, List.not_mem_nil, or_false] at hm
            rcases hm with rfl | rfl | rfl
            · simpa using hlt
            · simpa using hdp
            · simpa using hl0
          refine Q.seq fun K4 hK4 => ?_
          refine Q.block ?_
          obtain ⟨k', n', s', ks', hget⟩ := Dats.get_mk ks j
          obtain ⟨k2, n2, s2, ks2, hcut⟩ := Dat.is_mk (cutD (ks.get j) (deep - 1) (cutN ks deep (left - 1) j).2).1
          have hsz := Dats.get_size ks j hlt
          have hokj := Dats.get_ok ks j hlt hok.2
          have hcl : (ks.get j).cells = [.int .i64 k', .int .i64 n', .str s', .slice ks'.len ks'.cells] := by rw [hget]; rfl
          simp only [Dat.size] at hN
          let P : Ob := [(isDat N [.int .i64 k', .int .i64 n', .str s', .slice ks'.len ks'.cells], true), (decide (1 ≤ deep - 1 ∧ deep - 1 ≤ 4611686018427387904 ∧ 1 ≤ (cutN ks deep (left - 1) j).2 ∧ (cutN ks deep (left - 1) j).2 ≤ 1000000), true), (same (.agg (ofCells (fun d => (cutD d (deep - 1) (cutN ks deep (left - 1) j).2).1.cells) [] [.int .i64 k', .int .i64 n', .str s', .slice ks'.len ks'.cells])) (.agg [.int .i64 k2, .int .i64 n2, .str s2, .slice ks2.len ks2.cells]), true), (true, true), (Nat.ble ((j + 1) * 56) 140737488355328, true), (Nat.ble (j + 1) 9223372036854775807, true)]
          have okP : okO P := fun p hm => by
            simp only [P, List.mem_cons, List.not_mem_nil, or_false] at hm
            rcases hm with rfl | rfl | rfl | rfl | rfl | rfl
            · rw [← hcl]; exact isDat_at (by omega) hokj
            · simp only [decide_eq_true_eq]; omega
            · exact same_of (by rw [← hcl, ofCells_at, hcut]; rfl)
            · rfl
            · simp only [Nat.ble_eq]; omega
            · simp only [Nat.ble_eq]; omega
          refine SWP.runLQ (SC ih [(61, [(52, true), (53, true), (58, true)])] [(61, [(53, .agg [.int .i64 k', .int .i64 n', .str s', .slice ks'.len ks'.cells]), (55, .int .i64 (deep - 1)), (56, .agg [.int .i64 k2, .int .i64 n2, .str s2, .slice ks2.len ks2.cells])])]) 60 61 hnt [0, 2, 4, 6, 7, 8]
            (l := List.replicate 3 ⟨(T j).t, ⟨[room (ofCells (fun d => (cutD d (deep - 1) (cutN ks deep (left - 1) j).2).2) 0 [.int .i64 k', .int .i64 n', .str s', .slice ks'.len ks'.cells]), D, Z, ⟨[.int .i64 k, .int .i64 n, .str (cutS s), .own 0 (j + 1)], 25⟩], [some ⟨(cutN ks deep (left - 1) j).1.cells ++ [.int .i64 k2, .int .i64 n2, .str s2, .slice ks2.len ks2.cells], j + 1, 25, 4⟩]⟩⟩)
            (o := [(decide (0 ≤ (j : Int) ∧ (j : Int) < (ks.len : Int)), true), (decide (4 ≤ (ks.cells.drop ((j : Int).toNat * 4)).length), true), (same (.agg ((ks.cells.drop ((j : Int).toNat * 4)).take 4)) (.agg [.int .i64 k', .int .i64 n', .str s', .slice ks'.len ks'.cells]), true), (same (.int .i64 (IntKind.i64.wrap (deep - 1))) (.int .i64 (deep - 1)), true)] ++ (P ++ (P ++ P))) (by kernel_rfl) (okO_app (fun p hm => ?_) (okO_app okP (okO_app okP okP))) (fun st hs => ?_)
          · simp only [List.mem_cons, List.not_mem_nil, or_false, Int.toNat_natCast, Dats.get_cells ks j hlt] at hm
            rcases hm with rfl | rfl | rfl | rfl
            · simpa using hlt
            · simp only [List.length_drop, Dats.cells_len, decide_eq_true_eq]; omega
            · exact same_of (by rw [hcl])
            · exact same_of (by rw [w1 deep hd1 hd2])
          · refine hK4 st (.norm [0, 2, 4, 6, 7, 8] ?_)
            rw [List.eq_of_mem_replicate hs, ← hcl, ofCells_at]
            refine SWP.runQ (SC ih [] [(61, [(45, .int .i64 ((j + 1 : Nat) : Int))])]) 60 61 hnt [0, 2, 4, 6, 7, 8] (e := .normal) (z := ⟨[(0, .ptr 0 0), (2, .int .i64 deep), (4, .ptr 1 0), (6, .ptr 2 0), (7, .ptr 3 0), (8, .int .i64 ((j + 1 : Nat) : Int))], ⟨[room (cutD (ks.get j) (deep - 1) (cutN ks deep (left - 1) j).2).2, D, Z, ⟨[.int .i64 k, .int .i64 n, .str (cutS s), .own 0 (j + 1)], 25⟩], [some ⟨(cutN ks deep (left - 1) j).1.cells ++ [.int .i64 k2, .int .i64 n2, .str s2, .slice ks2.len ks2.cells], j + 1, 25, 4⟩]⟩⟩) (o := [(same (.int .i64 (IntKind.i64.wrap ((j : Int) + 1))) (.int .i64 ((j + 1 : Nat) : Int)), true)]) (by kernel_rfl) (fun p hm => by rw [List.mem_singleton.1 hm]; exact same_of (by rw [wrap1 j (by have := hok.1; omega)])) (fun st hs => ⟨⟨j + 1, hlt, fun i hi => ?_⟩, Nat.sub_lt_sub_left hlt (Nat.lt_succ_self j), ?_⟩)
            · rcases Nat.lt_succ_iff_lt_or_eq.1 hi with h | h
              · exact hl i h
              · rw [h]; exact ⟨hdp, hl0⟩
            · rw [hs]
              simp only [T, cutN, snoc_cells, hcut]
              rfl
        · refine SWP.runQ (SC ih [(61, [(32, true), (35, true), (42, false)])] []) 60 61 hnt [0, 2, 4, 6, 7, 8] (e := .exit 0) (z := T j) (o := [(decide ((j : Int) < (ks.len : Int)), true), (decide ((1 : Int) < deep), true), (decide ((0 : Int) < (cutN ks deep (left - 1) j).2), false)]) (by kernel_rfl) (fun p hm => ?_) (fin (.inr fun h => hl0 h.2))
          simp only [List.mem_cons, List.not_mem_nil, or_false] at hm
          rcases hm with rfl | rfl | rfl
          · simpa using hlt
          · simpa using hdp
          · simpa using hl0
      · refine SWP.runQ (SC ih [(61, [(32, true), (35, false)])] []) 60 61 hnt [0, 2, 4, 6, 7, 8] (e := .exit 0) (z := T j) (o := [(decide ((j : Int) < (ks.len : Int)), true), (decide ((1 : Int) < deep), false)]) (by kernel_rfl) (fun p hm => ?_) (fin (.inr fun h => hdp h.1))
        simp only [List.mem_cons, List.not_mem_nil, or_false] at hm
        rcases hm with rfl | rfl
        · simpa using hlt
        · simpa using hdp
    · refine SWP.runQ (SC ih [(61, [(32, false)])] []) 60 61 hnt [0, 2, 4, 6, 7, 8] (e := .exit 0) (z := T j) (o := [(decide ((j : Int) < (ks.len : Int)), false)]) (by kernel_rfl) (fun p hm => ?_) (fin (.inl (by omega)))
      rw [List.mem_singleton.1 hm]
      simp; omega
end Seat
end Go.Proofs.YtenpjkcclmmlhaaDoor
/- Data and lists of data, told by their cells. -/
namespace Go.Proofs.YtenpjkcclmmlhaaDoor
open Go.AS
set_option linter.unusedVariables false
set_option linter.unusedSimpArgs false
set_option maxRecDepth 100000
namespace Seat
theorem okO_cons {a b : Bool} {o : Ob} (h : a = b) (ho : okO o) : okO ((a, b) :: o) := fun p hp => by
  rcases List.mem_cons.1 hp with rfl | hp
  · exact h
  · exact ho p hp
theorem lt_at {j n : Nat} (h : j < n) : decide ((j : Int) < (n : Int)) = true := by simpa using h
theorem ge_at {j n : Nat} (h : n ≤ j) : decide ((j : Int) < (n : Int)) = false := by simpa using h
theorem in_at {j n : Nat} (h : j < n) : decide (0 ≤ (j : Int) ∧ (j : Int) < (n : Int)) = true := by simpa using h
theorem kid_len {ks : Dats} {j : Nat} (h : j < ks.len) : decide (4 ≤ (ks.cells.drop ((j : Int).toNat * 4)).length) = true := by
  simp only [Int.toNat_natCast, List.length_drop, Dats.cells_len, decide_eq_true_eq]; omega
theorem kid_same {ks : Dats} {j : Nat} (h : j < ks.len) : same (.agg ((ks.cells.drop ((j : Int).toNat * 4)).take 4)) (.agg (ks.get j).cells) = true := same_of (by rw [Int.toNat_natCast, Dats.get_cells ks j h])
theorem kid_same' {ks : Dats} {j : Nat} {k n : Int} {s : ByteArray} {ls : Dats} (h : j < ks.len) (e : ks.get j = .mk k n s ls) : same (.agg ((ks.cells.drop ((j : Int).toNat * 4)).take 4)) (.agg [.int .i64 k, .int .i64 n, .str s, .slice ls.len ls.cells]) = true := by
  have := kid_same h
  rw [e] at this
  exact this
open Classical in
noncomputable def isDats (N n : Nat) (cs : List PV) : Bool := decide (∃ ks : Dats, ks.cells = cs ∧ ks.len = n ∧ ks.size < N ∧ ks.len ≤ 9223372036854775807 ∧ ks.ok)
open Classical in
noncomputable def ofCellsL {α : Type} (f : Dats → α) (z : α) (cs : List PV) : α := if h : ∃ ks : Dats, ks.cells = cs then f h.choose else z
theorem ofCellsL_at {α : Type} (f : Dats → α) (z : α) (ks : Dats) : ofCellsL f z ks.cells = f ks := by
  have h : ∃ e : Dats, e.cells = ks.cells := ⟨ks, rfl⟩
  unfold ofCellsL
  rw [dif_pos h, Dats.inj _ _ h.choose_spec]
theorem isDats_at {N : Nat} {ks : Dats} (h : ks.size < N) (hl : ks.len ≤ 9223372036854775807) (ho : ks.ok) : isDats N ks.len ks.cells = true := by
  unfold isDats
  classical exact decide_eq_true ⟨ks, rfl, rfl, h, hl, ho⟩
theorem isDats_of {N n : Nat} {cs : List PV} (h : isDats N n cs = true) : ∃ ks : Dats, ks.cells = cs ∧ ks.len = n ∧ ks.size < N ∧ ks.len ≤ 9223372036854775807 ∧ ks.ok := by
  unfold isDats at h
  classical exact of_decide_eq_true h
noncomputable def ofCells2 {α : Type} (f : Dat → Dat → α) (z : α) (a b : List PV) : α := ofCells (fun d => ofCells (fun e => f d e) z b) z a
theorem ofCells2_at {α : Type} (f : Dat → Dat → α) (z : α) (d e : Dat) : ofCells2 f z d.cells e.cells = f d e := by unfold ofCells2; rw [ofCells_at, ofCells_at]
open Classical in
noncomputable def isOk (cs : List PV) : Bool := decide (∃ d : Dat, d.cells = cs ∧ d.ok)
theorem isOk_at {d : Dat} (h : d.ok) : isOk d.cells = true := by
  unfold isOk
  classical exact decide_eq_true ⟨d, rfl, h⟩
theorem isOk_of {cs : List PV} (h : isOk cs = true) : ∃ d : Dat, d.cells = cs ∧ d.ok := by
  unfold isOk at h
  classical exact of_decide_eq_true h
end Seat
end Go.Proofs.YtenpjkcclmmlhaaDoor
/- Which data are the same: what it says. -/
namespace Go.Proofs.YtenpjkcclmmlhaaDoor
open Go.AS
set_option linter.unusedVariables false
set_option linter.unusedSimpArgs false
set_option maxRecDepth 100000
namespace Seat
mutual
def eqD : Dat → Dat → Bool
  | .mk k n s ks, .mk k' n' s' ks' => decide (k = k') && decide (n = n') && (s.toList == s'.toList) && eqL ks ks'
def eqL : Dats → Dats → Bool
  | .nil, .nil => true
  | .cons d ds, .cons e es => eqD d e && eqL ds es
  | .nil, .cons _ _ => false
  | .cons _ _, .nil => false
end
theorem eqL_iff : ∀ ks ls : Dats, eqL ks ls = true ↔ ks.len = ls.len ∧ ∀ j, j < ks.len → eqD (ks.get j) (ls.get j) = true
  | .nil, .nil => by simp [eqL, Dats.len]
  | .nil, .cons _ _ => by simp [eqL, Dats.len]
  | .cons _ _, .nil => by simp [eqL, Dats.len]
  | .cons d ds, .cons e es => by
    simp only [eqL, Bool.and_eq_true, eqL_iff ds es, Dats.len]
    constructor
    · rintro ⟨h1, h2, h3⟩
      refine ⟨by omega, fun j hj => ?_⟩
      cases j with
      | zero => exact h1
      | succ j => exact h3 j (by omega)
    · rintro ⟨h1, h2⟩
      exact ⟨h2 0 (by omega), by omega, fun j hj => h2 (j + 1) (by omega)⟩
theorem eqL_len {ks ls : Dats} (h : ks.len ≠ ls.len) : eqL ks ls = false := by
  cases hf : eqL ks ls with
  | false => rfl
  | true => exact absurd ((eqL_iff ks ls).1 hf).1 h
theorem eqL_not {ks ls : Dats} {j : Nat} (hj : j < ks.len) (h : eqD (ks.get j) (ls.get j) = false) : eqL ks ls = false := by
  cases hf : eqL ks ls with
  | false => rfl
  | true => rw [((eqL_iff ks ls).1 hf).2 j hj] at h; cases h
def EqAt (f : Nat) (N : Nat) : Prop := ∀ d e : Dat, d.size < N → d.ok → e.ok → Pure G0 f [.agg d.cells, .agg e.cells] (fun r => r = .bool (eqD d e))
noncomputable def eqS (g N : Nat) (f : Nat) (args : List PV) : Option (PV × Ob) := match Nat.beq f g, args with
  | true, [.agg a, .agg b] => some (.bool (ofCells2 eqD false a b), [(isDat N a, true), (isOk b, true)])
  | _, _ => none
theorem eqS_ok {g N : Nat} (ih : EqAt g N) (f : Nat) (args : List PV) (r : PV) (o : Ob) (h : eqS g N f args = some (r, o)) (ho : ∀ p ∈ o, p.1 = p.2) (hpu : pureL args = true) : Pure G0 f args (fun x => x = r) := by
  clear hpu
  unfold eqS at h
  split at h
  · rename_i a b hf
    cases h
    obtain rfl := Nat.eq_of_beq_eq_true hf
    obtain ⟨d, rfl, h1, h2⟩ := isDat_of (ho _ (List.mem_cons_self ..))
    obtain ⟨e, rfl, h3⟩ := isOk_of (ho (isOk b, true) (List.mem_cons_of_mem _ (List.mem_cons_self ..)))
    rw [ofCells2_at]
    exact ih d e h1 h2 h3
  · cases h
noncomputable def SQ {g N : Nat} (ih : EqAt g N) (l : List (Nat × List (Nat × Bool))) (v : List (Nat × List (Nat × PV))) : Cfg G0 := { F := F, hF := hF, S := eqS g N, hS := eqS_ok ih, orc := orcM l, val := valM v }
end Seat
end Go.Proofs.YtenpjkcclmmlhaaDoor
/- slices.EqualFunc of Equal; datum.Equal; pagodaref01.Same. -/
namespace Go.Proofs.YtenpjkcclmmlhaaDoor
open Go.AS
set_option linter.unusedVariables false
set_option linter.unusedSimpArgs false
set_option maxRecDepth 100000
namespace Seat
end Seat
end Go.Proofs.YtenpjkcclmmlhaaDoor
/- datum.Equal; pagodaref01.Same: the laws. -/
namespace Go.Proofs.YtenpjkcclmmlhaaDoor
open Go.AS
set_option linter.unusedVariables false
set_option linter.unusedSimpArgs false
set_option maxRecDepth 100000
namespace Seat
theorem sameAt (N : Nat) : EqAt 17 N := by
  induction N with
  | zero => intro d e h; omega
  | succ N ih =>
    intro d e hN hok lok
    obtain ⟨k, n, s, ks⟩ := d
    obtain ⟨k2, n2, s2, ls⟩ := e
    have hks : ks.size < N + 1 := by simp only [Dat.size] at hN; omega
    let H : Hp := ⟨[⟨[.int .i64 k, .int .i64 n, .str s, .slice ks.len ks.cells], 25⟩, ⟨[.int .i64 k2, .int .i64 n2, .str s2, .slice ls.len ls.cells], 25⟩], []⟩
    refine Fn.enterN Tryd.func17 Tryd.ntmps17 rfl (Nat.le_of_ble_eq_true rfl) fun C fr fp hnt hp hfr hfp => ?_
    refine Q.runSeq S0 50 53 hnt [2, 3] (z := ⟨[(2, .ptr 0 0), (3, .ptr 1 0)], H⟩) (o := []) (by kernel_rfl) okO_nil ?_
    refine Q.seq fun K hK => ?_
    have no : ∀ (st : AS), nrm [4] st = ⟨[(4, .bool false)], H⟩ → eqD (.mk k n s ks) (.mk k2 n2 s2 ls) = false → fr st := fun st hs h => hfr st [4] (by
      rw [hs]
      exact ⟨0, .bool false, Nat.le_refl _, Nat.zero_le _, rfl, rfl, rfl, rfl, _, rfl, by rw [h]⟩)
    by_cases h1 : k = k2
    rotate_left
    · exact SWP.runQ (SQ ih [(53, [(10, true)])] []) 100 53 hnt [4] (e := .ret) (z := ⟨[(4, .bool false)], H⟩) (o := [(k != k2, true)]) (by kernel_rfl) (okO_cons (by simp [h1]) okO_nil) (fun st hs => no st hs (by simp [eqD, h1]))
    by_cases h2 : n = n2
    rotate_left
    · exact SWP.runQ (SQ ih [(53, [(10, false), (16, true)])] []) 100 53 hnt [4] (e := .ret) (z := ⟨[(4, .bool false)], H⟩) (o := [(k != k2, false), (n != n2, true)]) (by kernel_rfl) (okO_cons (by simp [h1]) (okO_cons (by simp [h2]) okO_nil)) (fun st hs => no st hs (by simp [eqD, h2]))
    cases h3 : (s.toList == s2.toList) with
    | false => exact SWP.runQ (SQ ih [(53, [(10, false), (16, false), (23, true)])] []) 100 53 hnt [4] (e := .ret) (z := ⟨[(4, .bool false)], H⟩) (o := [(k != k2, false), (n != n2, false), (!(s.toList == s2.toList), true)]) (by kernel_rfl) (okO_cons (by simp [h1]) (okO_cons (by simp [h2]) (okO_cons (by rw [h3]; rfl) okO_nil))) (fun st hs => no st hs (by simp [eqD, h3]))
    | true =>
      by_cases h4 : ks.len = ls.len
      rotate_left
      · exact SWP.runQ (SQ ih [(53, [(10, false), (16, false), (23, false), (32, true)])] []) 100 53 hnt [4] (e := .ret) (z := ⟨[(4, .bool false)], H⟩) (o := [(k != k2, false), (n != n2, false), (!(s.toList == s2.toList), false), ((ks.len : Int) != (ls.len : Int), true)]) (by kernel_rfl) (okO_cons (by simp [h1]) (okO_cons (by simp [h2]) (okO_cons (by rw [h3]; rfl) (okO_cons (by simp; omega) okO_nil)))) (fun st hs => no st hs (by simp [eqD, eqL_len h4]))
      refine SWP.runQ (SQ ih [(53, [(10, false), (16, false), (23, false), (32, false)])] []) 100 53 hnt [2, 3] (e := .normal) (z := ⟨[(2, .ptr 0 0), (3, .ptr 1 0)], H⟩) (o := [(k != k2, false), (n != n2, false), (!(s.toList == s2.toList), false), ((ks.len : Int) != (ls.len : Int), false)]) (by kernel_rfl) (okO_cons (by simp [h1]) (okO_cons (by simp [h2]) (okO_cons (by rw [h3]; rfl) (okO_cons (by simp; omega) okO_nil)))) (fun st hs => hK st (.norm [2, 3] ?_))
      rw [hs]
      have heq : eqD (.mk k n s ks) (.mk k2 n2 s2 ls) = eqL ks ls := by simp [eqD, h1, h2, h3]
      refine Q.seq fun K3 hK3 => ?_
      refine Q.runSeq S0 50 53 hnt [2, 3, 5] (z := ⟨[(2, .ptr 0 0), (3, .ptr 1 0), (5, .int .i64 0)], H⟩) (o := []) (by kernel_rfl) okO_nil ?_
      refine Q.block ?_
      refine Q.loopI (σ := { j : Nat // j ≤ ks.len ∧ ∀ i, i < j → eqD (ks.get i) (ls.get i) = true }) [2, 3, 5] (fun j => ⟨[(2, .ptr 0 0), (3, .ptr 1 0), (5, .int .i64 j.1)], H⟩) (fun j => ks.len - j.1) ⟨0, Nat.zero_le _, fun i h => absurd h (Nat.not_lt_zero _)⟩ rfl fun ⟨j, hj, hall⟩ => ?_
      rcases Nat.lt_or_ge j ks.len with hlt | hge
      · have hlt2 : j < ls.len := by omega
        obtain ⟨k', n', s', ks', hget⟩ := Dats.get_mk ks j
        obtain ⟨k3, n3, s3, ls', hget2⟩ := Dats.get_mk ls j
        have hsz := Dats.get_size ks j hlt
        have hokj := Dats.get_ok ks j hlt hok.2
        have lokj := Dats.get_ok ls j hlt2 lok.2
        have hlen := hok.1
        rw [hget] at hsz hokj
        rw [hget2] at lokj
        have d1 : isDat N [.int .i64 k', .int .i64 n', .str s', .slice ks'.len ks'.cells] = true := isDat_at (d := .mk k' n' s' ks') (by omega) hokj
        have d2 : isOk [.int .i64 k3, .int .i64 n3, .str s3, .slice ls'.len ls'.cells] = true := isOk_at (d := .mk k3 n3 s3 ls') lokj
        have d3 : ofCells2 eqD false [.int .i64 k', .int .i64 n', .str s', .slice ks'.len ks'.cells] [.int .i64 k3, .int .i64 n3, .str s3, .slice ls'.len ls'.cells] = eqD (ks.get j) (ls.get j) := by
          rw [hget, hget2]; exact ofCells2_at eqD false (.mk k' n' s' ks') (.mk k3 n3 s3 ls')
        cases hf : eqD (ks.get j) (ls.get j) with
        | true =>
          refine SWP.runQ (SQ ih [(53, [(38, true), (44, true), (45, true), (49, true), (50, true), (51, true)])] [(53, [(45, .agg [.int .i64 k', .int .i64 n', .str s', .slice ks'.len ks'.cells]), (50, .agg [.int .i64 k3, .int .i64 n3, .str s3, .slice ls'.len ls'.cells])])]) 100 53 hnt [2, 3, 5] (e := .normal) (z := ⟨[(2, .ptr 0 0), (3, .ptr 1 0), (5, .int .i64 (IntKind.wrap IntKind.i64 (Int.ofNat (j + 1))))], ⟨[⟨[.int .i64 k, .int .i64 n, .str s, .slice (Dats.len ks) (Dats.cells ks)], 25⟩, ⟨[.int .i64 k2, .int .i64 n2, .str s2, .slice (Dats.len ls) (Dats.cells ls)], 25⟩], []⟩⟩) (o := [(decide ((↑j : Int) < (↑(Dats.len ks) : Int)), true), (true, true), (decide (0 ≤ (↑j : Int) ∧ (↑j : Int) < (↑(Dats.len ks) : Int)), true), (decide (TD.size d24 ≤ List.length (List.drop (Int.toNat (↑j : Int) * TD.size d24) (Dats.cells ks))), true), (same (PV.agg (List.take (TD.size d24) (List.drop (Int.toNat (↑j : Int) * TD.size d24) (Dats.cells ks)))) (PV.agg [PV.int IntKind.i64 k', PV.int IntKind.i64 n', PV.str s', PV.slice (Dats.len ks') (Dats.cells ks')]), true), (decide (0 ≤ (↑j : Int) ∧ (↑j : Int) < (↑(Dats.len ls) : Int)), true), (decide (TD.size d24 ≤ List.length (List.drop (Int.toNat (↑j : Int) * TD.size d24) (Dats.cells ls))), true), (same (PV.agg (List.take (TD.size d24) (List.drop (Int.toNat (↑j : Int) * TD.size d24) (Dats.cells ls)))) (PV.agg [PV.int IntKind.i64 k3, PV.int IntKind.i64 n3, PV.str s3, PV.slice (Dats.len ls') (Dats.cells ls')]), true), (true, true), (isDat N [PV.int IntKind.i64 k', PV.int IntKind.i64 n', PV.str s', PV.slice (Dats.len ks') (Dats.cells ks')], true), (isOk [PV.int IntKind.i64 k3, PV.int IntKind.i64 n3, PV.str s3, PV.slice (Dats.len ls') (Dats.cells ls')], true), (ofCells2 eqD false [PV.int IntKind.i64 k', PV.int IntKind.i64 n', PV.str s', PV.slice (Dats.len ks') (Dats.cells ks')] [PV.int IntKind.i64 k3, PV.int IntKind.i64 n3, PV.str s3, PV.slice (Dats.len ls') (Dats.cells ls')], true)]) (by kernel_rfl)
            (okO_cons (lt_at hlt) (okO_cons (rfl) (okO_cons (in_at hlt) (okO_cons (kid_len hlt) (okO_cons (kid_same' hlt hget) (okO_cons (in_at hlt2) (okO_cons (kid_len hlt2) (okO_cons (kid_same' hlt2 hget2) (okO_cons (rfl) (okO_cons (d1) (okO_cons (d2) (okO_cons (d3.trans hf) okO_nil)))))))))))) (fun st hs => ⟨⟨j + 1, hlt, fun i hi => ?_⟩, Nat.sub_lt_sub_left hlt (Nat.lt_succ_self j), ?_⟩)
          · rcases Nat.lt_succ_iff_lt_or_eq.1 hi with h | h
            · exact hall i h
            · rw [h]; exact hf
          · rw [hs]
            have := wrap1 j (by omega)
            push_cast at this
            simp only []
            rw [show ((j + 1 : Nat) : Int) = (j : Int) + 1 from rfl, ← this]
            rfl
        | false =>
          exact SWP.runQ (SQ ih [(53, [(38, true), (44, true), (45, true), (49, true), (50, true), (51, false)])] [(53, [(45, .agg [.int .i64 k', .int .i64 n', .str s', .slice ks'.len ks'.cells]), (50, .agg [.int .i64 k3, .int .i64 n3, .str s3, .slice ls'.len ls'.cells])])]) 100 53 hnt [4] (e := .ret) (z := ⟨[(4, .bool false)], ⟨[⟨[.int .i64 k, .int .i64 n, .str s, .slice (Dats.len ks) (Dats.cells ks)], 25⟩, ⟨[.int .i64 k2, .int .i64 n2, .str s2, .slice (Dats.len ls) (Dats.cells ls)], 25⟩], []⟩⟩) (o := [(decide ((↑j : Int) < (↑(Dats.len ks) : Int)), true), (true, true), (decide (0 ≤ (↑j : Int) ∧ (↑j : Int) < (↑(Dats.len ks) : Int)), true), (decide (TD.size d24 ≤ List.length (List.drop (Int.toNat (↑j : Int) * TD.size d24) (Dats.cells ks))), true), (same (PV.agg (List.take (TD.size d24) (List.drop (Int.toNat (↑j : Int) * TD.size d24) (Dats.cells ks)))) (PV.agg [PV.int IntKind.i64 k', PV.int IntKind.i64 n', PV.str s', PV.slice (Dats.len ks') (Dats.cells ks')]), true), (decide (0 ≤ (↑j : Int) ∧ (↑j : Int) < (↑(Dats.len ls) : Int)), true), (decide (TD.size d24 ≤ List.length (List.drop (Int.toNat (↑j : Int) * TD.size d24) (Dats.cells ls))), true), (same (PV.agg (List.take (TD.size d24) (List.drop (Int.toNat (↑j : Int) * TD.size d24) (Dats.cells ls)))) (PV.agg [PV.int IntKind.i64 k3, PV.int IntKind.i64 n3, PV.str s3, PV.slice (Dats.len ls') (Dats.cells ls')]), true), (true, true), (isDat N [PV.int IntKind.i64 k', PV.int IntKind.i64 n', PV.str s', PV.slice (Dats.len ks') (Dats.cells ks')], true), (isOk [PV.int IntKind.i64 k3, PV.int IntKind.i64 n3, PV.str s3, PV.slice (Dats.len ls') (Dats.cells ls')], true), (ofCells2 eqD false [PV.int IntKind.i64 k', PV.int IntKind.i64 n', PV.str s', PV.slice (Dats.len ks') (Dats.cells ks')] [PV.int IntKind.i64 k3, PV.int IntKind.i64 n3, PV.str s3, PV.slice (Dats.len ls') (Dats.cells ls')], false)]) (by kernel_rfl)
            (okO_cons (lt_at hlt) (okO_cons (rfl) (okO_cons (in_at hlt) (okO_cons (kid_len hlt) (okO_cons (kid_same' hlt hget) (okO_cons (in_at hlt2) (okO_cons (kid_len hlt2) (okO_cons (kid_same' hlt2 hget2) (okO_cons (rfl) (okO_cons (d1) (okO_cons (d2) (okO_cons (d3.trans hf) okO_nil)))))))))))) (fun st hs => no st hs (by rw [heq, eqL_not hlt hf]))
      · refine SWP.runQ (SQ ih [(53, [(38, false)])] []) 60 53 hnt [2] (e := .exit 0) (z := ⟨[(2, .ptr 0 0)], H⟩) (o := [(decide ((j : Int) < (ks.len : Int)), false), (false, false)]) (by kernel_rfl) (okO_cons (ge_at hge) (okO_cons (rfl) okO_nil)) (fun st hs => hK3 st (.norm [2] ?_))
        rw [hs]
        refine SWP.runQ S0 50 53 hnt [4] (e := .ret) (z := ⟨[(4, .bool true)], H⟩) (o := []) (by kernel_rfl) okO_nil (fun st hs => hfr st [4] ?_)
        rw [hs]
        exact ⟨0, .bool true, Nat.le_refl _, Nat.zero_le _, rfl, rfl, rfl, rfl, _, rfl, by rw [heq, (eqL_iff ks ls).2 ⟨h4, fun i hi => hall i (by omega)⟩]⟩
theorem same_ok (d e : Dat) (hd : d.ok) (he : e.ok) : Pure G0 17 [.agg d.cells, .agg e.cells] (fun r => r = .bool (eqD d e)) := sameAt (d.size + 1) d e (Nat.lt_succ_self _) hd he
end Seat
end Go.Proofs.YtenpjkcclmmlhaaDoor
/- Symbols: datum.IsSymbol, pagodaref01.Symbol. Printed by dev/sym1.py (this session's). -/
namespace Go.Proofs.YtenpjkcclmmlhaaDoor
open Go.AS
set_option linter.unusedVariables false
set_option linter.unusedSimpArgs false
set_option maxRecDepth 100000
namespace Seat
noncomputable def symS (f : Nat) (args : List PV) : Option (PV × Ob) := match f, args with
  | 70, [.int .u8 c] => some (.bool (digC c), [(decide (0 ≤ c ∧ c < 256), true)])
  | 51, [.int .u8 c] => some (.bool (letC c), [(decide (0 ≤ c ∧ c < 256), true)])
  | 78, [.int .u8 c] => some (.bool (digC c), [(decide (0 ≤ c ∧ c < 256), true)])
  | 56, [.int .u8 c] => some (.bool (letC c), [(decide (0 ≤ c ∧ c < 256), true)])
  | _, _ => none
theorem symS_ok (f : Nat) (args : List PV) (r : PV) (o : Ob) (h : symS f args = some (r, o)) (ho : ∀ p ∈ o, p.1 = p.2) (_ : pureL args = true) : Pure G0 f args (fun x => x = r) := by
  unfold symS at h
  split at h
  · cases h; exact isDigit_ok _ (of_decide_eq_true (ho _ (List.mem_singleton.2 rfl)))
  · cases h; exact isAtom_ok _ (of_decide_eq_true (ho _ (List.mem_singleton.2 rfl)))
  · cases h; exact digit_ok _ (of_decide_eq_true (ho _ (List.mem_singleton.2 rfl)))
  · cases h; exact letter_ok _ (of_decide_eq_true (ho _ (List.mem_singleton.2 rfl)))
  · cases h
noncomputable def SY (l : List (Nat × Bool)) : Cfg G0 := { F := F, hF := hF, S := symS, hS := symS_ok, orc := orcL 43 l }
def symBad (s : ByteArray) : Bool := decide (s.size = 0) || decide (40 < s.size) || digC (bt s 0) || (bt s 0 == 45 && decide (1 < s.size) && digC (bt s 1))
def symOk (s : ByteArray) : Bool := !symBad s && (List.range s.size).all fun i => letC (bt s i)
theorem symOk_bad {s : ByteArray} (h : symBad s = true) : symOk s = false := by simp [symOk, h]
theorem symOk_let {s : ByteArray} {i : Nat} (hi : i < s.size) (h : letC (bt s i) = false) : symOk s = false := by
  unfold symOk
  have : ((List.range s.size).all fun i => letC (bt s i)) = false := by
    rw [List.all_eq_false]
    exact ⟨i, List.mem_range.2 hi, by simp [h]⟩
  rw [this, Bool.and_false]
theorem symOk_all {s : ByteArray} (h : symBad s = false) (hl : ∀ i, i < s.size → letC (bt s i) = true) : symOk s = true := by
  unfold symOk
  rw [h, Bool.not_false, Bool.true_and, List.all_eq_true]
  exact fun i hi => hl i (List.mem_range.1 hi)
theorem symBad_size {s : ByteArray} (h : symBad s = false) : s.size ≤ 40 := by
  simp [symBad] at h
  omega
theorem dig45 : digC 45 = false := by decide
theorem isSymbol_ok (s : ByteArray) : Pure G0 74 [.str s] (fun r => r = .bool (symOk s)) := by
  refine Fn.enterN Tryd.func74 Tryd.ntmps74 rfl (Nat.le_of_ble_eq_true rfl) fun C fr fp hnt hp hfr hfp => ?_
  refine Q.runSeq S0 50 43 hnt [0] (z := ⟨[(0, .str s)], ⟨[], []⟩⟩) (o := []) (by kernel_rfl) okO_nil ?_
  refine Q.seq fun K hK => ?_
  refine Q.seq fun K1 hK1 => ?_
  have next : ∀ st, nrm [0, 31] st = ⟨[(0, .str s), (31, .bool (symBad s))], ⟨[], []⟩⟩ → K1 st := fun st hst => by
    refine hK1 st (.norm [0, 31] ?_)
    rw [hst]
    refine Q.cond rfl (fun hb => ?_) (fun hb => ?_)
    · refine SWP.runQ S0 50 43 hnt [2] (e := .ret) (z := ⟨[(2, .bool false)], ⟨[], []⟩⟩) (o := []) (by kernel_rfl) okO_nil (fun st hs => hfr st [2] ?_)
      rw [hs]
      exact FinR.pure (r := .bool false) (by kernel_rfl) rfl (by rw [symOk_bad hb])
    · refine Q.skip (hK _ (.norm [0] ?_))
      have hsz := symBad_size hb
      refine Q.seq fun K3 hK3 => ?_
      refine Q.runSeq S0 50 43 hnt [0, 33, 34] (z := ⟨[(0, .str s), (33, .int .i64 s.size), (34, .int .i64 0)], ⟨[], []⟩⟩) (o := []) (by kernel_rfl) okO_nil ?_
      refine Q.block ?_
      refine Q.loopI (σ := { j : Nat // j ≤ s.size ∧ ∀ i, i < j → letC (bt s i) = true }) [0, 33, 34] (fun j => ⟨[(0, .str s), (33, .int .i64 s.size), (34, .int .i64 j.1)], ⟨[], []⟩⟩) (fun j => s.size - j.1) ⟨0, Nat.zero_le _, fun i h => absurd h (Nat.not_lt_zero _)⟩ rfl fun ⟨j, hj, hl⟩ => ?_
      have bj := bt_in s j
      rcases Nat.lt_or_ge j s.size with hlt | hge
      · by_cases hc : letC (bt s j) = true
        · refine SWP.runQ (SY [(35, true), (39, true), (40, true)]) 60 43 hnt [0, 33, 34] (e := .normal) (z := ⟨[(0, .str s), (33, .int .i64 s.size), (34, .int .i64 (IntKind.i64.wrap ((j : Int) + 1)))], ⟨[], []⟩⟩) (o := [(decide ((j : Int) < (s.size : Int)), true), (true, true), (decide (0 ≤ (j : Int) ∧ (j : Int) < (s.size : Int)), true), (true, true), (decide (0 ≤ bt s j ∧ bt s j < 256), true), (letC (bt s j), true)]) (by kernel_rfl) (by simp only [okO, List.forall_mem_cons, List.not_mem_nil, false_imp_iff, implies_true, and_true]; simp [hc, bj]; omega) (fun st hs => ⟨⟨j + 1, hlt, fun i hi => ?_⟩, Nat.sub_lt_sub_left hlt (Nat.lt_succ_self j), ?_⟩)
          · rcases Nat.lt_succ_iff_lt_or_eq.1 hi with h | h
            · exact hl i h
            · rw [h]; exact hc
          · rw [hs, wrap1 j (by omega)]
        · simp only [Bool.not_eq_true] at hc
          refine SWP.runQ (SY [(35, true), (39, true), (40, false)]) 60 43 hnt [2] (e := .ret) (z := ⟨[(2, .bool false)], ⟨[], []⟩⟩) (o := [(decide ((j : Int) < (s.size : Int)), true), (true, true), (decide (0 ≤ (j : Int) ∧ (j : Int) < (s.size : Int)), true), (true, true), (decide (0 ≤ bt s j ∧ bt s j < 256), true), (letC (bt s j), false)]) (by kernel_rfl) (by simp only [okO, List.forall_mem_cons, List.not_mem_nil, false_imp_iff, implies_true, and_true]; simp [hc, bj]; omega) (fun st hs => hfr st [2] ?_)
          rw [hs]
          exact FinR.pure (r := .bool false) (by kernel_rfl) rfl (by rw [symOk_let hlt hc])
      · refine SWP.runQ (SY [(35, false)]) 60 43 hnt [0] (e := .exit 0) (z := ⟨[(0, .str s)], ⟨[], []⟩⟩) (o := [(decide ((j : Int) < (s.size : Int)), false), (false, false)]) (by kernel_rfl) (by simp only [okO, List.forall_mem_cons, List.not_mem_nil, false_imp_iff, implies_true, and_true]; simp; omega) (fun st hs => hK3 st (.norm [0] ?_))
        rw [hs]
        refine SWP.runQ S0 50 43 hnt [2] (e := .ret) (z := ⟨[(2, .bool true)], ⟨[], []⟩⟩) (o := []) (by kernel_rfl) okO_nil (fun st hs => hfr st [2] ?_)
        rw [hs]
        exact FinR.pure (r := .bool true) (by kernel_rfl) rfl (by rw [symOk_all hb fun i hi => hl i (by omega)])
  have b0 := bt_in s 0; have b1 := bt_in s 1
  by_cases h0 : s.size = 0
  · refine SWP.runQ (SY [(6, true)]) 60 43 hnt [0, 31] (e := .normal) (z := ⟨[(0, .str s), (31, .bool true)], ⟨[], []⟩⟩) (o := [((s.size : Int) == 0, true)]) (by kernel_rfl) ?_ (fun st hs => next st (by rw [hs]; simp [symBad, dig45, h0]))
    simp only [okO, List.forall_mem_cons, List.not_mem_nil, false_imp_iff, implies_true, and_true]; simp [dig45, h0]; try omega
  · by_cases h1 : 40 < s.size
    · refine SWP.runQ (SY [(6, false), (10, true)]) 60 43 hnt [0, 31] (e := .normal) (z := ⟨[(0, .str s), (31, .bool true)], ⟨[], []⟩⟩) (o := [((s.size : Int) == 0, false), (decide ((40 : Int) < (s.size : Int)), true)]) (by kernel_rfl) ?_ (fun st hs => next st (by rw [hs]; simp [symBad, dig45, h0, h1]))
      simp only [okO, List.forall_mem_cons, List.not_mem_nil, false_imp_iff, implies_true, and_true]; simp [dig45, h0, h1]; try omega
    · by_cases h2 : digC (bt s 0) = true
      · refine SWP.runQ (SY [(6, false), (10, false), (14, true), (15, true)]) 60 43 hnt [0, 31] (e := .normal) (z := ⟨[(0, .str s), (31, .bool true)], ⟨[], []⟩⟩) (o := [((s.size : Int) == 0, false), (decide ((40 : Int) < (s.size : Int)), false), (decide ((0 : Int) ≤ 0 ∧ (0 : Int) < (s.size : Int)), true), (true, true), (decide (0 ≤ bt s 0 ∧ bt s 0 < 256), true), (digC (bt s 0), true)]) (by kernel_rfl) ?_ (fun st hs => next st (by rw [hs]; simp [symBad, dig45, h0, h1, h2]))
        simp only [okO, List.forall_mem_cons, List.not_mem_nil, false_imp_iff, implies_true, and_true]; simp [dig45, h0, h1, h2]; try omega
      · simp only [Bool.not_eq_true] at h2
        by_cases h3 : bt s 0 = 45
        · by_cases h4 : 1 < s.size
          · by_cases h5 : digC (bt s 1) = true
            · refine SWP.runQ (SY [(6, false), (10, false), (14, true), (15, false), (19, true), (20, true), (24, true), (28, true), (29, true)]) 60 43 hnt [0, 31] (e := .normal) (z := ⟨[(0, .str s), (31, .bool true)], ⟨[], []⟩⟩) (o := [((s.size : Int) == 0, false), (decide ((40 : Int) < (s.size : Int)), false), (decide ((0 : Int) ≤ 0 ∧ (0 : Int) < (s.size : Int)), true), (true, true), (decide (0 ≤ bt s 0 ∧ bt s 0 < 256), true), (digC (bt s 0), false), (decide ((0 : Int) ≤ 0 ∧ (0 : Int) < (s.size : Int)), true), (bt s 0 == 45, true), (decide ((1 : Int) < (s.size : Int)), true), (decide ((0 : Int) ≤ 1 ∧ (1 : Int) < (s.size : Int)), true), (true, true), (decide (0 ≤ bt s 1 ∧ bt s 1 < 256), true), (digC (bt s 1), true)]) (by kernel_rfl) ?_ (fun st hs => next st (by rw [hs]; simp [symBad, dig45, h0, h1, h2, h3, h4, h5]))
              simp only [okO, List.forall_mem_cons, List.not_mem_nil, false_imp_iff, implies_true, and_true]; simp [dig45, h0, h1, h2, h3, h4, h5]; try omega
            · simp only [Bool.not_eq_true] at h5
              refine SWP.runQ (SY [(6, false), (10, false), (14, true), (15, false), (19, true), (20, true), (24, true), (28, true), (29, false)]) 60 43 hnt [0, 31] (e := .normal) (z := ⟨[(0, .str s), (31, .bool false)], ⟨[], []⟩⟩) (o := [((s.size : Int) == 0, false), (decide ((40 : Int) < (s.size : Int)), false), (decide ((0 : Int) ≤ 0 ∧ (0 : Int) < (s.size : Int)), true), (true, true), (decide (0 ≤ bt s 0 ∧ bt s 0 < 256), true), (digC (bt s 0), false), (decide ((0 : Int) ≤ 0 ∧ (0 : Int) < (s.size : Int)), true), (bt s 0 == 45, true), (decide ((1 : Int) < (s.size : Int)), true), (decide ((0 : Int) ≤ 1 ∧ (1 : Int) < (s.size : Int)), true), (true, true), (decide (0 ≤ bt s 1 ∧ bt s 1 < 256), true), (digC (bt s 1), false)]) (by kernel_rfl) ?_ (fun st hs => next st (by rw [hs]; simp [symBad, dig45, h0, h1, h2, h3, h4, h5]))
              simp only [okO, List.forall_mem_cons, List.not_mem_nil, false_imp_iff, implies_true, and_true]; simp [dig45, h0, h1, h2, h3, h4, h5]; try omega
          · refine SWP.runQ (SY [(6, false), (10, false), (14, true), (15, false), (19, true), (20, true), (24, false)]) 60 43 hnt [0, 31] (e := .normal) (z := ⟨[(0, .str s), (31, .bool false)], ⟨[], []⟩⟩) (o := [((s.size : Int) == 0, false), (decide ((40 : Int) < (s.size : Int)), false), (decide ((0 : Int) ≤ 0 ∧ (0 : Int) < (s.size : Int)), true), (true, true), (decide (0 ≤ bt s 0 ∧ bt s 0 < 256), true), (digC (bt s 0), false), (decide ((0 : Int) ≤ 0 ∧ (0 : Int) < (s.size : Int)), true), (bt s 0 == 45, true), (decide ((1 : Int) < (s.size : Int)), false)]) (by kernel_rfl) ?_ (fun st hs => next st (by rw [hs]; simp [symBad, dig45, h0, h1, h2, h3, h4]))
            simp only [okO, List.forall_mem_cons, List.not_mem_nil, false_imp_iff, implies_true, and_true]; simp [dig45, h0, h1, h2, h3, h4]; try omega
        · refine SWP.runQ (SY [(6, false), (10, false), (14, true), (15, false), (19, true), (20, false)]) 60 43 hnt [0, 31] (e := .normal) (z := ⟨[(0, .str s), (31, .bool false)], ⟨[], []⟩⟩) (o := [((s.size : Int) == 0, false), (decide ((40 : Int) < (s.size : Int)), false), (decide ((0 : Int) ≤ 0 ∧ (0 : Int) < (s.size : Int)), true), (true, true), (decide (0 ≤ bt s 0 ∧ bt s 0 < 256), true), (digC (bt s 0), false), (decide ((0 : Int) ≤ 0 ∧ (0 : Int) < (s.size : Int)), true), (bt s 0 == 45, false)]) (by kernel_rfl) ?_ (fun st hs => next st (by rw [hs]; simp [symBad, dig45, h0, h1, h2, h3]))
          simp only [okO, List.forall_mem_cons, List.not_mem_nil, false_imp_iff, implies_true, and_true]; simp [dig45, h0, h1, h2, h3]; try omega
end Seat
end Go.Proofs.YtenpjkcclmmlhaaDoor
/- Which data are right: what it says; laws that the interpreter takes. -/
namespace Go.Proofs.YtenpjkcclmmlhaaDoor
open Go.AS
set_option linter.unusedVariables false
set_option linter.unusedSimpArgs false
set_option maxRecDepth 100000
namespace Seat
mutual
def formedD : Dat → Bool
  | .mk k n s ks => (decide (k = 1) && decide (s.size = 0) && decide (ks.len = 0)) || (decide (k = 2) && decide (n = 0) && symOk s && decide (ks.len = 0)) || (decide (k = 3) && decide (n = 0) && decide (s.size = 0) && formedL ks)
def formedL : Dats → Bool
  | .nil => true
  | .cons d ds => formedD d && formedL ds
end
theorem formedL_iff : ∀ ks : Dats, formedL ks = true ↔ ∀ j, j < ks.len → formedD (ks.get j) = true
  | .nil => by simp [formedL, Dats.len]
  | .cons d ds => by
    simp only [formedL, Bool.and_eq_true, formedL_iff ds, Dats.len]
    constructor
    · rintro ⟨h1, h2⟩ j hj
      cases j with
      | zero => exact h1
      | succ j => exact h2 j (by omega)
    · intro h
      exact ⟨h 0 (by omega), fun j hj => h (j + 1) (by omega)⟩
def badIdx (ks : Dats) : Int := match (List.range ks.len).find? fun j => !formedD (ks.get j) with
  | some j => j
  | none => -1
theorem badIdx_at {ks : Dats} {j : Nat} (hj : j < ks.len) (h : formedD (ks.get j) = false) (hl : ∀ i, i < j → formedD (ks.get i) = true) : badIdx ks = j := by
  unfold badIdx
  have : (List.range ks.len).find? (fun j => !formedD (ks.get j)) = some j := by
    rw [List.find?_range_eq_some]
    exact ⟨by simp [h], List.mem_range.2 hj, fun i hi => by simp [hl i hi]⟩
  rw [this]
theorem badIdx_none {ks : Dats} (hl : ∀ i, i < ks.len → formedD (ks.get i) = true) : badIdx ks = -1 := by
  unfold badIdx
  have : (List.range ks.len).find? (fun j => !formedD (ks.get j)) = none := by
    rw [List.find?_eq_none]
    intro i hi
    simp [hl i (List.mem_range.1 hi)]
  rw [this]
theorem badIdx_formed (ks : Dats) : decide (0 ≤ badIdx ks) = !formedL ks := by
  cases h : formedL ks with
  | true => rw [badIdx_none fun i hi => (formedL_iff ks).1 h i hi]; rfl
  | false =>
    unfold badIdx
    split
    · rename_i j hj
      simp
    · rename_i hn
      rw [List.find?_eq_none] at hn
      have : formedL ks = true := (formedL_iff ks).2 fun j hj => by simpa using hn j (List.mem_range.2 hj)
      rw [this] at h
      cases h
def FormAt (N : Nat) : Prop := ∀ d : Dat, d.size < N → d.ok → Pure G0 61 [.agg d.cells] (fun r => r = .bool (formedD d))
def IdxAt (N : Nat) : Prop := ∀ ks : Dats, ks.size < N → ks.len ≤ 9223372036854775807 → ks.ok → Pure G0 92 [.slice ks.len ks.cells, .func (.func 81) []] (fun r => r = .int .i64 (badIdx ks))
noncomputable def formS (N : Nat) (f : Nat) (args : List PV) : Option (PV × Ob) := match f, args with
  | 61, [.agg cs] => some (.bool (ofCells formedD false cs), [(isDat N cs, true)])
  | _, _ => none
theorem formS_ok {N : Nat} (ih : FormAt N) (f : Nat) (args : List PV) (r : PV) (o : Ob) (h : formS N f args = some (r, o)) (ho : ∀ p ∈ o, p.1 = p.2) (_ : pureL args = true) : Pure G0 f args (fun x => x = r) := by
  unfold formS at h
  split at h
  · cases h
    obtain ⟨d, rfl, h1, h2⟩ := isDat_of (ho _ (List.mem_singleton.2 rfl))
    rw [ofCells_at]
    exact ih d h1 h2
  · cases h
noncomputable def idxS (N : Nat) (f : Nat) (args : List PV) : Option (PV × Ob) := match f, args with
  | 92, [.slice n cs, .func (.func 81) []] => some (.int .i64 (ofCellsL badIdx 0 cs), [(isDats N n cs, true)])
  | 74, [.str s] => some (.bool (symOk s), [])
  | _, _ => none
theorem idxS_ok {N : Nat} (ih : IdxAt N) (f : Nat) (args : List PV) (r : PV) (o : Ob) (h : idxS N f args = some (r, o)) (ho : ∀ p ∈ o, p.1 = p.2) (_ : pureL args = true) : Pure G0 f args (fun x => x = r) := by
  unfold idxS at h
  split at h
  · cases h
    obtain ⟨ks, rfl, rfl, h1, hl, h2⟩ := isDats_of (ho _ (List.mem_singleton.2 rfl))
    rw [ofCellsL_at]
    exact ih ks h1 hl h2
  · cases h; exact isSymbol_ok _
  · cases h
end Seat
end Go.Proofs.YtenpjkcclmmlhaaDoor
/- datum.formed: which data are right. -/
namespace Go.Proofs.YtenpjkcclmmlhaaDoor
open Go.AS
set_option linter.unusedVariables false
set_option linter.unusedSimpArgs false
set_option maxRecDepth 100000
namespace Seat
noncomputable def SF {N : Nat} (ih : FormAt N) (l : List (Nat × List (Nat × Bool))) (v : List (Nat × List (Nat × PV))) : Cfg G0 := { F := F, hF := hF, S := formS N, hS := formS_ok ih, orc := orcM l, val := valM v }
noncomputable def SI {N : Nat} (ih : IdxAt N) (l : List (Nat × List (Nat × Bool))) : Cfg G0 := { F := F, hF := hF, S := idxS N, hS := idxS_ok ih, orc := orcM l }
theorem idxAt {N : Nat} (ih : FormAt N) : IdxAt (N + 1) := fun ks hN hlen hok => by
  refine Fn.enterN Tryd.func92 Tryd.ntmps92 rfl (Nat.le_of_ble_eq_true rfl) fun C fr fp hnt hp hfr hfp => ?_
  refine Q.runSeq S0 50 19 hnt [0, 1] (z := ⟨[(0, .slice ks.len ks.cells), (1, .func (.func 81) [])], ⟨[], []⟩⟩) (o := []) (by kernel_rfl) okO_nil ?_
  refine Q.seq fun K hK => ?_
  refine Q.runSeq S0 50 19 hnt [0, 1, 7, 8] (z := ⟨[(0, .slice ks.len ks.cells), (1, .func (.func 81) []), (7, .int .i64 ks.len), (8, .int .i64 0)], ⟨[], []⟩⟩) (o := []) (by kernel_rfl) okO_nil ?_
  refine Q.block ?_
  refine Q.loopI (σ := { j : Nat // j ≤ ks.len ∧ ∀ i, i < j → formedD (ks.get i) = true }) [0, 1, 7, 8] (fun j => ⟨[(0, .slice ks.len ks.cells), (1, .func (.func 81) []), (7, .int .i64 ks.len), (8, .int .i64 j.1)], ⟨[], []⟩⟩) (fun j => ks.len - j.1) ⟨0, Nat.zero_le _, fun i h => absurd h (Nat.not_lt_zero _)⟩ rfl fun ⟨j, hj, hl⟩ => ?_
  rcases Nat.lt_or_ge j ks.len with hlt | hge
  · obtain ⟨k', n', s', ks', hget⟩ := Dats.get_mk ks j
    have hcl : (Dat.mk k' n' s' ks').cells = [.int .i64 k', .int .i64 n', .str s', .slice ks'.len ks'.cells] := rfl
    have hsz := Dats.get_size ks j hlt
    have hokj := Dats.get_ok ks j hlt hok
    rw [hget] at hsz hokj
    have oks : ∀ b, formedD (ks.get j) = b → okO [(decide ((j : Int) < (ks.len : Int)), true), (true, true), (decide (0 ≤ (j : Int) ∧ (j : Int) < (ks.len : Int)), true), (decide (4 ≤ (ks.cells.drop ((j : Int).toNat * 4)).length), true), (same (.agg ((ks.cells.drop ((j : Int).toNat * 4)).take 4)) (.agg [.int .i64 k', .int .i64 n', .str s', .slice ks'.len ks'.cells]), true), (true, true), (isDat N [.int .i64 k', .int .i64 n', .str s', .slice ks'.len ks'.cells], true), (!ofCells formedD false [.int .i64 k', .int .i64 n', .str s', .slice ks'.len ks'.cells], !b), (!b, !b)] := fun b hb => by
      simp only [okO, List.forall_mem_cons, List.not_mem_nil, false_imp_iff, implies_true, and_true, true_and, Int.toNat_natCast, Dats.get_cells ks j hlt]
      refine ⟨by simpa using hlt, by simpa using hlt, ?_, same_of (by rw [hget]; rfl), isDat_at (d := .mk k' n' s' ks') (by omega) hokj, ?_⟩
      · simp only [List.length_drop, Dats.cells_len, decide_eq_true_eq]; omega
      · rw [← hcl, ofCells_at, ← hget, hb]
    cases hf : formedD (ks.get j) with
    | true =>
      refine SWP.runQ (SF ih [(19, [(9, true), (14, true), (15, true), (16, false)])] [(19, [(15, .agg [.int .i64 k', .int .i64 n', .str s', .slice ks'.len ks'.cells])])]) 60 19 hnt [0, 1, 7, 8] (e := .normal) (z := ⟨[(0, .slice ks.len ks.cells), (1, .func (.func 81) []), (7, .int .i64 ks.len), (8, .int .i64 (IntKind.i64.wrap ((j : Int) + 1)))], ⟨[], []⟩⟩)
        (by kernel_rfl) (oks true hf) (fun st hs => ⟨⟨j + 1, hlt, fun i hi => ?_⟩, Nat.sub_lt_sub_left hlt (Nat.lt_succ_self j), ?_⟩)
      · rcases Nat.lt_succ_iff_lt_or_eq.1 hi with h | h
        · exact hl i h
        · rw [h]; exact hf
      · rw [hs, wrap1 j (by omega)]
    | false =>
      refine SWP.runQ (SF ih [(19, [(9, true), (14, true), (15, true), (16, true)])] [(19, [(15, .agg [.int .i64 k', .int .i64 n', .str s', .slice ks'.len ks'.cells])])]) 60 19 hnt [4] (e := .ret) (z := ⟨[(4, .int .i64 j)], ⟨[], []⟩⟩)
        (by kernel_rfl) (oks false hf) (fun st hs => hfr st [4] ?_)
      rw [hs]
      exact FinR.pure (r := .int .i64 j) (by kernel_rfl) rfl (by rw [badIdx_at hlt hf hl])
  · refine SWP.runQ (SF ih [(19, [(9, false)])] []) 60 19 hnt [0] (e := .exit 0) (z := ⟨[(0, .slice ks.len ks.cells)], ⟨[], []⟩⟩) (o := [(decide ((j : Int) < (ks.len : Int)), false), (false, false)]) (by kernel_rfl) (by simp only [okO, List.forall_mem_cons, List.not_mem_nil, false_imp_iff, implies_true, and_true]; simp; omega) (fun st hs => hK st (.norm [0] ?_))
    rw [hs]
    refine SWP.runQ S0 50 19 hnt [4] (e := .ret) (z := ⟨[(4, .int .i64 (-1))], ⟨[], []⟩⟩) (o := []) (by kernel_rfl) okO_nil (fun st hs => hfr st [4] ?_)
    rw [hs]
    exact FinR.pure (r := .int .i64 (-1)) (by kernel_rfl) rfl (by rw [badIdx_none fun i hi => hl i (by omega)])
end Seat
end Go.Proofs.YtenpjkcclmmlhaaDoor
/- datum.formed: the law. -/
namespace Go.Proofs.YtenpjkcclmmlhaaDoor
open Go.AS
set_option linter.unusedVariables false
set_option linter.unusedSimpArgs false
set_option maxRecDepth 100000
namespace Seat
theorem formAt (N : Nat) : FormAt N := by
  induction N with
  | zero => intro d h; omega
  | succ N ih =>
    intro d hN hok
    have hI := idxAt ih
    obtain ⟨k, n, s, ks⟩ := d
    have hks : ks.size < N + 1 := by simp only [Dat.size] at hN; omega
    have run : ∀ (l : List (Nat × Bool)) (r : Bool) (o : Ob), call (SI hI [(48, l)]) 60 61 [.agg [.int .i64 k, .int .i64 n, .str s, .slice ks.len ks.cells]] = some (.bool r, o) → okO o → r = formedD (.mk k n s ks) → Pure G0 61 [.agg (Dat.mk k n s ks).cells] (fun r => r = .bool (formedD (.mk k n s ks))) := fun l r o h ho hr => by
      rw [← hr]
      exact Pure.runO 60 h ho
    have d3 := isDats_at (N := N + 1) hks hok.1 hok.2
    have b3 : decide (0 ≤ ofCellsL badIdx 0 ks.cells) = !formedL ks := by rw [ofCellsL_at, badIdx_formed]
    by_cases h1 : k = 1
    · by_cases h2 : s.size = 0
      · exact run [(6, true), (9, true)] ((ks.len : Int) == 0) [(k == 1, true), (s.toList == [], true)] (by kernel_rfl) (by simp [okO, beq0, h1, str_nil, h2]) (by simp [formedD, h1, h2, beq0])
      · exact run [(6, true), (9, false)] false [(k == 1, true), (s.toList == [], false)] (by kernel_rfl) (by simp [okO, beq0, h1, str_nil, h2]) (by simp [formedD, h1, h2])
    · by_cases h2 : k = 2
      · by_cases h3 : n = 0
        · by_cases h4 : ks.len = 0
          · exact run [(6, false), (17, true), (20, true), (25, true)] (symOk s) [(k == 1, false), (k == 2, true), (n == 0, true), ((ks.len : Int) == 0, true), (true, true)] (by kernel_rfl) (by simp [okO, beq0, h2, h3, h4]) (by simp [formedD, h2, h3, h4])
          · exact run [(6, false), (17, true), (20, true), (25, false)] false [(k == 1, false), (k == 2, true), (n == 0, true), ((ks.len : Int) == 0, false)] (by kernel_rfl) (by simp [okO, beq0, h2, h3, h4]) (by simp [formedD, h2, h3, h4])
        · exact run [(6, false), (17, true), (20, false)] false [(k == 1, false), (k == 2, true), (n == 0, false)] (by kernel_rfl) (by simp [okO, beq0, h2, h3]) (by simp [formedD, h2, h3])
      · by_cases h3 : k = 3
        · by_cases h4 : n = 0
          · by_cases h5 : s.size = 0
            · exact run [(6, false), (17, false), (33, true), (36, true), (40, true)] (!decide (0 ≤ ofCellsL badIdx 0 ks.cells)) [(k == 1, false), (k == 2, false), (k == 3, true), (n == 0, true), (s.toList == [], true), (true, true), (isDats (N + 1) ks.len ks.cells, true)] (by kernel_rfl) (by simp [okO, beq0, h3, h4, h5, str_nil, d3]) (by rw [b3]; simp [formedD, h3, h4, h5])
            · exact run [(6, false), (17, false), (33, true), (36, true), (40, false)] false [(k == 1, false), (k == 2, false), (k == 3, true), (n == 0, true), (s.toList == [], false)] (by kernel_rfl) (by simp [okO, beq0, h3, h4, h5, str_nil]) (by simp [formedD, h3, h4, h5])
          · exact run [(6, false), (17, false), (33, true), (36, false)] false [(k == 1, false), (k == 2, false), (k == 3, true), (n == 0, false)] (by kernel_rfl) (by simp [okO, beq0, h3, h4]) (by simp [formedD, h3, h4])
        · exact run [(6, false), (17, false), (33, false)] false [(k == 1, false), (k == 2, false), (k == 3, false)] (by kernel_rfl) (by simp [okO, beq0, h1, h2, h3]) (by simp [formedD, h1, h2, h3])
theorem dformed_ok (d : Dat) (hok : d.ok) : Pure G0 61 [.agg d.cells] (fun r => r = .bool (formedD d)) := formAt (d.size + 1) d (Nat.lt_succ_self _) hok
end Seat
end Go.Proofs.YtenpjkcclmmlhaaDoor
/- datum.Check; pagodaref01.Cut: the laws. -/
namespace Go.Proofs.YtenpjkcclmmlhaaDoor
open Go.AS
set_option linter.unusedVariables false
set_option linter.unusedSimpArgs false
set_option maxRecDepth 100000
namespace Seat
def chkD (d : Dat) : Int := if formedD d = false then 4 else if 100000 < w64 (parts d) then 3 else if 1000 < (deepN d : Int) then 3 else 0
noncomputable def chkS (f : Nat) (args : List PV) : Option (PV × Ob) := match f, args with
  | 61, [.agg cs] => some (.bool (ofCells formedD false cs), [(isGood cs, true)])
  | 62, [.agg cs] => some (.int .i64 (ofCells (fun d => w64 (parts d)) 0 cs), [(isGood cs, true)])
  | 63, [.agg cs] => some (.int .i64 (ofCells (fun d => (deepN d : Int)) 0 cs), [(isGood cs, true)])
  | _, _ => none
theorem chkS_ok (f : Nat) (args : List PV) (r : PV) (o : Ob) (h : chkS f args = some (r, o)) (ho : ∀ p ∈ o, p.1 = p.2) (_ : pureL args = true) : Pure G0 f args (fun x => x = r) := by
  unfold chkS at h
  split at h
  · cases h
    obtain ⟨d, rfl, h1⟩ := isGood_of (ho _ (List.mem_singleton.2 rfl))
    rw [ofCells_at]; exact dformed_ok d h1.1
  · cases h
    obtain ⟨d, rfl, h1⟩ := isGood_of (ho _ (List.mem_singleton.2 rfl))
    rw [ofCells_at]; exact dparts_ok d h1
  · cases h
    obtain ⟨d, rfl, h1⟩ := isGood_of (ho _ (List.mem_singleton.2 rfl))
    rw [ofCells_at]; exact ddeep_ok d h1
  · cases h
noncomputable def SK (l : List (Nat × List (Nat × Bool))) : Cfg G0 := { F := F, hF := hF, S := chkS, hS := chkS_ok, orc := orcM l }
theorem dcheck_ok (d : Dat) (hd : Good d) : Pure G0 41 [.agg d.cells] (fun r => r = .int .i64 (chkD d)) := by
  obtain ⟨k, n, s, ks⟩ := d
  have hg : isGood [.int .i64 k, .int .i64 n, .str s, .slice ks.len ks.cells] = true := isGood_at hd
  have e1 : ∀ {α : Type} (f : Dat → α) (z : α), ofCells f z [.int .i64 k, .int .i64 n, .str s, .slice ks.len ks.cells] = f (.mk k n s ks) := fun f z => ofCells_at f z (.mk k n s ks)
  by_cases h1 : formedD (.mk k n s ks) = false
  · have : chkD (.mk k n s ks) = 4 := by simp [chkD, h1]
    rw [this]
    exact Pure.runO (S := SK [(16, [(5, false)])]) 60 (o := [(true, true), (isGood [.int .i64 k, .int .i64 n, .str s, .slice ks.len ks.cells], true), (ofCells formedD false [.int .i64 k, .int .i64 n, .str s, .slice ks.len ks.cells], false)]) (by kernel_rfl) (by simp [okO, hg, e1, h1])
  · simp only [Bool.not_eq_false] at h1
    by_cases h2 : 100000 < w64 (parts (.mk k n s ks))
    · have : chkD (.mk k n s ks) = 3 := by simp [chkD, h1, h2]
      rw [this]
      exact Pure.runO (S := SK [(16, [(5, true), (10, true)])]) 60 (o := [(true, true), (isGood [.int .i64 k, .int .i64 n, .str s, .slice ks.len ks.cells], true), (ofCells formedD false [.int .i64 k, .int .i64 n, .str s, .slice ks.len ks.cells], true), (true, true), (isGood [.int .i64 k, .int .i64 n, .str s, .slice ks.len ks.cells], true), (decide ((100000 : Int) < ofCells (fun d => w64 (parts d)) 0 [.int .i64 k, .int .i64 n, .str s, .slice ks.len ks.cells]), true)]) (by kernel_rfl) (by simp [okO, hg, e1, h1, h2])
    · have h2' : w64 (parts (.mk k n s ks)) ≤ 100000 := by omega
      by_cases h3 : 1000 < (deepN (.mk k n s ks) : Int)
      · have : chkD (.mk k n s ks) = 3 := by simp only [chkD, h1, h2, h3, if_true, if_false]; rfl
        rw [this]
        exact Pure.runO (S := SK [(16, [(5, true), (10, false), (14, true)])]) 60 (o := [(true, true), (isGood [.int .i64 k, .int .i64 n, .str s, .slice ks.len ks.cells], true), (ofCells formedD false [.int .i64 k, .int .i64 n, .str s, .slice ks.len ks.cells], true), (true, true), (isGood [.int .i64 k, .int .i64 n, .str s, .slice ks.len ks.cells], true), (decide ((100000 : Int) < ofCells (fun d => w64 (parts d)) 0 [.int .i64 k, .int .i64 n, .str s, .slice ks.len ks.cells]), false), (true, true), (isGood [.int .i64 k, .int .i64 n, .str s, .slice ks.len ks.cells], true), (decide ((1000 : Int) < ofCells (fun d => (deepN d : Int)) 0 [.int .i64 k, .int .i64 n, .str s, .slice ks.len ks.cells]), true)]) (by kernel_rfl) (by simp only [okO, List.forall_mem_cons, List.not_mem_nil, false_imp_iff, implies_true, and_true, hg, e1, h1, true_and, decide_eq_true_eq, decide_eq_false_iff_not]; exact ⟨h2, h3⟩)
      · have : chkD (.mk k n s ks) = 0 := by simp only [chkD, h1, h2, h3, if_true, if_false]; rfl
        rw [this]
        exact Pure.runO (S := SK [(16, [(5, true), (10, false), (14, false)])]) 60 (o := [(true, true), (isGood [.int .i64 k, .int .i64 n, .str s, .slice ks.len ks.cells], true), (ofCells formedD false [.int .i64 k, .int .i64 n, .str s, .slice ks.len ks.cells], true), (true, true), (isGood [.int .i64 k, .int .i64 n, .str s, .slice ks.len ks.cells], true), (decide ((100000 : Int) < ofCells (fun d => w64 (parts d)) 0 [.int .i64 k, .int .i64 n, .str s, .slice ks.len ks.cells]), false), (true, true), (isGood [.int .i64 k, .int .i64 n, .str s, .slice ks.len ks.cells], true), (decide ((1000 : Int) < ofCells (fun d => (deepN d : Int)) 0 [.int .i64 k, .int .i64 n, .str s, .slice ks.len ks.cells]), false)]) (by kernel_rfl) (by simp only [okO, List.forall_mem_cons, List.not_mem_nil, false_imp_iff, implies_true, and_true, hg, e1, h1, true_and, decide_eq_true_eq, decide_eq_false_iff_not]; exact ⟨h2, h3⟩)
end Seat
end Go.Proofs.YtenpjkcclmmlhaaDoor
namespace Go.Proofs.YtenpjkcclmmlhaaDoor
open Go.AS
set_option linter.unusedVariables false
set_option linter.unusedSimpArgs false
namespace Seat
mutual
inductive Nd where
  | mk (k n : Int) (t : ByteArray) (ks : Nds) (a : Int)
inductive Nds where
  | nil
  | cons (d : Nd) (ds : Nds)
end
mutual
def Nd.cells : Nd → List PV
  | .mk k n t ks a => [.int .i64 k, .int .i64 n, .str t, .slice ks.len ks.cells, .int .i64 a]
def Nds.cells : Nds → List PV
  | .nil => []
  | .cons d ds => d.cells ++ ds.cells
def Nds.len : Nds → Nat
  | .nil => 0
  | .cons _ ds => ds.len + 1
end
mutual
def Nd.dat : Nd → Dat
  | .mk k n t ks _ => .mk k n t ks.dat
def Nds.dat : Nds → Dats
  | .nil => .nil
  | .cons d ds => .cons d.dat ds.dat
end
def Nds.snoc : Nds → Nd → Nds
  | .nil, x => .cons x .nil
  | .cons d ds, x => .cons d (ds.snoc x)
def Nd.zero : Nd := .mk 0 0 ⟨#[]⟩ .nil 0
theorem Nd.cells_len (d : Nd) : d.cells.length = 5 := by cases d; rfl
theorem Nds.cells_len : ∀ ds : Nds, ds.cells.length = ds.len * 5
  | .nil => rfl
  | .cons d ds => by simp only [Nds.cells, Nds.len, List.length_append, Nd.cells_len, Nds.cells_len ds]; omega
theorem Nds.snoc_len : ∀ (ds : Nds) (x : Nd), (ds.snoc x).len = ds.len + 1
  | .nil, x => rfl
  | .cons d ds, x => by simp only [Nds.snoc, Nds.len, Nds.snoc_len ds x]
theorem Nds.dat_len : ∀ ds : Nds, ds.dat.len = ds.len
  | .nil => rfl
  | .cons d ds => by simp only [Nds.dat, Dats.len, Nds.len, Nds.dat_len ds]
def blank (c : Int) : Bool := c == 32 || c == 9 || c == 10 || c == 13
def remK (s : ByteArray) : Nat → Nat → Nat
  | 0, a => a
  | k + 1, a => if a < s.size ∧ bt s (a : Int) ≠ 10 then remK s k (a + 1) else a
def remE (s : ByteArray) (a : Nat) : Nat := remK s (s.size - a) a
theorem remE_eq (s : ByteArray) (a : Nat) : remE s a = if a < s.size ∧ bt s (a : Int) ≠ 10 then remE s (a + 1) else a := by
  unfold remE
  by_cases h : a < s.size
  · obtain ⟨k, hk⟩ : ∃ k, s.size - a = k + 1 := ⟨s.size - a - 1, by omega⟩
    rw [hk, show s.size - (a + 1) = k by omega]
    rfl
  · rw [if_neg (fun g => h g.1), show s.size - a = 0 by omega]; rfl
theorem remK_ge (s : ByteArray) : ∀ k a, a ≤ remK s k a
  | 0, a => Nat.le_refl _
  | k + 1, a => by rw [remK]; split; exact Nat.le_trans (Nat.le_succ a) (remK_ge s k (a + 1)); exact Nat.le_refl _
theorem remE_ge (s : ByteArray) (a : Nat) : a ≤ remE s a := remK_ge s _ a
theorem remK_le (s : ByteArray) : ∀ k a, a ≤ s.size → remK s k a ≤ s.size
  | 0, a, h => h
  | k + 1, a, h => by
    rw [remK]
    split
    · rename_i g; exact remK_le s k (a + 1) g.1
    · exact h
theorem remE_le (s : ByteArray) (a : Nat) (h : a ≤ s.size) : remE s a ≤ s.size := remK_le s _ a h
def skpK (s : ByteArray) : Nat → Nat → Nat
  | 0, a => a
  | k + 1, a => if a < s.size then if blank (bt s (a : Int)) = true then skpK s k (a + 1) else if bt s (a : Int) = 59 then skpK s k (remE s a) else a else a
theorem remE_59 {s : ByteArray} {a : Nat} (h : a < s.size) (h9 : bt s (a : Int) = 59) : a + 1 ≤ remE s a := by
  rw [remE_eq, if_pos ⟨h, by rw [h9]; decide⟩]; exact remE_ge s (a + 1)
theorem skpK_more (s : ByteArray) : ∀ k m a, s.size - a ≤ k → k ≤ m → skpK s m a = skpK s k a
  | 0, m, a, h, _ => by
    cases m with
    | zero => rfl
    | succ m => simp only [skpK]; rw [if_neg (by omega)]
  | k + 1, m, a, h, hm => by
    obtain ⟨m, rfl⟩ : ∃ j, m = j + 1 := ⟨m - 1, by omega⟩
    rw [skpK, skpK]
    by_cases ha : a < s.size
    · rw [if_pos ha, if_pos ha, skpK_more s k m (a + 1) (by omega) (by omega)]
      by_cases h9 : bt s (a : Int) = 59
      · have := remE_59 ha h9
        rw [skpK_more s k m (remE s a) (by omega) (by omega)]
      · rw [if_neg h9, if_neg h9]
    · rw [if_neg ha, if_neg ha]
def skp (s : ByteArray) (a : Nat) : Nat := skpK s (s.size - a) a
theorem skp_eq (s : ByteArray) (a : Nat) : skp s a = if a < s.size then if blank (bt s (a : Int)) = true then skp s (a + 1) else if bt s (a : Int) = 59 then skp s (remE s a) else a else a := by
  by_cases h : a < s.size
  · unfold skp
    obtain ⟨k, hk⟩ : ∃ k, s.size - a = k + 1 := ⟨s.size - a - 1, by omega⟩
    rw [hk, show s.size - (a + 1) = k by omega, skpK]
    rw [if_pos h, if_pos h]
    by_cases h9 : bt s (a : Int) = 59
    · have := remE_59 h h9
      rw [skpK_more s (s.size - remE s a) k (remE s a) (Nat.le_refl _) (by omega)]
    · rw [if_neg h9, if_neg h9]
  · rw [if_neg h, skp, show s.size - a = 0 by omega]; rfl
theorem skpK_ge (s : ByteArray) : ∀ k a, a ≤ skpK s k a
  | 0, a => Nat.le_refl _
  | k + 1, a => by
    rw [skpK]
    split
    · split
      · exact Nat.le_trans (Nat.le_succ a) (skpK_ge s k (a + 1))
      · split
        · exact Nat.le_trans (remE_ge s a) (skpK_ge s k _)
        · exact Nat.le_refl _
    · exact Nat.le_refl _
theorem skp_ge (s : ByteArray) (a : Nat) : a ≤ skp s a := skpK_ge s _ a
theorem skpK_le (s : ByteArray) : ∀ k a, a ≤ s.size → skpK s k a ≤ s.size
  | 0, a, h => h
  | k + 1, a, h => by
    rw [skpK]
    split
    · rename_i h1
      split
      · exact skpK_le s k (a + 1) h1
      · split
        · exact skpK_le s k _ (remE_le s a h)
        · exact h
    · exact h
theorem skp_le (s : ByteArray) (a : Nat) (h : a ≤ s.size) : skp s a ≤ s.size := skpK_le s _ a h
theorem skp_out (s : ByteArray) (a : Nat) (h : s.size ≤ a) : skp s a = a := by rw [skp_eq, if_neg (by omega)]
def letK (s : ByteArray) : Nat → Nat → Nat
  | 0, a => a
  | k + 1, a => if a < s.size ∧ letC (bt s (a : Int)) = true then letK s k (a + 1) else a
def letE (s : ByteArray) (a : Nat) : Nat := letK s (s.size - a) a
theorem letE_eq (s : ByteArray) (a : Nat) : letE s a = if a < s.size ∧ letC (bt s (a : Int)) = true then letE s (a + 1) else a := by
  unfold letE
  by_cases h : a < s.size
  · obtain ⟨k, hk⟩ : ∃ k, s.size - a = k + 1 := ⟨s.size - a - 1, by omega⟩
    rw [hk, show s.size - (a + 1) = k by omega]
    rfl
  · rw [if_neg (fun g => h g.1), show s.size - a = 0 by omega]; rfl
theorem letK_ge (s : ByteArray) : ∀ k a, a ≤ letK s k a
  | 0, a => Nat.le_refl _
  | k + 1, a => by rw [letK]; split; exact Nat.le_trans (Nat.le_succ a) (letK_ge s k (a + 1)); exact Nat.le_refl _
theorem letE_ge (s : ByteArray) (a : Nat) : a ≤ letE s a := letK_ge s _ a
theorem letK_le (s : ByteArray) : ∀ k a, a ≤ s.size → letK s k a ≤ s.size
  | 0, a, h => h
  | k + 1, a, h => by
    rw [letK]
    split
    · rename_i g; exact letK_le s k (a + 1) g.1
    · exact h
theorem letE_le (s : ByteArray) (a : Nat) (h : a ≤ s.size) : letE s a ≤ s.size := letK_le s _ a h
theorem letE_gt {s : ByteArray} {a : Nat} (h : a < s.size) (hc : letC (bt s (a : Int)) = true) : a < letE s a := by
  rw [letE_eq, if_pos ⟨h, hc⟩]; exact letE_ge s (a + 1)
def numK (t : ByteArray) : Nat → Nat → Nat → Option Nat
  | 0, _, n => some n
  | k + 1, i, n => if 48 ≤ bt t (i : Int) ∧ bt t (i : Int) ≤ 57 ∧ 10 * n + (bt t (i : Int) - 48).toNat ≤ 9223372036854775808 then numK t k (i + 1) (10 * n + (bt t (i : Int) - 48).toNat) else none
def numT (t : ByteArray) (below : Bool) : Int × Bool :=
  if t.size = 0 ∨ (bt t 0 = 48 ∧ (1 < t.size ∨ below = true)) then (0, false) else
  match numK t t.size 0 0 with
  | none => (0, false)
  | some n => if below = true then (IntKind.i64.wrap (-(n : Int)), true) else (IntKind.i64.wrap (n : Int), decide (n < 9223372036854775808))
def numB (w : ByteArray) : Bool := decide (0 < w.size ∧ bt w 0 = 45)
def numV (w : ByteArray) : Int × Bool := if numB w = true then numT (w.extract 1 w.size) true else numT w false
structure RS where
  a : Nat
  e : Int
  b : Int
def atomR (s : ByteArray) (a : Nat) : Nd × RS :=
  if (numV (s.extract a (letE s a))).2 = true then (.mk 1 (numV (s.extract a (letE s a))).1 ⟨#[]⟩ .nil a, ⟨letE s a, 0, 0⟩)
  else if symOk (s.extract a (letE s a)) = true then (.mk 2 0 (s.extract a (letE s a)) .nil a, ⟨letE s a, 0, 0⟩)
  else (.zero, ⟨letE s a, 4, a⟩)
def wQuote : ByteArray := ⟨#[113, 117, 111, 116, 101]⟩
def goes (s : ByteArray) (r : RS) : Bool := r.e == 0 && !(decide (r.a < s.size) && bt s (r.a : Int) == 41)
def rdL (f : Nat → Nd × RS) (s : ByteArray) : Nat → RS → Nds → Nds × RS
  | 0, r, l => (l, r)
  | k + 1, r, l => if goes s r = true then rdL f s k ⟨skp s (f r.a).2.a, (f r.a).2.e, (f r.a).2.b⟩ (l.snoc (f r.a).1) else (l, r)
def rdD (s : ByteArray) : Nat → Nat → Nd × RS
  | n, a => if s.size ≤ a then (.zero, ⟨a, 4, s.size⟩) else
    if bt s (a : Int) ≠ 40 ∧ bt s (a : Int) ≠ 39 ∧ letC (bt s (a : Int)) = false then (.zero, ⟨a, 4, a⟩) else
    match n with
    | 0 => (.zero, ⟨a, 3, a⟩)
    | n + 1 => if bt s (a : Int) = 39 ∧ n = 0 then (.zero, ⟨a, 3, a⟩) else
      if letC (bt s (a : Int)) = true then atomR s a else
      if bt s (a : Int) = 39 then (.mk 3 0 ⟨#[]⟩ (.cons (.mk 2 0 wQuote .nil a) (.cons (rdD s n (skp s (a + 1))).1 .nil)) a, (rdD s n (skp s (a + 1))).2)
      else (.mk 3 0 ⟨#[]⟩ (rdL (rdD s n) s (s.size + 1) ⟨skp s (a + 1), 0, 0⟩ .nil).1 a, ⟨(rdL (rdD s n) s (s.size + 1) ⟨skp s (a + 1), 0, 0⟩ .nil).2.a + 1, (rdL (rdD s n) s (s.size + 1) ⟨skp s (a + 1), 0, 0⟩ .nil).2.e, (rdL (rdD s n) s (s.size + 1) ⟨skp s (a + 1), 0, 0⟩ .nil).2.b⟩)
structure RS.In (s : ByteArray) (m : Nat) (r : RS) : Prop where
  ok : r.e = 0 → r.a ≤ s.size ∧ r.b = 0
  le : r.a ≤ s.size + m
  er : r.e = 0 ∨ r.e = 3 ∨ r.e = 4
  ba : 0 ≤ r.b ∧ r.b ≤ s.size
def Steps (s : ByteArray) (m : Nat) (f : Nat → Nd × RS) : Prop := ∀ a, a ≤ s.size → (f a).2.In s m ∧ ((f a).2.e = 0 → a < (f a).2.a)
theorem RS.In.skp {s : ByteArray} {m : Nat} {r : RS} (h : r.In s m) : RS.In s m ⟨skp s r.a, r.e, r.b⟩ where
  ok := fun he => ⟨skp_le s _ (h.ok he).1, (h.ok he).2⟩
  le := by
    rcases Nat.lt_or_ge s.size r.a with hl | hl
    · show Seat.skp s r.a ≤ _
      rw [skp_out s r.a (by omega)]; exact h.le
    · exact Nat.le_trans (skp_le s _ hl) (Nat.le_add_right _ _)
  er := h.er
  ba := h.ba
theorem n4 : ¬ (4 : Int) = 0 := by decide
theorem n3 : ¬ (3 : Int) = 0 := by decide
theorem goes_e {s : ByteArray} {r : RS} (h : goes s r = true) : r.e = 0 := by
  unfold goes at h
  simp only [Bool.and_eq_true, beq_iff_eq] at h
  exact h.1
theorem rdL_stop {f : Nat → Nd × RS} {s : ByteArray} {r : RS} (h : goes s r = false) : ∀ k l, rdL f s k r l = (l, r)
  | 0, l => rfl
  | k + 1, l => by rw [rdL, if_neg (by rw [h]; decide)]
theorem goes_err {s : ByteArray} {r : RS} (h : r.e ≠ 0) : goes s r = false := by
  unfold goes
  rw [beq_eq_false_iff_ne.2 h, Bool.false_and]
theorem rdL_steps {f : Nat → Nd × RS} {s : ByteArray} {m : Nat} (hf : Steps s m f) : ∀ k r l, r.In s m → (r.e = 0 → s.size + 1 - r.a ≤ k) → (rdL f s k r l).2.In s m ∧ goes s (rdL f s k r l).2 = false ∧ ((rdL f s k r l).2.e = 0 → r.a ≤ (rdL f s k r l).2.a) ∧ (rdL f s k r l).1.len ≤ l.len + k
  | 0, r, l, hi, hk => by
    refine ⟨hi, goes_err fun h => ?_, fun _ => Nat.le_refl _, Nat.le_refl _⟩
    have := hk h
    have := (hi.ok h).1
    omega
  | k + 1, r, l, hi, hk => by
    rw [rdL]
    by_cases hg : goes s r = true
    · rw [if_pos hg]
      have he := goes_e hg
      have h1 := hf r.a (hi.ok he).1
      have h2 := h1.1.skp
      have hge := skp_ge s (f r.a).2.a
      obtain ⟨g1, g2, g3, g4⟩ := rdL_steps hf k ⟨Seat.skp s (f r.a).2.a, (f r.a).2.e, (f r.a).2.b⟩ (l.snoc (f r.a).1) h2 (fun h => by
        have := h1.2 h
        have := hk he
        show s.size + 1 - Seat.skp s (f r.a).2.a ≤ k
        omega)
      refine ⟨g1, g2, fun h => ?_, by rw [Nds.snoc_len] at g4; omega⟩
      have g5 := g3 h
      have g6 : (f r.a).2.e = 0 := by
        by_cases h' : (f r.a).2.e = 0
        · exact h'
        · rw [rdL_stop (goes_err (r := ⟨Seat.skp s (f r.a).2.a, (f r.a).2.e, (f r.a).2.b⟩) h')] at h
          exact h
      have := h1.2 g6
      have g7 : Seat.skp s (f r.a).2.a ≤ _ := g5
      omega
    · rw [if_neg hg]
      exact ⟨hi, by simpa using hg, fun _ => Nat.le_refl _, by show l.len ≤ _; omega⟩
theorem goes_at {s : ByteArray} {r : RS} (h : goes s r = false) (he : r.e = 0) : r.a < s.size := by
  unfold goes at h
  rw [he] at h
  simp at h
  exact h.1
theorem rdD_eq (s : ByteArray) (n a : Nat) : rdD s n a = (if s.size ≤ a then (.zero, ⟨a, 4, s.size⟩) else
    if bt s (a : Int) ≠ 40 ∧ bt s (a : Int) ≠ 39 ∧ letC (bt s (a : Int)) = false then (.zero, ⟨a, 4, a⟩) else
    match n with
    | 0 => (.zero, ⟨a, 3, a⟩)
    | n + 1 => if bt s (a : Int) = 39 ∧ n = 0 then (.zero, ⟨a, 3, a⟩) else
      if letC (bt s (a : Int)) = true then atomR s a else
      if bt s (a : Int) = 39 then (.mk 3 0 ⟨#[]⟩ (.cons (.mk 2 0 wQuote .nil a) (.cons (rdD s n (skp s (a + 1))).1 .nil)) a, (rdD s n (skp s (a + 1))).2)
      else (.mk 3 0 ⟨#[]⟩ (rdL (rdD s n) s (s.size + 1) ⟨skp s (a + 1), 0, 0⟩ .nil).1 a, ⟨(rdL (rdD s n) s (s.size + 1) ⟨skp s (a + 1), 0, 0⟩ .nil).2.a + 1, (rdL (rdD s n) s (s.size + 1) ⟨skp s (a + 1), 0, 0⟩ .nil).2.e, (rdL (rdD s n) s (s.size + 1) ⟨skp s (a + 1), 0, 0⟩ .nil).2.b⟩)) := by
  cases n <;> rfl
theorem In0 {s : ByteArray} {m a : Nat} (h : a ≤ s.size) : RS.In s m ⟨a, 0, 0⟩ := ⟨fun _ => ⟨h, rfl⟩, Nat.le_trans h (Nat.le_add_right _ _), .inl rfl, Int.le_refl _, Int.natCast_nonneg _⟩
theorem rdD_steps (s : ByteArray) (n : Nat) : Steps s n (rdD s n) := by
  induction n with
  | zero =>
    intro a ha
    have hz : (0 : Int) ≤ (a : Int) ∧ (a : Int) ≤ (s.size : Int) := by omega
    rw [rdD_eq]
    split
    · exact ⟨⟨fun h => absurd h n4, ha, .inr (.inr rfl), (by omega : (0 : Int) ≤ (s.size : Int)), Int.le_refl _⟩, fun h => absurd h n4⟩
    · split
      · exact ⟨⟨fun h => absurd h n4, ha, .inr (.inr rfl), hz.1, hz.2⟩, fun h => absurd h n4⟩
      · exact ⟨⟨fun h => absurd h n3, ha, .inr (.inl rfl), hz.1, hz.2⟩, fun h => absurd h n3⟩
  | succ n ih =>
    intro a ha
    have hz : (0 : Int) ≤ (a : Int) ∧ (a : Int) ≤ (s.size : Int) := by omega
    rw [rdD_eq]
    split
    · exact ⟨⟨fun h => absurd h n4, by show a ≤ _; omega, .inr (.inr rfl), (by omega : (0 : Int) ≤ (s.size : Int)), Int.le_refl _⟩, fun h => absurd h n4⟩
    · rename_i hlt
      split
      · exact ⟨⟨fun h => absurd h n4, by show a ≤ _; omega, .inr (.inr rfl), hz.1, hz.2⟩, fun h => absurd h n4⟩
      · simp only []
        split
        · exact ⟨⟨fun h => absurd h n3, by show a ≤ _; omega, .inr (.inl rfl), hz.1, hz.2⟩, fun h => absurd h n3⟩
        · split
          · rename_i hl
            have g1 := letE_gt (by omega : a < s.size) hl
            have g2 := letE_le s a ha
            unfold atomR
            split
            · exact ⟨⟨fun _ => ⟨g2, rfl⟩, by show letE s a ≤ _; omega, .inl rfl, Int.le_refl _, Int.natCast_nonneg _⟩, fun _ => g1⟩
            · split
              · exact ⟨⟨fun _ => ⟨g2, rfl⟩, by show letE s a ≤ _; omega, .inl rfl, Int.le_refl _, Int.natCast_nonneg _⟩, fun _ => g1⟩
              · exact ⟨⟨fun h => absurd h n4, by show letE s a ≤ _; omega, .inr (.inr rfl), hz.1, hz.2⟩, fun h => absurd h n4⟩
          · have hs1 := skp_ge s (a + 1)
            have hs2 := skp_le s (a + 1) (by omega)
            split
            · have g := ih (skp s (a + 1)) hs2
              exact ⟨⟨g.1.ok, Nat.le_trans g.1.le (by omega), g.1.er, g.1.ba⟩, fun h => Nat.lt_of_lt_of_le (Nat.lt_of_succ_le hs1) (Nat.le_of_lt (g.2 h))⟩
            · obtain ⟨g1, g2, g3, g4⟩ := rdL_steps ih (s.size + 1) ⟨skp s (a + 1), 0, 0⟩ .nil (In0 hs2) (fun _ => by omega)
              refine ⟨⟨fun h => ?_, Nat.succ_le_succ g1.le, g1.er, g1.ba⟩, fun h => ?_⟩
              · exact ⟨goes_at g2 h, (g1.ok h).2⟩
              · exact Nat.lt_succ_of_le (Nat.le_trans (Nat.le_of_succ_le hs1) (g3 h))
end Seat
end Go.Proofs.YtenpjkcclmmlhaaDoor
namespace Go.Proofs.YtenpjkcclmmlhaaDoor
open Go.AS
set_option linter.unusedVariables false
set_option linter.unusedSimpArgs false
set_option maxRecDepth 100000
namespace Seat
theorem copyCheck_new (y : PV) (ty : TypeId) (rws : List (Option Row)) (hl : liesAt Tryd.prog Tryd.prog.depth ty (2 / Tryd.prog.cellsOf ty) 0 84 1 = true)
    (hy : y.scP (belowN 1) (belowN rws.length) = true) :
    RCalls G0 72 [.ptr 0 0] ⟨[⟨[.nilptr, y], ty⟩], rws⟩ (fun o H => o = .ret (.tup []) ∧ H = ⟨[⟨[.ptr 0 0, y], ty⟩], rws⟩) := by
  refine Fn.enterH Tryd.func72 Tryd.ntmps72 rfl (Nat.le_of_ble_eq_true rfl) fun C fr fp hnt hnb hfr => ?_
  refine Q.runSeq S0 50 20 hnt [0, 6] (z := ⟨[(0, .ptr 0 0), (6, .bool true)], ⟨[⟨[.nilptr, y], ty⟩], rws⟩⟩) (o := []) (by kernel_rfl) okO_nil ?_
  refine Q.cond (b := true) rfl (fun _ => ?_) (fun h => by cases h)
  obtain ⟨j, z, hj, hj2, _⟩ := o84.info
  refine SWP.plain rfl ?_
  refine SRun.op S0 false _ (by rw [hnt]; rfl) ?_
  refine SRun.op S0 false _ (by rw [hnt]; rfl) ?_
  refine SRun.cons fun o h1 h2 => (SOpG.toUnsafe (b := 0) (cs := [.nilptr, y]) (ty := ty) h2 rfl rfl Tryd.underlying82 Tryd.underlying123 hj (by rw [hj2]; decide) (Nat.zero_lt_succ _) (by rw [h1, hnt]; rfl) ?_).op
  rw [h1]; clear h1 h2 o
  refine SRun.cons fun o h1 h2 => (SOpG.extern (fn := Tryd.f89) (e := Extern.AbiNoEscape.same) (r := .ptr 0 0) h2 rfl Tryd.func89 (by decide) rfl (by kernel_rfl) (by kernel_rfl) (fun E w vs hv => ?_) (by rw [h1, hnt]; rfl) ?_).op
  · obtain ⟨v, us, rfl, hv', hus⟩ := VReps.cons_inv (x := .ptr 0 0) (xs := []) hv
    obtain rfl := hus.nil_inv
    exact ⟨v, Lib.run_noEscape w v, hv'⟩
  rw [h1]; clear h1 h2 o
  refine SRun.cons fun o h1 h2 => (SOpG.fromUnsafe (b := 0) (cs := [.nilptr, y]) (ty := ty) h2 rfl rfl Tryd.underlying123 Tryd.underlying82 hj hl (by rw [h1, hnt]; rfl) ?_).op
  rw [h1]; clear h1 h2 o
  refine SRun.op S0 false _ (by rw [hnt]; rfl) ?_
  refine SRun.op S0 false _ (by rw [hnt]; rfl) ?_
  refine SRun.op S0 false _ (by rw [hnt]; rfl) ?_
  refine SRun.nil (hfr _ [] ⟨1, rws.length, .tup [], Nat.le_refl _, Nat.le_refl _, Nat.le_refl _, Nat.le_refl _, rfl, rfl, ?_, rfl, ?_⟩)
  · show ((true && (y.scP (belowN 1) (belowN rws.length) && true)) && true) = true
    rw [hy]; rfl
  · show (⟨_, rws.take rws.length⟩ : Hp) = _
    rw [List.take_length]; rfl
end Seat
end Go.Proofs.YtenpjkcclmmlhaaDoor
namespace Go.Proofs.YtenpjkcclmmlhaaDoor
open Go.AS
set_option linter.unusedVariables false
set_option linter.unusedSimpArgs false
set_option maxRecDepth 100000
namespace Seat
def ccV (f : Nat) (xs : List PV) (H : Hp) : Option (PV × Hp × Ob) := match f, xs, H with
  | 72, [.ptr 0 0], ⟨[⟨[.nilptr, y], ty⟩], rws⟩ => match (Nat.beq ty 84 || Nat.beq ty 84) && y.scP (belowN 1) (belowN rws.length) with
    | true => some (.tup [], ⟨[⟨[.ptr 0 0, y], ty⟩], rws⟩, [])
    | false => none
  | _, _, _ => none
theorem ccV_ok (f : Nat) (xs : List PV) (H : Hp) (r : PV) (H' : Hp) (o : Ob) (h : ccV f xs H = some (r, H', o)) (_ : ∀ p ∈ o, p.1 = p.2) : RCalls G0 f xs H (fun o' H2 => o' = .ret r ∧ H2 = H') ∧ r.scP (belowN H'.bx.length) (belowN H'.rw.length) = true ∧ H'.scB H'.bx.length H'.rw.length = true := by
  unfold ccV at h
  split at h
  · rename_i y ty rws
    split at h
    · rename_i hc
      cases h
      simp only [Bool.and_eq_true, Bool.or_eq_true, Nat.beq_eq] at hc
      refine ⟨copyCheck_new y ty rws ?_ hc.2, rfl, ?_⟩
      · rcases hc.1 with rfl | rfl
        · kernel_rfl
        · kernel_rfl
      · show ((true && (y.scP (belowN 1) (belowN rws.length) && true)) && true) = true
        rw [hc.2]; rfl
    · cases h
  · cases h
def hpB (f : Nat) : Bool := hasN [72, 53, 52, 999999, 55, 999999, 999999, 999999] f
end Seat
end Go.Proofs.YtenpjkcclmmlhaaDoor
namespace Go.Proofs
open Go.Shelf
def Tryd.lays137_ren : Go.Shelf.Ren := ⟨fun | 137 => 71 | 217 => 88 | 266 => 94 | n => n, fun | 9 => 9 | 5 => 5 | 3 => 3 | n => n, fun | n => n⟩
theorem Tryd.lays137 : Go.Proofs.Lays.n137 Tryd.prog Tryd.lays137_ren := {
  mixed := by kernel_rfl
  f137 := Tryd.func71.trans (congrArg some (by kernel_rfl))
  f217 := Tryd.func88.trans (congrArg some (by kernel_rfl))
  f266 := Tryd.func94.trans (congrArg some (by kernel_rfl))
  t3 := Tryd.underlying3
  a3 := Tryd.isAgg3
  z3 := Tryd.sizeOf3
  v3 := Tryd.zeroValue3
  t5 := Tryd.underlying5
  a5 := Tryd.isAgg5
  z5 := Tryd.sizeOf5
  v5 := Tryd.zeroValue5
  t9 := Tryd.underlying9
  a9 := Tryd.isAgg9
  z9 := Tryd.sizeOf9
  v9 := Tryd.zeroValue9 }
open Go.RowKit in
theorem Tryd.strings_IndexByte (s : ByteArray) (c : Int) (w : World) :
    Calls Tryd.prog 71 #[.string s, .int .u8 c] w fun e w' => e = .returned (.int .i64 (Lib.indexByte s.data.toList c.toNat.toUInt8)) ∧ w' = w := Any.strings_IndexByte Tryd.lays137 s c w
def Tryd.laysM173_ren : Go.Shelf.Ren := ⟨fun | 173 => 85 | 246 => 93 | 283 => 97 | 284 => 98 | 285 => 99 | 286 => 100 | 129 => 107 | 317 => 106 | 318 => 108 | 319 => 109 | 320 => 110 | 337 => 116 | 338 => 117 | n => n, fun | 2 => 2 | 3 => 3 | 9 => 9 | 4 => 4 | 171 => 130 | 0 => 0 | 53 => 119 | 37 => 56 | 5 => 5 | 173 => 133 | 212 => 144 | 51 => 145 | 20 => 20 | 213 => 146 | 46 => 138 | 232 => 157 | 233 => 158 | n => n, fun | 17 => 1 | 18 => 4 | 19 => 5 | n => n⟩
theorem Tryd.laysM173 : Go.Proofs.LaysM.n173 Tryd.prog Tryd.laysM173_ren := {
  mixed := by kernel_rfl
  f129 := Tryd.func107.trans (congrArg some (by kernel_rfl))
  f173 := Tryd.func85.trans (congrArg some (by kernel_rfl))
  f246 := Tryd.func93.trans (congrArg some (by kernel_rfl))
  f283 := Tryd.func97.trans (congrArg some (by kernel_rfl))
  f284 := Tryd.func98.trans (congrArg some (by kernel_rfl))
  f285 := Tryd.func99.trans (congrArg some (by kernel_rfl))
  f286 := Tryd.func100.trans (congrArg some (by kernel_rfl))
  f317 := Tryd.func106.trans (congrArg some (by kernel_rfl))
  f318 := Tryd.func108.trans (congrArg some (by kernel_rfl))
  f319 := Tryd.func109.trans (congrArg some (by kernel_rfl))
  f320 := Tryd.func110.trans (congrArg some (by kernel_rfl))
  f337 := Tryd.func116.trans (congrArg some (by kernel_rfl))
  f338 := Tryd.func117.trans (congrArg some (by kernel_rfl))
  t0 := Tryd.underlying0
  a0 := Tryd.isAgg0
  z0 := Tryd.sizeOf0
  v0 := Tryd.zeroValue0
  t2 := Tryd.underlying2
  a2 := Tryd.isAgg2
  z2 := Tryd.sizeOf2
  v2 := Tryd.zeroValue2
  t3 := Tryd.underlying3
  a3 := Tryd.isAgg3
  z3 := Tryd.sizeOf3
  v3 := Tryd.zeroValue3
  t4 := Tryd.underlying4
  a4 := Tryd.isAgg4
  z4 := Tryd.sizeOf4
  v4 := Tryd.zeroValue4
  t5 := Tryd.underlying5
  a5 := Tryd.isAgg5
  z5 := Tryd.sizeOf5
  v5 := Tryd.zeroValue5
  t9 := Tryd.underlying9
  a9 := Tryd.isAgg9
  z9 := Tryd.sizeOf9
  v9 := Tryd.zeroValue9
  t20 := Tryd.underlying20
  a20 := Tryd.isAgg20
  z20 := Tryd.sizeOf20
  v20 := Tryd.zeroValue20
  t37 := Tryd.underlying56
  a37 := Tryd.isAgg56
  z37 := Tryd.sizeOf56
  v37 := Tryd.zeroValue56
  t46 := Tryd.underlying138
  a46 := Tryd.isAgg138
  z46 := Tryd.sizeOf138
  v46 := Tryd.zeroValue138
  t51 := Tryd.underlying145
  a51 := Tryd.isAgg145
  z51 := Tryd.sizeOf145
  v51 := Tryd.zeroValue145
  t53 := Tryd.underlying119
  a53 := Tryd.isAgg119
  z53 := Tryd.sizeOf119
  v53 := Tryd.zeroValue119
  t171 := Tryd.underlying130
  a171 := Tryd.isAgg130
  z171 := Tryd.sizeOf130
  v171 := Tryd.zeroValue130
  t173 := Tryd.underlying133
  a173 := Tryd.isAgg133
  z173 := Tryd.sizeOf133
  v173 := Tryd.zeroValue133
  t212 := Tryd.underlying144
  a212 := Tryd.isAgg144
  z212 := Tryd.sizeOf144
  v212 := Tryd.zeroValue144
  t213 := Tryd.underlying146
  a213 := Tryd.isAgg146
  z213 := Tryd.sizeOf146
  t232 := Tryd.underlying157
  a232 := Tryd.isAgg157
  z232 := Tryd.sizeOf157
  v232 := Tryd.zeroValue157
  t233 := Tryd.underlying158
  a233 := Tryd.isAgg158
  z233 := Tryd.sizeOf158
  v233 := Tryd.zeroValue158
  g17 := by kernel_rfl
  g18 := by kernel_rfl
  g19 := by kernel_rfl
  i0 := by kernel_rfl
  i2 := by kernel_rfl
  i3 := by kernel_rfl
  i4 := by kernel_rfl
  i5 := by kernel_rfl
  i9 := by kernel_rfl
  i20 := by kernel_rfl
  i37 := by kernel_rfl
  i46 := by kernel_rfl
  i51 := by kernel_rfl
  i53 := by kernel_rfl
  i171 := by kernel_rfl
  i173 := by kernel_rfl
  i212 := by kernel_rfl
  i232 := by kernel_rfl
  i233 := by kernel_rfl
  m17 := by kernel_rfl
  m18 := by kernel_rfl
  m19 := by kernel_rfl }
open Go.RowKit Go.Sort Go.Lib in
theorem Tryd.strconv_FormatInt_10 (n : Int) (h0 : -9223372036854775808 ≤ n) (h1 : n ≤ 9223372036854775807) (w : World) (htab : Lib.TabIs Tryd.prog w "internal/strconv.uint64pow10" .u64 Lib.pow10Tab) :
    Calls Tryd.prog 85 #[.int .i64 n, .int .i64 10] w fun e w' => e = .returned (.string ⟨(Lib.itoa n).toArray⟩) ∧ ∃ k os, w' = grow (w.drewN k) os := Any.strconv_FormatInt_10 Tryd.laysM173 n h0 h1 w htab
def Tryd.laysC174_ren : Go.Shelf.Ren := ⟨fun | 174 => 90 | 247 => 95 | 245 => 96 | 287 => 101 | 279 => 102 | 280 => 103 | 281 => 104 | 282 => 105 | 321 => 111 | 322 => 112 | 316 => 113 | 171 => 115 | 205 => 114 | 243 => 118 | 246 => 93 | 283 => 97 | 284 => 98 | 285 => 99 | 286 => 100 | 129 => 107 | 317 => 106 | 318 => 108 | 319 => 109 | 320 => 110 | 337 => 116 | 338 => 117 | n => n, fun | 9 => 9 | 3 => 3 | 2 => 2 | 75 => 90 | 85 => 125 | 4 => 4 | 167 => 135 | 5 => 5 | 53 => 119 | 175 => 136 | 46 => 138 | 168 => 139 | 37 => 56 | 0 => 0 | 210 => 151 | 21 => 21 | 127 => 112 | 145 => 156 | 143 => 154 | 171 => 130 | 173 => 133 | 212 => 144 | 51 => 145 | 20 => 20 | 213 => 146 | 232 => 157 | 233 => 158 | 80 => 94 | n => n, fun | 15 => 2 | 16 => 3 | 17 => 1 | 18 => 4 | 19 => 5 | n => n⟩
theorem Tryd.laysC174 : Go.Proofs.LaysC.n174 Tryd.prog Tryd.laysC174_ren := {
  mixed := by kernel_rfl
  f129 := Tryd.func107.trans (congrArg some (by kernel_rfl))
  f171 := Tryd.func115.trans (congrArg some (by kernel_rfl))
  f174 := Tryd.func90.trans (congrArg some (by kernel_rfl))
  f205 := Tryd.func114.trans (congrArg some (by kernel_rfl))
  f243 := Tryd.func118.trans (congrArg some (by kernel_rfl))
  f245 := Tryd.func96.trans (congrArg some (by kernel_rfl))
  f246 := Tryd.func93.trans (congrArg some (by kernel_rfl))
  f247 := Tryd.func95.trans (congrArg some (by kernel_rfl))
  f279 := Tryd.func102.trans (congrArg some (by kernel_rfl))
  f280 := Tryd.func103.trans (congrArg some (by kernel_rfl))
  f281 := Tryd.func104.trans (congrArg some (by kernel_rfl))
  f282 := Tryd.func105.trans (congrArg some (by kernel_rfl))
  f283 := Tryd.func97.trans (congrArg some (by kernel_rfl))
  f284 := Tryd.func98.trans (congrArg some (by kernel_rfl))
  f285 := Tryd.func99.trans (congrArg some (by kernel_rfl))
  f286 := Tryd.func100.trans (congrArg some (by kernel_rfl))
  f287 := Tryd.func101.trans (congrArg some (by kernel_rfl))
  f316 := Tryd.func113.trans (congrArg some (by kernel_rfl))
  f317 := Tryd.func106.trans (congrArg some (by kernel_rfl))
  f318 := Tryd.func108.trans (congrArg some (by kernel_rfl))
  f319 := Tryd.func109.trans (congrArg some (by kernel_rfl))
  f320 := Tryd.func110.trans (congrArg some (by kernel_rfl))
  f321 := Tryd.func111.trans (congrArg some (by kernel_rfl))
  f322 := Tryd.func112.trans (congrArg some (by kernel_rfl))
  f337 := Tryd.func116.trans (congrArg some (by kernel_rfl))
  f338 := Tryd.func117.trans (congrArg some (by kernel_rfl))
  t0 := Tryd.underlying0
  a0 := Tryd.isAgg0
  z0 := Tryd.sizeOf0
  v0 := Tryd.zeroValue0
  t2 := Tryd.underlying2
  a2 := Tryd.isAgg2
  z2 := Tryd.sizeOf2
  v2 := Tryd.zeroValue2
  t3 := Tryd.underlying3
  a3 := Tryd.isAgg3
  z3 := Tryd.sizeOf3
  v3 := Tryd.zeroValue3
  t4 := Tryd.underlying4
  a4 := Tryd.isAgg4
  z4 := Tryd.sizeOf4
  v4 := Tryd.zeroValue4
  t5 := Tryd.underlying5
  a5 := Tryd.isAgg5
  z5 := Tryd.sizeOf5
  v5 := Tryd.zeroValue5
  t9 := Tryd.underlying9
  a9 := Tryd.isAgg9
  z9 := Tryd.sizeOf9
  v9 := Tryd.zeroValue9
  t20 := Tryd.underlying20
  a20 := Tryd.isAgg20
  z20 := Tryd.sizeOf20
  v20 := Tryd.zeroValue20
  t21 := Tryd.underlying21
  a21 := Tryd.isAgg21
  z21 := Tryd.sizeOf21
  v21 := Tryd.zeroValue21
  t37 := Tryd.underlying56
  a37 := Tryd.isAgg56
  z37 := Tryd.sizeOf56
  v37 := Tryd.zeroValue56
  t46 := Tryd.underlying138
  a46 := Tryd.isAgg138
  z46 := Tryd.sizeOf138
  v46 := Tryd.zeroValue138
  t51 := Tryd.underlying145
  a51 := Tryd.isAgg145
  z51 := Tryd.sizeOf145
  v51 := Tryd.zeroValue145
  t53 := Tryd.underlying119
  a53 := Tryd.isAgg119
  z53 := Tryd.sizeOf119
  v53 := Tryd.zeroValue119
  t75 := Tryd.underlying90
  a75 := Tryd.isAgg90
  z75 := Tryd.sizeOf90
  v75 := Tryd.zeroValue90
  t85 := Tryd.underlying125
  a85 := Tryd.isAgg125
  z85 := Tryd.sizeOf125
  v85 := Tryd.zeroValue125
  t127 := Tryd.underlying112
  a127 := Tryd.isAgg112
  z127 := Tryd.sizeOf112
  v127 := Tryd.zeroValue112
  t143 := Tryd.underlying154
  a143 := Tryd.isAgg154
  z143 := Tryd.sizeOf154
  v143 := Tryd.zeroValue154
  t145 := Tryd.underlying156
  a145 := Tryd.isAgg156
  z145 := Tryd.sizeOf156
  v145 := Tryd.zeroValue156
  t167 := Tryd.underlying135
  a167 := Tryd.isAgg135
  z167 := Tryd.sizeOf135
  v167 := Tryd.zeroValue135
  t168 := Tryd.underlying139
  a168 := Tryd.isAgg139
  z168 := Tryd.sizeOf139
  v168 := Tryd.zeroValue139
  t171 := Tryd.underlying130
  a171 := Tryd.isAgg130
  z171 := Tryd.sizeOf130
  v171 := Tryd.zeroValue130
  t173 := Tryd.underlying133
  a173 := Tryd.isAgg133
  z173 := Tryd.sizeOf133
  v173 := Tryd.zeroValue133
  t175 := Tryd.underlying136
  a175 := Tryd.isAgg136
  z175 := Tryd.sizeOf136
  v175 := Tryd.zeroValue136
  t210 := Tryd.underlying151
  a210 := Tryd.isAgg151
  z210 := Tryd.sizeOf151
  v210 := Tryd.zeroValue151
  t212 := Tryd.underlying144
  a212 := Tryd.isAgg144
  z212 := Tryd.sizeOf144
  v212 := Tryd.zeroValue144
  t213 := Tryd.underlying146
  a213 := Tryd.isAgg146
  z213 := Tryd.sizeOf146
  t232 := Tryd.underlying157
  a232 := Tryd.isAgg157
  z232 := Tryd.sizeOf157
  v232 := Tryd.zeroValue157
  t233 := Tryd.underlying158
  a233 := Tryd.isAgg158
  z233 := Tryd.sizeOf158
  v233 := Tryd.zeroValue158
  g15 := by kernel_rfl
  g16 := by kernel_rfl
  g17 := by kernel_rfl
  g18 := by kernel_rfl
  g19 := by kernel_rfl
  t80 := Tryd.underlying94
  a80 := Tryd.isAgg94
  z80 := Tryd.sizeOf94
  v80 := Tryd.zeroValue94
  i0 := by kernel_rfl
  i2 := by kernel_rfl
  i3 := by kernel_rfl
  i4 := by kernel_rfl
  i5 := by kernel_rfl
  i9 := by kernel_rfl
  i20 := by kernel_rfl
  i21 := by kernel_rfl
  i37 := by kernel_rfl
  i46 := by kernel_rfl
  i51 := by kernel_rfl
  i53 := by kernel_rfl
  i75 := by kernel_rfl
  i80 := by kernel_rfl
  i85 := by kernel_rfl
  i127 := by kernel_rfl
  i143 := by kernel_rfl
  i145 := by kernel_rfl
  i167 := by kernel_rfl
  i168 := by kernel_rfl
  i171 := by kernel_rfl
  i173 := by kernel_rfl
  i175 := by kernel_rfl
  i210 := by kernel_rfl
  i212 := by kernel_rfl
  i232 := by kernel_rfl
  i233 := by kernel_rfl
  m15 := by kernel_rfl
  m16 := by kernel_rfl
  m17 := by kernel_rfl
  m18 := by kernel_rfl
  m19 := by kernel_rfl
  c0 := by kernel_rfl
  c2 := by kernel_rfl
  c3 := by kernel_rfl
  c4 := by kernel_rfl
  c5 := by kernel_rfl
  c9 := by kernel_rfl
  c20 := by kernel_rfl
  c21 := by kernel_rfl
  c37 := by kernel_rfl
  c46 := by kernel_rfl
  c51 := by kernel_rfl
  c53 := by kernel_rfl
  c75 := by kernel_rfl
  c80 := by kernel_rfl
  c85 := by kernel_rfl
  c127 := by kernel_rfl
  c143 := by kernel_rfl
  c145 := by kernel_rfl
  c167 := by kernel_rfl
  c168 := by kernel_rfl
  c171 := by kernel_rfl
  c173 := by kernel_rfl
  c175 := by kernel_rfl
  c210 := by kernel_rfl
  c212 := by kernel_rfl
  c213 := by kernel_rfl
  c232 := by kernel_rfl
  c233 := by kernel_rfl }
theorem Tryd.parseInt_ok (s : ByteArray) (hmax : s.size ≤ 9223372036854775806) (v : Int) (h : Lib.parseIntB 64 s.data.toList = .ok v) (w : World) :
    Calls Tryd.prog 90 #[.string s, .int .i64 10, .int .i64 64] w fun e w' => e = .returned (.tuple #[.int .i64 v, .nilIface]) ∧ (w' = w ∨ ∃ t, w' = Lib.bytesWorld w (Tryd.laysC174_ren.t 5) t) := Any.strconv_ParseInt_10_at64_ok Tryd.laysC174 s hmax v h w
theorem Tryd.parseInt_syntax (s : ByteArray) (hlim : s.size ≤ 281474976710656) (h : Lib.parseIntB 64 s.data.toList = .«syntax») (tp : TypeId) (p : Value) (w : World) (hvar : w.var? Tryd.prog "strconv.ErrSyntax" = some #[.iface tp p]) :
    Calls Tryd.prog 90 #[.string s, .int .i64 10, .int .i64 64] w fun e w' => ∃ N, e = .returned (.tuple #[.int .i64 0, .iface (Tryd.laysC174_ren.t 168) (.pointer (some ⟨N, 0, none⟩))]) ∧ w.heap.size ≤ N ∧ w'.heap[N]? = some (.cells #[.string ⟨#[80, 97, 114, 115, 101, 73, 110, 116]⟩, .string s, .iface tp p] (Tryd.laysC174_ren.t 210) (0, 0)) ∧ Go.RowKit.Below w.heap.size w w' := Any.strconv_ParseInt_10_at64_syntax_var Tryd.laysC174 s hlim h tp p w hvar
theorem Tryd.parseInt_range (s : ByteArray) (hlim : s.size ≤ 281474976710656) (h : Lib.parseIntB 64 s.data.toList = .range) (tp : TypeId) (p : Value) (w : World) (hvar : w.var? Tryd.prog "strconv.ErrRange" = some #[.iface tp p]) :
    Calls Tryd.prog 90 #[.string s, .int .i64 10, .int .i64 64] w fun e w' => ∃ N, e = .returned (.tuple #[.int .i64 (Lib.intSat 64 s.data.toList), .iface (Tryd.laysC174_ren.t 168) (.pointer (some ⟨N, 0, none⟩))]) ∧ w.heap.size ≤ N ∧ w'.heap[N]? = some (.cells #[.string ⟨#[80, 97, 114, 115, 101, 73, 110, 116]⟩, .string s, .iface tp p] (Tryd.laysC174_ren.t 210) (0, 0)) ∧ Go.RowKit.Below w.heap.size w w' := Any.strconv_ParseInt_10_at64_range_var Tryd.laysC174 s hlim h tp p w hvar
end Go.Proofs
namespace Go.Proofs.YtenpjkcclmmlhaaDoor
open Go.AS Go.RowKit
set_option linter.unusedVariables false
set_option linter.unusedSimpArgs false
set_option maxRecDepth 100000
namespace Seat
theorem okN {b c : Bool} {l : Ob} (h : b = c) (t : okO l) : okO ((b, c) :: l) := fun p hp => by
  rcases List.mem_cons.1 hp with rfl | hp
  · exact h
  · exact t p hp
abbrev mkS (l : List UInt8) : ByteArray := ⟨⟨l⟩⟩
theorem mkS_append (a b : List UInt8) : mkS a ++ mkS b = mkS (a ++ b) := by
  apply ByteArray.ext
  simp
theorem mkS_size (a : List UInt8) : (mkS a).size = a.length := rfl
theorem below_grown {w : World} (k : Nat) (os : Array Obj) : Below w.heap.size w (Go.Sort.grow (w.drewN k) os) :=
  (Below.refl _ w |> fun h => below_drewN h k).trans ⟨rfl, rfl, rfl, by simp [Go.Sort.grow], fun k' hk => by
    simp only [Go.Sort.grow]
    rw [Array.getElem?_append_left (by simpa using hk)]⟩
theorem formatInt (n : Int) (h0 : -9223372036854775808 ≤ n) (h1 : n ≤ 9223372036854775807) : Pure G0 85 [.int .i64 n, .int .i64 10] (fun r => r = .str (mkS (Go.Lib.itoa n))) := Pure.of_str fun E w vs hh hv => by
  obtain ⟨v, us, rfl, hv1, hus⟩ := hv.cons_inv
  obtain ⟨u, us2, rfl, hv2, hus2⟩ := hus.cons_inv
  obtain rfl := hus2.nil_inv
  obtain rfl := hv1.int_inv
  obtain rfl := hv2.int_inv
  have hg := hh.gl 1 g1 rfl
  have ht : g1 = Go.Lib.pow10Tab.map (PV.int .u64) := by kernel_rfl
  rw [ht] at hg
  refine (Tryd.strconv_FormatInt_10 n h0 h1 w (GRep.tab (by kernel_rfl) hg)).mono ?_
  rintro e w' ⟨rfl, k, os, rfl⟩
  exact ⟨rfl, below_grown k os⟩
end Seat
end Go.Proofs.YtenpjkcclmmlhaaDoor
namespace Go.Proofs.YtenpjkcclmmlhaaDoor
open Go.AS Go.RowKit
set_option linter.unusedVariables false
set_option linter.unusedSimpArgs false
set_option maxRecDepth 100000
set_option maxHeartbeats 4000000
namespace Seat
theorem wrapI (a : Nat) (h : a ≤ 9223372036854775807) : IntKind.wrap IntKind.i64 (Int.ofNat a) = (a : Int) := by
  show IntKind.wrap IntKind.i64 (a : Int) = _
  rw [IntKind.wrap_i64]; omega
theorem sameB {x y : Bool} (h : x = y) : same (.bool x) (.bool y) = true := same_of (congrArg PV.bool h)
theorem beqT {x y : Int} (h : x = y) : (x == y) = true := by rw [beq_iff_eq]; exact h
theorem beqF {x y : Int} (h : ¬ x = y) : (x == y) = false := by rw [beq_eq_false_iff_ne]; exact h
end Seat
end Go.Proofs.YtenpjkcclmmlhaaDoor
namespace Go.Proofs.YtenpjkcclmmlhaaDoor
open Go.AS Go.RowKit
set_option linter.unusedVariables false
set_option linter.unusedSimpArgs false
set_option maxRecDepth 100000
namespace Seat
theorem Pure.of_lib {G : Prg} {f : FuncId} {args : List PV} {r : PV} (h : ∀ E w vs, HRep G.Γ E w ⟨[], []⟩ → VReps E w args vs → Calls G.P f vs.toArray w fun e w' => (∃ v, e = .returned v ∧ IRep E.im w' r v) ∧ Below w.heap.size w w') : Pure G f args (fun x => x = r) := fun E w vs hh hv =>
  (h E w vs hh hv).mono fun e w' ⟨⟨v, he, hi⟩, hb⟩ => ⟨.ret r, [], E, ⟨rfl, _, rfl, rfl⟩, ⟨_, he, .imm hi⟩, hh.grow hb.size hb.block, ⟨hb.size, hb.os, hb.tape, hb.output, fun k hk _ => hb.block k hk, Nat.zero_le _, fun i hi => absurd hi (Nat.not_lt_zero _), fun _ h => h, fun _ h => .inl h, fun i _ hj => by
    have := hh.nb
    simp only [List.length_nil] at this
    omega⟩⟩
theorem indexByteP (t : ByteArray) : Pure G0 71 [.str t, .int .u8 10] (fun r => r = .int .i64 (Go.Lib.indexByte t.data.toList 10)) := Pure.of_lib fun E w vs hh hv => by
  obtain ⟨v, us, rfl, hv1, hus⟩ := hv.cons_inv
  obtain ⟨u, us2, rfl, hv2, hus2⟩ := hus.cons_inv
  obtain rfl := hus2.nil_inv
  obtain rfl := hv1.str_inv
  obtain rfl := hv2.int_inv
  refine (Tryd.strings_IndexByte t 10 w).mono ?_
  rintro e w' ⟨rfl, rfl⟩
  exact ⟨⟨_, rfl, .int _ _⟩, .refl _ _⟩
def TE : TypeId := Tryd.laysC174_ren.t 168
def parOk (l : List UInt8) (v : Int) : Bool := decide (Go.Lib.parseIntB 64 l = .ok v)
def parErr (l : List UInt8) (v : Int) : Bool := decide ((Go.Lib.parseIntB 64 l = Go.Lib.NumEnd.syntax ∧ v = 0) ∨ (Go.Lib.parseIntB 64 l = .range ∧ v = Go.Lib.intSat 64 l))
theorem errVar {E : Env} {w : World} {H : Hp} (hh : HRep G0.Γ E w H) {name : String} {g u : Nat} (hg : Tryd.prog.globalNamed name = some g) (hΓ : Γ0 g = some [.iface u (.epos [])]) : ∃ p, w.var? Tryd.prog name = some #[.iface u p] := by
  obtain ⟨hr, _, vs, ty, fz, hb, hsz⟩ := hh.gl g _ hΓ
  cases hr with
  | @epos _ _ us hl hbk hc hrr =>
    cases us with
    | nil => simp at hl
    | cons x us =>
      cases us with
      | cons y us => simp at hl
      | nil =>
        have hx := hrr 0 _ x rfl rfl
        cases hx with
        | iface _ hp =>
          rename_i q
          have h1 := hc 0 _ rfl
          rw [cell_of_blk (vs := vs.toList) (by simpa using hb)] at h1
          refine ⟨q, ?_⟩
          simp only [World.var?, hg, Option.bind_some, hb]
          congr 1
          apply Array.ext'
          apply List.ext_getElem?
          intro j
          cases j with
          | zero => simpa using h1
          | succ j => rw [List.getElem?_eq_none (by simp at hsz; simp [hsz]), List.getElem?_eq_none (by simp)]
theorem parseOkP (s : ByteArray) (hs : s.size ≤ 1099511627776) (v : Int) (h : parOk s.data.toList v = true) : Pure G0 90 [.str s, .int .i64 10, .int .i64 64] (fun r => r = .tup [.int .i64 v, .niliface]) := Pure.of_lib fun E w vs hh hv => by
  obtain ⟨x, us, rfl, hv1, hus⟩ := hv.cons_inv
  obtain ⟨y, us2, rfl, hv2, hus2⟩ := hus.cons_inv
  obtain ⟨z, us3, rfl, hv3, hus3⟩ := hus2.cons_inv
  obtain rfl := hus3.nil_inv
  obtain rfl := hv1.str_inv
  obtain rfl := hv2.int_inv
  obtain rfl := hv3.int_inv
  refine (Tryd.parseInt_ok s (by omega) v (of_decide_eq_true h) w).mono ?_
  rintro e w' ⟨rfl, hw⟩
  refine ⟨⟨_, rfl, .tup (vs := [.int .i64 v, .nilIface]) rfl fun j x v' hx hv' => ?_⟩, ?_⟩
  · match j with
    | 0 => simp at hx hv'; subst hx; subst hv'; exact .int _ _
    | 1 => simp at hx hv'; subst hx; subst hv'; exact .niliface
    | j + 2 => simp at hx
  · rcases hw with rfl | ⟨t, rfl⟩
    · exact .refl _ _
    · exact Go.Lib.bytesWorld_below _ _ _
theorem parseErrP (s : ByteArray) (hs : s.size ≤ 1099511627776) (v : Int) (h : parErr s.data.toList v = true) : Pure G0 90 [.str s, .int .i64 10, .int .i64 64] (fun r => r = .tup [.int .i64 v, .iface TE (.epos [])]) := Pure.of_lib fun E w vs hh hv => by
  obtain ⟨x, us, rfl, hv1, hus⟩ := hv.cons_inv
  obtain ⟨y, us2, rfl, hv2, hus2⟩ := hus.cons_inv
  obtain ⟨z, us3, rfl, hv3, hus3⟩ := hus2.cons_inv
  obtain rfl := hus3.nil_inv
  obtain rfl := hv1.str_inv
  obtain rfl := hv2.int_inv
  obtain rfl := hv3.int_inv
  have out : ∀ (N : Nat) (w' : World), Below w.heap.size w w' → (∃ u, (Ending.returned (.tuple #[.int .i64 v, .iface TE (.pointer (some ⟨N, 0, none⟩))])) = .returned u ∧ IRep E.im w' (.tup [.int .i64 v, .iface TE (.epos [])]) u) ∧ Below w.heap.size w w' := fun N w' hb =>
    ⟨⟨_, rfl, .tup (vs := [.int .i64 v, .iface TE (.pointer (some ⟨N, 0, none⟩))]) rfl fun j x v' hx hv' => by
      match j with
      | 0 => simp at hx hv'; subst hx; subst hv'; exact .int _ _
      | 1 => simp at hx hv'; subst hx; subst hv'; exact .iface _ (.epos (vs := []) rfl (fun h => absurd h (by simp)) (fun j v h => by simp at h) (fun j x v h => by simp at h))
      | j + 2 => simp at hx⟩, hb⟩
  rcases of_decide_eq_true h with ⟨h1, rfl⟩ | ⟨h1, rfl⟩
  · obtain ⟨p, hp⟩ := errVar hh (name := "strconv.ErrSyntax") (g := 2) (by kernel_rfl) rfl
    refine (Tryd.parseInt_syntax s (by omega) h1 _ p w hp).mono ?_
    rintro e w' ⟨N, rfl, _, _, hb⟩
    exact out N w' hb
  · obtain ⟨p, hp⟩ := errVar hh (name := "strconv.ErrRange") (g := 3) (by kernel_rfl) rfl
    refine (Tryd.parseInt_range s (by omega) h1 _ p w hp).mono ?_
    rintro e w' ⟨N, rfl, _, _, hb⟩
    exact out N w' hb
end Seat
end Go.Proofs.YtenpjkcclmmlhaaDoor
namespace Go.Proofs.YtenpjkcclmmlhaaDoor
open Go.AS Go.RowKit
set_option linter.unusedVariables false
set_option linter.unusedSimpArgs false
set_option maxRecDepth 100000
set_option maxHeartbeats 4000000
namespace Seat
def rP (s : ByteArray) (a : Nat) : Box := ⟨[.str s, .int .i64 a], 87⟩
def ixB (t : ByteArray) : Int := Go.Lib.indexByte t.data.toList 10
def ixS (f : Nat) (args : List PV) : Option (PV × Ob) := match f, args with
  | 71, [.str t, .int .u8 10] => some (.int .i64 (ixB t), [])
  | _, _ => none
theorem ixS_ok (f : Nat) (args : List PV) (r : PV) (o : Ob) (h : ixS f args = some (r, o)) (ho : ∀ p ∈ o, p.1 = p.2) (_ : pureL args = true) : Pure G0 f args (fun x => x = r) := by
  unfold ixS at h
  split at h
  · cases h
    exact indexByteP _
  · cases h
noncomputable def SPk (l : List (Nat × List (Nat × Bool))) (v : List (Nat × List (Nat × PV))) : Cfg G0 := { F := F, hF := hF, S := ixS, hS := ixS_ok, orc := orcM l, val := valM v }
theorem idx_drop (s : ByteArray) : ∀ k x, s.size - x ≤ k → Go.Lib.indexByte (s.data.toList.drop x) 10 = if remE s x < s.size then ((remE s x - x : Nat) : Int) else -1 := by
  have hlen : s.data.toList.length = s.size := Array.length_toList
  intro k
  induction k with
  | zero =>
    intro x h
    have hr : remE s x = x := by rw [remE_eq, if_neg (fun g => absurd g.1 (by omega))]
    rw [List.drop_of_length_le (by omega), hr, if_neg (by omega)]
    rfl
  | succ k ih =>
    intro x h
    rcases Nat.lt_or_ge x s.size with hx | hx
    · rw [List.drop_eq_getElem_cons (by omega), Go.Lib.indexByte, ih (x + 1) (by omega)]
      have hb : bt s (x : Int) = ((s.data.toList[x]'(by omega)).toNat : Int) := by
        unfold bt
        rw [dif_pos (by rw [Int.toNat_natCast]; exact hx)]
        rfl
      have hge := remE_ge s (x + 1)
      by_cases h10 : s.data.toList[x]'(by omega) = 10
      · have hr : remE s x = x := by rw [remE_eq, if_neg (fun g => g.2 (by rw [hb, h10]; rfl))]
        rw [hr, h10, if_pos (by decide), if_pos hx, Nat.sub_self]; rfl
      · have hr : remE s x = remE s (x + 1) := by
          rw [remE_eq s x, if_pos ⟨hx, fun g => h10 (by
            rw [hb] at g
            have : (s.data.toList[x]'(by omega)).toNat = 10 := by omega
            exact UInt8.toNat_inj.1 this)⟩]
        rw [hr, if_neg (by simpa using h10)]
        by_cases hq : remE s (x + 1) < s.size
        · rw [if_pos hq, if_pos hq, if_neg (by simp <;> omega)]; omega
        · rw [if_neg hq, if_neg hq]; rfl
    · have hr : remE s x = x := by rw [remE_eq, if_neg (fun g => absurd g.1 (by omega))]
      rw [List.drop_of_length_le (by omega), hr, if_neg (by omega)]
      rfl
theorem ixB_at (s : ByteArray) (x : Nat) (h : x ≤ s.size) : ixB (s.extract x s.size) = if remE s x < s.size then ((remE s x - x : Nat) : Int) else -1 := by
  unfold ixB
  rw [Go.Lib.extract_to_end]
  exact idx_drop s _ x (Nat.le_refl _)
theorem skipP_ok (s : ByteArray) (hs : s.size ≤ 1099511627776) (a : Nat) : PCalls G0 69 [.ptr 0 0] [rP s a] (fun o b' => o = .ret (.tup []) ∧ b' = [rP s (skp s a)]) := by
  refine Fn.enterN Tryd.func69 Tryd.ntmps69 rfl (Nat.le_of_ble_eq_true rfl) fun C fr fp hnt hp hfr hfp => ?_
  have fin : ∀ st x, skp s x = x → skp s x = skp s a → nrm [] st = ⟨[], ⟨[rP s x], []⟩⟩ → fr st := fun st x h1 h2 hst => hfr st [] (by
    rw [hst, ← h2.symm.trans h1]
    exact ⟨1, .tup [], Nat.le_refl _, Nat.le_refl _, rfl, rfl, rfl, rfl, rfl⟩)
  let T (x : Nat) : AS := ⟨[(0, .ptr 0 0)], ⟨[rP s x], []⟩⟩
  refine Q.block ?_
  refine Q.loopI (σ := { x : Nat // skp s x = skp s a }) [0] (fun x => T x.1) (fun x => s.size - x.1) ⟨a, rfl⟩ rfl fun ⟨x, hk⟩ => ?_
  show SWP G0 C _ _ ⟨[(0, .ptr 0 0)], ⟨[rP s x], []⟩⟩
  rcases Nat.lt_or_ge x s.size with hlt | hge
  · have d1 := lt_at hlt
    have d2 := in_at hlt
    have wi : IntKind.wrap IntKind.i64 (Int.ofNat (x + 1)) = ((x + 1 : Nat) : Int) := wrapI (x + 1) (by omega)
    have sk := skp_eq s x
    rw [if_pos hlt] at sk
    have bl : blank (bt s (x : Int)) = true → ∀ st, nrm [0] st = ⟨[(0, .ptr 0 0)], ⟨[⟨[.str s, .int .i64 (IntKind.wrap IntKind.i64 (Int.ofNat (x + 1)))], 87⟩], []⟩⟩ → ∃ y : { x : Nat // skp s x = skp s a }, s.size - y.1 < s.size - x ∧ nrm [0] st = T y.1 := fun hb st hst =>
      ⟨⟨x + 1, by rw [← hk, sk, if_pos hb]⟩, Nat.sub_lt_sub_left hlt (Nat.lt_succ_self x), by rw [hst, wi]; rfl⟩
    by_cases c32 : bt s (x : Int) = 32
    · have e1 := beqT c32
      exact SWP.runQ (SPk [(66, [(12, true), (21, true), (23, true)])] []) 100 66 hnt [0] (e := .normal) (z := ⟨[(0, .ptr 0 0)], ⟨[⟨[.str s, .int .i64 (IntKind.wrap IntKind.i64 (Int.ofNat (x + 1)))], 87⟩], []⟩⟩) (o := [(decide ((↑x : Int) < (↑(ByteArray.size s) : Int)), true), (decide (0 ≤ (↑x : Int) ∧ (↑x : Int) < (↑(ByteArray.size s) : Int)), true), (bt s (Int.ofNat x) == (32 : Int), true)]) (by kernel_rfl) (by ((repeat' (first | exact okO_nil | refine okN ?_ ?_)); all_goals first | assumption | rfl | exact same_of rfl | exact sameS_self _ | (simp only [decide_eq_true_eq, decide_eq_false_iff_not, Nat.ble_eq, Nat.beq_eq, beq_eq_false_iff_ne, beq_iff_eq, ne_eq] <;> omega))) (bl (by rw [c32]; rfl))
    have e1 := beqF c32
    by_cases c9 : bt s (x : Int) = 9
    · have e2 := beqT c9
      exact SWP.runQ (SPk [(66, [(12, true), (21, true), (23, false), (24, true)])] []) 100 66 hnt [0] (e := .normal) (z := ⟨[(0, .ptr 0 0)], ⟨[⟨[.str s, .int .i64 (IntKind.wrap IntKind.i64 (Int.ofNat (x + 1)))], 87⟩], []⟩⟩) (o := [(decide ((↑x : Int) < (↑(ByteArray.size s) : Int)), true), (decide (0 ≤ (↑x : Int) ∧ (↑x : Int) < (↑(ByteArray.size s) : Int)), true), (bt s (Int.ofNat x) == (32 : Int), false), (bt s (Int.ofNat x) == (9 : Int), true)]) (by kernel_rfl) (by ((repeat' (first | exact okO_nil | refine okN ?_ ?_)); all_goals first | assumption | rfl | exact same_of rfl | exact sameS_self _ | (simp only [decide_eq_true_eq, decide_eq_false_iff_not, Nat.ble_eq, Nat.beq_eq, beq_eq_false_iff_ne, beq_iff_eq, ne_eq] <;> omega))) (bl (by rw [c9]; rfl))
    have e2 := beqF c9
    by_cases c10 : bt s (x : Int) = 10
    · have e3 := beqT c10
      exact SWP.runQ (SPk [(66, [(12, true), (21, true), (23, false), (24, false), (25, true)])] []) 100 66 hnt [0] (e := .normal) (z := ⟨[(0, .ptr 0 0)], ⟨[⟨[.str s, .int .i64 (IntKind.wrap IntKind.i64 (Int.ofNat (x + 1)))], 87⟩], []⟩⟩) (o := [(decide ((↑x : Int) < (↑(ByteArray.size s) : Int)), true), (decide (0 ≤ (↑x : Int) ∧ (↑x : Int) < (↑(ByteArray.size s) : Int)), true), (bt s (Int.ofNat x) == (32 : Int), false), (bt s (Int.ofNat x) == (9 : Int), false), (bt s (Int.ofNat x) == (10 : Int), true)]) (by kernel_rfl) (by ((repeat' (first | exact okO_nil | refine okN ?_ ?_)); all_goals first | assumption | rfl | exact same_of rfl | exact sameS_self _ | (simp only [decide_eq_true_eq, decide_eq_false_iff_not, Nat.ble_eq, Nat.beq_eq, beq_eq_false_iff_ne, beq_iff_eq, ne_eq] <;> omega))) (bl (by rw [c10]; rfl))
    have e3 := beqF c10
    by_cases c13 : bt s (x : Int) = 13
    · have e4 := beqT c13
      exact SWP.runQ (SPk [(66, [(12, true), (21, true), (23, false), (24, false), (25, false), (26, true)])] []) 100 66 hnt [0] (e := .normal) (z := ⟨[(0, .ptr 0 0)], ⟨[⟨[.str s, .int .i64 (IntKind.wrap IntKind.i64 (Int.ofNat (x + 1)))], 87⟩], []⟩⟩) (o := [(decide ((↑x : Int) < (↑(ByteArray.size s) : Int)), true), (decide (0 ≤ (↑x : Int) ∧ (↑x : Int) < (↑(ByteArray.size s) : Int)), true), (bt s (Int.ofNat x) == (32 : Int), false), (bt s (Int.ofNat x) == (9 : Int), false), (bt s (Int.ofNat x) == (10 : Int), false), (bt s (Int.ofNat x) == (13 : Int), true)]) (by kernel_rfl) (by ((repeat' (first | exact okO_nil | refine okN ?_ ?_)); all_goals first | assumption | rfl | exact same_of rfl | exact sameS_self _ | (simp only [decide_eq_true_eq, decide_eq_false_iff_not, Nat.ble_eq, Nat.beq_eq, beq_eq_false_iff_ne, beq_iff_eq, ne_eq] <;> omega))) (bl (by rw [c13]; rfl))
    have e4 := beqF c13
    have nb : ¬ blank (bt s (x : Int)) = true := by simp [blank, c32, c9, c10, c13]
    rw [if_neg nb] at sk
    by_cases c59 : bt s (x : Int) = 59
    · have e5 := beqT c59
      rw [if_pos c59] at sk
      have hx : ixB (ByteArray.extract s (Int.toNat (x : Int)) (Int.toNat (s.size : Int))) = _ := ixB_at s x (Nat.le_of_lt hlt)
      have hg := remE_59 hlt c59
      have hl := remE_le s x (Nat.le_of_lt hlt)
      have out : ∀ st, nrm [0] st = T (remE s x) → ∃ z : { x : Nat // skp s x = skp s a }, s.size - z.1 < s.size - x ∧ nrm [0] st = T z.1 := fun st hst => ⟨⟨remE s x, by rw [← hk, sk]⟩, by show s.size - remE s x < _; omega, hst⟩
      by_cases hr : remE s x < s.size
      · rw [if_pos hr] at hx
        have d3 : decide (ixB (ByteArray.extract s (Int.toNat (x : Int)) (Int.toNat (s.size : Int))) < 0) = false := by rw [hx]; exact decide_eq_false (by omega)
        have w2 : IntKind.wrap IntKind.i64 (Int.ofNat x + ixB (ByteArray.extract s (Int.toNat (x : Int)) (Int.toNat (s.size : Int)))) = (remE s x : Int) := by
          rw [hx, IntKind.wrap_i64, Int.ofNat_eq_natCast]; omega
        exact SWP.runQ (SPk [(66, [(12, true), (21, true), (23, false), (24, false), (25, false), (26, false), (35, true), (44, true), (47, false)])] []) 100 66 hnt [0] (e := .normal) (z := ⟨[(0, .ptr 0 0)], ⟨[⟨[.str s, .int .i64 (IntKind.wrap IntKind.i64 (Int.ofNat x + Lib.indexByte (Array.toList (ByteArray.data (ByteArray.extract s (Int.toNat (↑x : Int)) (Int.toNat (↑(ByteArray.size s) : Int))))) 10))], 87⟩], []⟩⟩) (o := [(decide ((↑x : Int) < (↑(ByteArray.size s) : Int)), true), (decide (0 ≤ (↑x : Int) ∧ (↑x : Int) < (↑(ByteArray.size s) : Int)), true), (bt s (Int.ofNat x) == (32 : Int), false), (bt s (Int.ofNat x) == (9 : Int), false), (bt s (Int.ofNat x) == (10 : Int), false), (bt s (Int.ofNat x) == (13 : Int), false), (bt s (Int.ofNat x) == (59 : Int), true), (decide (0 ≤ (↑x : Int) ∧ (↑x : Int) ≤ (↑(ByteArray.size s) : Int) ∧ (↑(ByteArray.size s) : Int) ≤ (↑(ByteArray.size s) : Int)), true), (true, true), (decide (ixB (ByteArray.extract s (Int.toNat (↑x : Int)) (Int.toNat (↑(ByteArray.size s) : Int))) < 0), false), (false, false)]) (by kernel_rfl) (by ((repeat' (first | exact okO_nil | refine okN ?_ ?_)); all_goals first | assumption | rfl | exact same_of rfl | exact sameS_self _ | (simp only [decide_eq_true_eq, decide_eq_false_iff_not, Nat.ble_eq, Nat.beq_eq, beq_eq_false_iff_ne, beq_iff_eq, ne_eq] <;> omega))) (fun st hst => out st (by rw [hst]; exact congrArg (fun z => (⟨[(0, PV.ptr 0 0)], ⟨[⟨[.str s, .int .i64 z], 87⟩], []⟩⟩ : AS)) w2))
      · rw [if_neg hr] at hx
        have d3 : decide (ixB (ByteArray.extract s (Int.toNat (x : Int)) (Int.toNat (s.size : Int))) < 0) = true := by rw [hx]; rfl
        have w2 : IntKind.wrap IntKind.i64 (Int.ofNat x + IntKind.wrap IntKind.i64 (Int.ofNat s.size - Int.ofNat x)) = (remE s x : Int) := by
          rw [IntKind.wrap_i64, IntKind.wrap_i64, Int.ofNat_eq_natCast, Int.ofNat_eq_natCast]; omega
        exact SWP.runQ (SPk [(66, [(12, true), (21, true), (23, false), (24, false), (25, false), (26, false), (35, true), (44, true), (47, true)])] []) 100 66 hnt [0] (e := .normal) (z := ⟨[(0, .ptr 0 0)], ⟨[⟨[.str s, .int .i64 (IntKind.wrap IntKind.i64 (Int.ofNat x + IntKind.wrap IntKind.i64 (Int.ofNat (ByteArray.size s) - Int.ofNat x)))], 87⟩], []⟩⟩) (o := [(decide ((↑x : Int) < (↑(ByteArray.size s) : Int)), true), (decide (0 ≤ (↑x : Int) ∧ (↑x : Int) < (↑(ByteArray.size s) : Int)), true), (bt s (Int.ofNat x) == (32 : Int), false), (bt s (Int.ofNat x) == (9 : Int), false), (bt s (Int.ofNat x) == (10 : Int), false), (bt s (Int.ofNat x) == (13 : Int), false), (bt s (Int.ofNat x) == (59 : Int), true), (decide (0 ≤ (↑x : Int) ∧ (↑x : Int) ≤ (↑(ByteArray.size s) : Int) ∧ (↑(ByteArray.size s) : Int) ≤ (↑(ByteArray.size s) : Int)), true), (true, true), (decide (ixB (ByteArray.extract s (Int.toNat (↑x : Int)) (Int.toNat (↑(ByteArray.size s) : Int))) < 0), true), (true, true)]) (by kernel_rfl) (by ((repeat' (first | exact okO_nil | refine okN ?_ ?_)); all_goals first | assumption | rfl | exact same_of rfl | exact sameS_self _ | (simp only [decide_eq_true_eq, decide_eq_false_iff_not, Nat.ble_eq, Nat.beq_eq, beq_eq_false_iff_ne, beq_iff_eq, ne_eq] <;> omega))) (fun st hst => out st (by rw [hst]; exact congrArg (fun z => (⟨[(0, PV.ptr 0 0)], ⟨[⟨[.str s, .int .i64 z], 87⟩], []⟩⟩ : AS)) w2))
    · have e5 := beqF c59
      rw [if_neg c59] at sk
      exact SWP.runQ (SPk [(66, [(12, true), (21, true), (23, false), (24, false), (25, false), (26, false), (35, false)])] []) 100 66 hnt [] (e := .ret) (z := ⟨[], ⟨[⟨[.str s, .int .i64 (Int.ofNat x)], 87⟩], []⟩⟩) (o := [(decide ((↑x : Int) < (↑(ByteArray.size s) : Int)), true), (decide (0 ≤ (↑x : Int) ∧ (↑x : Int) < (↑(ByteArray.size s) : Int)), true), (bt s (Int.ofNat x) == (32 : Int), false), (bt s (Int.ofNat x) == (9 : Int), false), (bt s (Int.ofNat x) == (10 : Int), false), (bt s (Int.ofNat x) == (13 : Int), false), (bt s (Int.ofNat x) == (59 : Int), false)]) (by kernel_rfl) (by ((repeat' (first | exact okO_nil | refine okN ?_ ?_)); all_goals first | assumption | rfl | exact same_of rfl | exact sameS_self _ | (simp only [decide_eq_true_eq, decide_eq_false_iff_not, Nat.ble_eq, Nat.beq_eq, beq_eq_false_iff_ne, beq_iff_eq, ne_eq] <;> omega))) (fun st hst => fin st x sk hk hst)
  · have d1 := ge_at hge
    exact SWP.runQ (SPk [(66, [(12, false)])] []) 100 66 hnt [] (e := .exit 0) (z := ⟨[], ⟨[⟨[.str s, .int .i64 (Int.ofNat x)], 87⟩], []⟩⟩) (o := [(decide ((↑x : Int) < (↑(ByteArray.size s) : Int)), false)]) (by kernel_rfl) (by ((repeat' (first | exact okO_nil | refine okN ?_ ?_)); all_goals first | assumption | rfl | exact same_of rfl | exact sameS_self _ | (simp only [decide_eq_true_eq, decide_eq_false_iff_not, Nat.ble_eq, Nat.beq_eq, beq_eq_false_iff_ne, beq_iff_eq, ne_eq] <;> omega))) (fun st hst => fin st x (skp_out s x hge) hk hst)
end Seat
end Go.Proofs.YtenpjkcclmmlhaaDoor
namespace Go.Proofs.YtenpjkcclmmlhaaDoor
open Go.AS Go.RowKit
set_option linter.unusedVariables false
set_option linter.unusedSimpArgs false
set_option maxRecDepth 100000
set_option maxHeartbeats 4000000
namespace Seat
def skB (f : Nat) (args : List PV) (x : Box) : Option (PV × Box × Ob) := match f, args, x with
  | 69, [.ptr 0 0], ⟨[.str s, .int .i64 a], ty⟩ => match Nat.beq ty 87 with
    | true => some (.tup [], rP s (skp s a.toNat), [(decide (0 ≤ a), true), (Nat.ble s.size 1099511627776, true)])
    | false => none
  | _, _, _ => none
theorem skB_ok : ∀ f xs x r x' o, skB f xs x = some (r, x', o) → (∀ p ∈ o, p.1 = p.2) → PCalls G0 f xs [x] (fun o' b' => o' = .ret r ∧ b' = [x']) ∧ r.sc 0 = true ∧ scL 0 x.cs = true ∧ scL 0 x'.cs = true := by
  intro f args x r b o h ho
  unfold skB at h
  split at h
  · rename_i s a ty
    split at h
    · rename_i hc
      cases h
      simp only [Nat.beq_eq] at hc
      subst hc
      have h1 : 0 ≤ a := of_decide_eq_true (ho (decide (0 ≤ a), true) (by simp))
      have h2 : s.size ≤ 1099511627776 := Nat.le_of_ble_eq_true (ho (Nat.ble s.size 1099511627776, true) (by simp))
      have key := skipP_ok s h2 a.toNat
      unfold rP at key
      rw [Int.toNat_of_nonneg h1] at key
      exact ⟨key, rfl, rfl, rfl⟩
    · cases h
  · cases h
noncomputable def SPn (l : List (Nat × List (Nat × Bool))) (v : List (Nat × List (Nat × PV))) : Cfg G0 := { F := F, hF := hF, S := fun _ _ => none, hS := (fun _ _ _ _ h => by cases h), B := skB, hB := skB_ok, orc := orcM l, val := valM v }
def nxt (s : ByteArray) (a : Nat) : Int := if skp s a < s.size then bt s (skp s a : Int) else 0
theorem nextP_ok (s : ByteArray) (hs : s.size ≤ 1099511627776) (a : Nat) (ha : a ≤ s.size) : PCalls G0 50 [.ptr 0 0] [rP s a] (fun o b' => o = .ret (.int .u8 (nxt s a)) ∧ b' = [rP s (skp s a)]) := by
  refine Fn.enterN Tryd.func50 Tryd.ntmps50 rfl (Nat.le_of_ble_eq_true rfl) fun C fr fp hnt hp hfr hfp => ?_
  have hle := skp_le s a ha
  have s1 : Nat.ble s.size 1099511627776 = true := Nat.ble_eq_true_of_le hs
  rcases Nat.lt_or_ge (skp s a) s.size with hlt | hge
  · have d1 : (((skp s a : Nat) : Int) == ((s.size : Nat) : Int)) = false := beqF (by omega)
    have d2 := in_at hlt
    have e1 : nxt s a = bt s (skp s a : Int) := if_pos hlt
    exact SWP.runQ (SPn [(24, [(14, false), (23, true)])] []) 100 24 hnt [2] (e := .ret) (z := ⟨[(2, PV.int IntKind.u8 (bt s (Int.ofNat (skp s (Int.toNat (Int.ofNat a))))))], ⟨[⟨[.str s, .int .i64 (Int.ofNat (skp s (Int.toNat (Int.ofNat a))))], 87⟩], []⟩⟩) (o := [(true, true), (Nat.ble (ByteArray.size s) 1099511627776, true), (Int.ofNat (skp s (Int.toNat (Int.ofNat a))) == Int.ofNat (ByteArray.size s), false), (decide (0 ≤ (↑(skp s (Int.toNat (↑a : Int))) : Int) ∧ (↑(skp s (Int.toNat (↑a : Int))) : Int) < (↑(ByteArray.size s) : Int)), true)]) (by kernel_rfl) (by ((repeat' (first | exact okO_nil | refine okN ?_ ?_)); all_goals first | assumption | rfl | exact same_of rfl | exact sameS_self _ | (simp only [decide_eq_true_eq, decide_eq_false_iff_not, Nat.ble_eq, Nat.beq_eq, beq_eq_false_iff_ne, beq_iff_eq, ne_eq] <;> omega))) (fun st hst => hfr st [2] (by
      rw [hst, e1]
      exact ⟨1, _, Nat.le_refl _, Nat.le_refl _, rfl, rfl, rfl, rfl, rfl⟩))
  · have d1 : (((skp s a : Nat) : Int) == ((s.size : Nat) : Int)) = true := beqT (by omega)
    have e1 : nxt s a = 0 := if_neg (by omega)
    exact SWP.runQ (SPn [(24, [(14, true)])] []) 100 24 hnt [2] (e := .ret) (z := ⟨[(2, PV.int IntKind.u8 (0 : Int))], ⟨[⟨[.str s, .int .i64 (Int.ofNat (skp s (Int.toNat (Int.ofNat a))))], 87⟩], []⟩⟩) (o := [(true, true), (Nat.ble (ByteArray.size s) 1099511627776, true), (Int.ofNat (skp s (Int.toNat (Int.ofNat a))) == Int.ofNat (ByteArray.size s), true)]) (by kernel_rfl) (by ((repeat' (first | exact okO_nil | refine okN ?_ ?_)); all_goals first | assumption | rfl | exact same_of rfl | exact sameS_self _ | (simp only [decide_eq_true_eq, decide_eq_false_iff_not, Nat.ble_eq, Nat.beq_eq, beq_eq_false_iff_ne, beq_iff_eq, ne_eq] <;> omega))) (fun st hst => hfr st [2] (by
      rw [hst, e1]
      exact ⟨1, _, Nat.le_refl _, Nat.le_refl _, rfl, rfl, rfl, rfl, rfl⟩))
end Seat
end Go.Proofs.YtenpjkcclmmlhaaDoor
namespace Go.Proofs.YtenpjkcclmmlhaaDoor
open Go.AS Go.RowKit
set_option linter.unusedVariables false
set_option linter.unusedSimpArgs false
set_option maxRecDepth 100000
set_option maxHeartbeats 4000000
namespace Seat
noncomputable def noS (v : Int) (f : Nat) (args : List PV) : Option (PV × Ob) := match f, args with
  | 90, [.str s, .int .i64 10, .int .i64 64] => some (.tup [.int .i64 v, .niliface], [(parOk s.data.toList v, true), (Nat.ble s.size 1099511627776, true)])
  | 85, [.int .i64 n, .int .i64 10] => some (.str (mkS (Go.Lib.itoa n)), [(decide (-9223372036854775808 ≤ n ∧ n ≤ 9223372036854775807), true)])
  | _, _ => none
theorem noS_ok (v : Int) (f : Nat) (args : List PV) (r : PV) (o : Ob) (h : noS v f args = some (r, o)) (ho : ∀ p ∈ o, p.1 = p.2) (_ : pureL args = true) : Pure G0 f args (fun x => x = r) := by
  unfold noS at h
  split at h
  · rename_i s _
    cases h
    exact parseOkP s (Nat.le_of_ble_eq_true (ho (Nat.ble s.size 1099511627776, true) (by simp))) v (ho (parOk s.data.toList v, true) (by simp))
  · cases h
    have := of_decide_eq_true (ho _ (List.mem_singleton.2 rfl))
    exact formatInt _ this.1 this.2
  · cases h
noncomputable def neS (v : Int) (f : Nat) (args : List PV) : Option (PV × Ob) := match f, args with
  | 90, [.str s, .int .i64 10, .int .i64 64] => some (.tup [.int .i64 v, .iface TE (.epos [])], [(parErr s.data.toList v, true), (Nat.ble s.size 1099511627776, true)])
  | _, _ => none
theorem neS_ok (v : Int) (f : Nat) (args : List PV) (r : PV) (o : Ob) (h : neS v f args = some (r, o)) (ho : ∀ p ∈ o, p.1 = p.2) (_ : pureL args = true) : Pure G0 f args (fun x => x = r) := by
  unfold neS at h
  split at h
  · rename_i s _
    cases h
    exact parseErrP s (Nat.le_of_ble_eq_true (ho (Nat.ble s.size 1099511627776, true) (by simp))) v (ho (parErr s.data.toList v, true) (by simp))
  · cases h
noncomputable def SNo (x : Int) (l : List (Nat × List (Nat × Bool))) (v : List (Nat × List (Nat × PV))) : Cfg G0 := { F := F, hF := hF, S := noS x, hS := noS_ok x, orc := orcM l, val := valM v }
noncomputable def SNe (x : Int) (l : List (Nat × List (Nat × Bool))) (v : List (Nat × List (Nat × PV))) : Cfg G0 := { F := F, hF := hF, S := neS x, hS := neS_ok x, orc := orcM l, val := valM v }
def numQ (w : ByteArray) : Int × Bool := match Go.Lib.parseIntB 64 w.data.toList with
  | .ok v => (v, ByteArray.toList (mkS (Go.Lib.itoa v)) == ByteArray.toList w)
  | Go.Lib.NumEnd.syntax => (0, false)
  | .range => (Go.Lib.intSat 64 w.data.toList, false)
theorem numberP (w : ByteArray) (hw : w.size ≤ 1099511627776) : Pure G0 73 [.str w] (fun r => r = .tup [.int .i64 (numQ w).1, .bool (numQ w).2]) := by
  refine Fn.enterN Tryd.func73 Tryd.ntmps73 rfl (Nat.le_of_ble_eq_true rfl) fun C fr fp hnt hp hfr hfp => ?_
  have s1 : Nat.ble w.size 1099511627776 = true := Nat.ble_eq_true_of_le hw
  have fin : ∀ st a b, numQ w = (a, b) → nrm [2, 3] st = ⟨[(2, .int .i64 a), (3, .bool b)], ⟨[], []⟩⟩ → fr st := fun st a b h hst => hfr st [2, 3] (by
    rw [hst, h]
    exact FinR.pure rfl rfl rfl)
  rcases h : Go.Lib.parseIntB 64 w.data.toList with v | _ | _
  · skip
    have p1 : decide (Go.Lib.parseIntB 64 (Array.toList (ByteArray.data w)) = Go.Lib.NumEnd.ok v) = true := decide_eq_true h
    have hb := Go.Lib.parseIntB_bounds h
    have p2 : decide (-9223372036854775808 ≤ v ∧ v ≤ 9223372036854775807) = true := decide_eq_true (by omega)
    have hq : numQ w = (v, ByteArray.toList (mkS (Go.Lib.itoa v)) == ByteArray.toList w) := by unfold numQ; rw [h]
    cases hc : (ByteArray.toList (mkS (Go.Lib.itoa v)) == ByteArray.toList w) with
    | true =>
      rw [hc] at hq
      exact SWP.runQ (SNo v [(20, [(18, true)])] []) 100 20 hnt [2, 3] (e := .ret) (z := ⟨[(2, .int .i64 v), (3, .bool true)], ⟨[], []⟩⟩) (o := [(true, true), (decide (Lib.parseIntB 64 (Array.toList (ByteArray.data w)) = Lib.NumEnd.ok v), true), (Nat.ble (ByteArray.size w) 1099511627776, true), (true, true), (decide (-9223372036854775808 ≤ v ∧ v ≤ 9223372036854775807), true), (ByteArray.toList (mkS (Lib.itoa v)) == ByteArray.toList w, true)]) (by kernel_rfl) (by ((repeat' (first | exact okO_nil | refine okN ?_ ?_)); all_goals first | assumption | rfl | exact same_of rfl | exact sameS_self _ | (simp only [decide_eq_true_eq, decide_eq_false_iff_not, Nat.ble_eq, Nat.beq_eq, beq_eq_false_iff_ne, beq_iff_eq, ne_eq] <;> omega))) (fun st hst => fin st _ _ hq hst)
    | false =>
      rw [hc] at hq
      exact SWP.runQ (SNo v [(20, [(18, false)])] []) 100 20 hnt [2, 3] (e := .ret) (z := ⟨[(2, .int .i64 v), (3, .bool false)], ⟨[], []⟩⟩) (o := [(true, true), (decide (Lib.parseIntB 64 (Array.toList (ByteArray.data w)) = Lib.NumEnd.ok v), true), (Nat.ble (ByteArray.size w) 1099511627776, true), (true, true), (decide (-9223372036854775808 ≤ v ∧ v ≤ 9223372036854775807), true), (ByteArray.toList (mkS (Lib.itoa v)) == ByteArray.toList w, false)]) (by kernel_rfl) (by ((repeat' (first | exact okO_nil | refine okN ?_ ?_)); all_goals first | assumption | rfl | exact same_of rfl | exact sameS_self _ | (simp only [decide_eq_true_eq, decide_eq_false_iff_not, Nat.ble_eq, Nat.beq_eq, beq_eq_false_iff_ne, beq_iff_eq, ne_eq] <;> omega))) (fun st hst => fin st _ _ hq hst)
  · skip
    obtain ⟨v, hv⟩ : ∃ v : Int, v = 0 := ⟨0, rfl⟩
    have p1 : decide ((Go.Lib.parseIntB 64 (Array.toList (ByteArray.data w)) = Go.Lib.NumEnd.syntax ∧ v = 0) ∨ (Go.Lib.parseIntB 64 (Array.toList (ByteArray.data w)) = Go.Lib.NumEnd.range ∧ v = Go.Lib.intSat 64 (Array.toList (ByteArray.data w)))) = true := decide_eq_true (.inl ⟨h, hv⟩)
    have hq : numQ w = (v, false) := by unfold numQ; rw [h, hv]
    exact SWP.runQ (SNe v [] []) 100 20 hnt [2, 3] (e := .ret) (z := ⟨[(2, .int .i64 v), (3, .bool false)], ⟨[], []⟩⟩) (o := [(true, true), (decide (Lib.parseIntB 64 (Array.toList (ByteArray.data w)) = Lib.NumEnd.syntax ∧ v = 0 ∨ Lib.parseIntB 64 (Array.toList (ByteArray.data w)) = Lib.NumEnd.range ∧ v = Lib.intSat 64 (Array.toList (ByteArray.data w))), true), (Nat.ble (ByteArray.size w) 1099511627776, true)]) (by kernel_rfl) (by ((repeat' (first | exact okO_nil | refine okN ?_ ?_)); all_goals first | assumption | rfl | exact same_of rfl | exact sameS_self _ | (simp only [decide_eq_true_eq, decide_eq_false_iff_not, Nat.ble_eq, Nat.beq_eq, beq_eq_false_iff_ne, beq_iff_eq, ne_eq] <;> omega))) (fun st hst => fin st _ _ hq hst)
  · skip
    obtain ⟨v, hv⟩ : ∃ v : Int, v = Go.Lib.intSat 64 w.data.toList := ⟨_, rfl⟩
    have p1 : decide ((Go.Lib.parseIntB 64 (Array.toList (ByteArray.data w)) = Go.Lib.NumEnd.syntax ∧ v = 0) ∨ (Go.Lib.parseIntB 64 (Array.toList (ByteArray.data w)) = Go.Lib.NumEnd.range ∧ v = Go.Lib.intSat 64 (Array.toList (ByteArray.data w)))) = true := decide_eq_true (.inr ⟨h, hv⟩)
    have hq : numQ w = (v, false) := by unfold numQ; rw [h, hv]
    exact SWP.runQ (SNe v [] []) 100 20 hnt [2, 3] (e := .ret) (z := ⟨[(2, .int .i64 v), (3, .bool false)], ⟨[], []⟩⟩) (o := [(true, true), (decide (Lib.parseIntB 64 (Array.toList (ByteArray.data w)) = Lib.NumEnd.syntax ∧ v = 0 ∨ Lib.parseIntB 64 (Array.toList (ByteArray.data w)) = Lib.NumEnd.range ∧ v = Lib.intSat 64 (Array.toList (ByteArray.data w))), true), (Nat.ble (ByteArray.size w) 1099511627776, true)]) (by kernel_rfl) (by ((repeat' (first | exact okO_nil | refine okN ?_ ?_)); all_goals first | assumption | rfl | exact same_of rfl | exact sameS_self _ | (simp only [decide_eq_true_eq, decide_eq_false_iff_not, Nat.ble_eq, Nat.beq_eq, beq_eq_false_iff_ne, beq_iff_eq, ne_eq] <;> omega))) (fun st hst => fin st _ _ hq hst)
end Seat
end Go.Proofs.YtenpjkcclmmlhaaDoor
namespace Go.Proofs.YtenpjkcclmmlhaaDoor
open Go.AS Go.RowKit
set_option linter.unusedVariables false
set_option linter.unusedSimpArgs false
set_option maxRecDepth 100000
set_option maxHeartbeats 4000000
namespace Seat
def ndK : Nd → Int | .mk k _ _ _ _ => k
def ndN : Nd → Int | .mk _ n _ _ _ => n
def ndT : Nd → ByteArray | .mk _ _ t _ _ => t
def ndS : Nd → Nds | .mk _ _ _ ks _ => ks
def ndA : Nd → Int | .mk _ _ _ _ a => a
def atX (s : ByteArray) (a : Nat) : Nd := (atomR s a).1
def atA (s : ByteArray) (a : Nat) : Nat := (atomR s a).2.a
def atE (s : ByteArray) (a : Nat) : Int := (atomR s a).2.e
def atF (s : ByteArray) (a : Nat) : Int := (atomR s a).2.b
def rdX (s : ByteArray) (n a : Nat) : Nd := (rdD s n a).1
def rdA (s : ByteArray) (n a : Nat) : Nat := (rdD s n a).2.a
def rdE (s : ByteArray) (n a : Nat) : Int := (rdD s n a).2.e
def rdF (s : ByteArray) (n a : Nat) : Int := (rdD s n a).2.b
theorem swp_st {C : Ctx} {c : Code} {Q : AEx → AS → Prop} {st st' : AS} (h : st = st') (k : SWP G0 C c Q st') : SWP G0 C c Q st := h ▸ k
end Seat
end Go.Proofs.YtenpjkcclmmlhaaDoor
namespace Go.Proofs.YtenpjkcclmmlhaaDoor
open Go.AS Go.RowKit
set_option linter.unusedVariables false
set_option linter.unusedSimpArgs false
set_option maxRecDepth 100000
set_option maxHeartbeats 4000000
namespace Seat
mutual
def Nd.size : Nd → Nat
  | .mk _ _ _ ks _ => ks.size + 1
def Nds.size : Nds → Nat
  | .nil => 0
  | .cons d ds => d.size + ds.size + 1
end
mutual
def Nd.ok : Nd → Prop
  | .mk _ _ _ ks _ => ks.len ≤ 1099511627777 ∧ ks.ok
def Nds.ok : Nds → Prop
  | .nil => True
  | .cons d ds => d.ok ∧ ds.ok
end
def dZ : Box := ⟨[.int .i64 0, .int .i64 0, .str ⟨#[]⟩, .nil], 25⟩
def Nds.get : Nds → Nat → Nd
  | .nil, _ => .zero
  | .cons d _, 0 => d
  | .cons _ ds, i + 1 => ds.get i
theorem nd_mk (d : Nd) : ∃ k n t ks a, d = .mk k n t ks a := by obtain ⟨k, n, t, ks, a⟩ := d; exact ⟨k, n, t, ks, a, rfl⟩
end Seat
end Go.Proofs.YtenpjkcclmmlhaaDoor
namespace Go.Proofs.YtenpjkcclmmlhaaDoor
open Go.AS Go.RowKit
set_option linter.unusedVariables false
set_option linter.unusedSimpArgs false
set_option maxRecDepth 100000
set_option maxHeartbeats 4000000
namespace Seat
theorem PCalls.toR {G : Prg} {f : FuncId} {args : List PV} {bx : List Box} {R : Out → List Box → Prop} (h : PCalls G f args bx R) : RCalls G f args ⟨bx, []⟩ (fun o H => H.rw = [] ∧ R o H.bx) := fun E w vs hh hv =>
  (h E w vs hh hv).mono fun e w' ⟨o, bx', E', hR, ho, h', hx⟩ => by
    have hlen : E'.nb = bx'.length := h'.nb
    refine ⟨o, ⟨bx', []⟩, { E' with lo := E.lo }, ⟨rfl, hR⟩, ?_, ?_, ?_⟩
    · cases o with
      | ret r => obtain ⟨v, he, hv⟩ := ho; exact ⟨v, he, hv.move (Nat.le_refl _) (Nat.le_refl _) (fun _ _ => rfl) (fun _ _ => rfl) (fun _ h => h) (fun _ _ => rfl)⟩
      | pan r => obtain ⟨v, he, hv⟩ := ho; exact ⟨v, he, hv.move (Nat.le_refl _) (Nat.le_refl _) (fun _ _ => rfl) (fun _ _ => rfl) (fun _ h => h) (fun _ _ => rfl)⟩
    · exact ⟨h'.nb, h'.nr, Nat.le_trans hh.lo hx.sz, fun i b hb => by
        obtain ⟨us, h1, h2⟩ := h'.box i b hb
        exact ⟨us, h1, h2.move fun x v hx => hx.move (Nat.le_refl _) (Nat.le_refl _) (fun _ _ => rfl) (fun _ _ => rfl) (fun _ h => h) (fun _ _ => rfl)⟩, fun i r hr => by simp at hr, h'.inj, h'.rinj, h'.brw, h'.im_lt, h'.im_b, h'.im_r, h'.gl⟩
    · exact ⟨hx.sz, hx.os, hx.tape, hx.out, fun k h1 h2 h3 => hx.keep k h1 h2, by have := hx.more; simp only [] at this ⊢; omega, Nat.le_refl _, hx.β, hx.up, fun k hk => (hx.dn k hk).imp id .inl, fun i h1 h2 => hx.own i h1 (by simp only [] at h2; omega), fun j s k hj => by simp at hj, rfl⟩
def faultV (a e : Int) : PV := .iface 121 (.agg [.int .i64 a, .int .i64 e])
noncomputable def paS (f : Nat) (args : List PV) : Option (PV × Ob) := match f, args with
  | 51, [.int .u8 c] => some (.bool (letC c), [(decide (0 ≤ c ∧ c < 256), true)])
  | 73, [.str w] => some (.tup [.int .i64 (numQ w).1, .bool (numQ w).2], [(Nat.ble w.size 1099511627776, true)])
  | 74, [.str w] => some (.bool (symOk w), [])
  | _, _ => none
theorem paS_ok (f : Nat) (args : List PV) (r : PV) (o : Ob) (h : paS f args = some (r, o)) (ho : ∀ p ∈ o, p.1 = p.2) (_ : pureL args = true) : Pure G0 f args (fun x => x = r) := by
  unfold paS at h
  split at h
  · cases h; exact isAtom_ok _ (of_decide_eq_true (ho _ (List.mem_singleton.2 rfl)))
  · cases h; exact numberP _ (Nat.le_of_ble_eq_true (ho _ (List.mem_singleton.2 rfl)))
  · cases h; exact isSymbol_ok _
  · cases h
noncomputable def SPf (l : List (Nat × List (Nat × Bool))) (v : List (Nat × List (Nat × PV))) : Cfg G0 := { F := F, hF := hF, S := paS, hS := paS_ok, orc := orcM l, val := valM v }
theorem failP (s : ByteArray) (a : Nat) (e : Int) : PCalls G0 75 [.ptr 0 0, .int .i64 e] [rP s a] (fun o b => o = .pan (faultV a e) ∧ b = [rP s a]) := by
  refine Fn.enterN Tryd.func75 Tryd.ntmps75 rfl (Nat.le_of_ble_eq_true rfl) fun C fr fp hnt hp hfr hfp => ?_
  exact SWP.runQ (SPf [] []) 100 11 hnt [] (e := .panic (faultV a e)) (z := ⟨[], ⟨[rP s a], []⟩⟩) (o := []) (by kernel_rfl) okO_nil (fun st hst => hfp _ st (by
    have : st.h = ⟨[rP s a], []⟩ := congrArg AS.h hst
    refine ⟨1, Nat.le_refl _, by rw [this]; exact Nat.le_refl _, rfl, by rw [this]; rfl, ?_⟩
    rw [this]; exact ⟨rfl, rfl⟩))
def paP (f : Nat) (args : List PV) (H : Hp) : Option (PV × Hp × Ob) := match f, args, H with
  | 75, [.ptr 0 0, .int .i64 e], ⟨[⟨[.str s, .int .i64 a], ty⟩], []⟩ => match Nat.beq ty 87 with
    | true => some (faultV a e, ⟨[⟨[.str s, .int .i64 a], ty⟩], []⟩, [(decide (0 ≤ a), true)])
    | false => none
  | _, _, _ => none
theorem paP_ok : ∀ f xs H x H' o, paP f xs H = some (x, H', o) → (∀ p ∈ o, p.1 = p.2) → RCalls G0 f xs H (fun o' H2 => o' = .pan x ∧ H2 = H') ∧ x.scP (belowN H'.bx.length) (belowN H'.rw.length) = true ∧ H'.scB H'.bx.length H'.rw.length = true := by
  intro f xs H x H' o h ho
  unfold paP at h
  split at h
  · rename_i e s a ty
    split at h
    · rename_i hc
      cases h
      simp only [Nat.beq_eq] at hc
      subst hc
      have h1 : 0 ≤ a := of_decide_eq_true (ho _ (List.mem_singleton.2 rfl))
      have key := failP s a.toNat e
      unfold rP faultV at key
      rw [Int.toNat_of_nonneg h1] at key
      exact ⟨(PCalls.toR key).mono fun o' H2 ⟨g1, g2, g3⟩ => ⟨g2, by obtain ⟨b, r⟩ := H2; simp only [] at g1 g3; rw [g1, g3]⟩, rfl, rfl⟩
    · cases h
  · cases h
noncomputable def SPa (l : List (Nat × List (Nat × Bool))) (v : List (Nat × List (Nat × PV))) : Cfg G0 := { F := F, hF := hF, S := paS, hS := paS_ok, orc := orcM l, val := valM v, pn := fun f => Nat.beq f 75, P := paP, hP := paP_ok }
def atQ (w : ByteArray) : Option (List PV) := if (numQ w).2 = true then some [.int .i64 1, .int .i64 (numQ w).1, .str ⟨#[]⟩, .nil] else if symOk w = true then some [.int .i64 2, .int .i64 0, .str w, .nil] else none
theorem atomP (s : ByteArray) (hs : s.size ≤ 1099511627776) (a : Nat) (ha : a ≤ s.size) : PCalls G0 54 [.ptr 0 0] [rP s a] (fun o b => (∃ cs, atQ (s.extract a (letE s a)) = some cs ∧ o = .ret (.agg cs) ∧ b = [rP s (letE s a)]) ∨ (atQ (s.extract a (letE s a)) = none ∧ o = .pan (faultV a 4) ∧ b = [rP s a])) := by
  obtain ⟨w, hw⟩ : ∃ w, w = s.extract a (letE s a) := ⟨_, rfl⟩
  rw [← hw]
  refine Fn.enterN Tryd.func54 Tryd.ntmps54 rfl (Nat.le_of_ble_eq_true rfl) fun C fr fp hnt hp hfr hfp => ?_
  have h1 := letE_ge s a
  have h2 := letE_le s a ha
  refine Q.runSeq (SPa [] []) 100 77 hnt [0, 2] (z := ⟨[(0, .ptr 0 0), (2, .ptr 1 0)], ⟨[⟨[.str s, .int .i64 (Int.ofNat a)], 87⟩, ⟨[.int .i64 (0 : Int), .int .i64 (0 : Int), .str ⟨#[]⟩, PV.nil], 25⟩], []⟩⟩) (o := []) (by kernel_rfl) (by ((repeat' (first | exact okO_nil | refine okN ?_ ?_)); all_goals first | assumption | rfl | exact same_of rfl | exact sameS_self _ | (simp only [decide_eq_true_eq, decide_eq_false_iff_not, Nat.ble_eq, Nat.beq_eq, beq_eq_false_iff_ne, beq_iff_eq, ne_eq] <;> omega))) ?_
  refine Q.runSeq (SPa [] []) 100 77 hnt [0, 2, 3] (z := ⟨[(0, .ptr 0 0), (2, .ptr 1 0), (3, .int .i64 (0 : Int))], ⟨[⟨[.str s, .int .i64 (Int.ofNat a)], 87⟩, ⟨[.int .i64 (0 : Int), .int .i64 (0 : Int), .str ⟨#[]⟩, PV.nil], 25⟩], []⟩⟩) (o := []) (by kernel_rfl) (by ((repeat' (first | exact okO_nil | refine okN ?_ ?_)); all_goals first | assumption | rfl | exact same_of rfl | exact sameS_self _ | (simp only [decide_eq_true_eq, decide_eq_false_iff_not, Nat.ble_eq, Nat.beq_eq, beq_eq_false_iff_ne, beq_iff_eq, ne_eq] <;> omega))) ?_
  refine Q.seq fun K hK => ?_
  have rest : ∀ st n, a + n = letE s a → nrm [0, 2, 3] st = ⟨[(0, .ptr 0 0), (2, .ptr 1 0), (3, .int .i64 (n : Nat))], ⟨[rP s a, dZ], []⟩⟩ → K st := fun st n hn hst => hK st (.norm [0, 2, 3] (by
    rw [hst]
    clear hst hK
    have wv : IntKind.wrap IntKind.i64 ((a : Int) + (n : Int)) = ((letE s a : Nat) : Int) := by rw [IntKind.wrap_i64]; omega
    have wv2 : IntKind.wrap IntKind.i64 (Int.ofNat (a + n)) = ((letE s a : Nat) : Int) := wv
    have c0 : decide (0 ≤ (a : Int) ∧ (a : Int) ≤ IntKind.wrap IntKind.i64 ((a : Int) + (n : Int)) ∧ IntKind.wrap IntKind.i64 ((a : Int) + (n : Int)) ≤ (s.size : Int)) = true := by rw [wv, decide_eq_true_eq]; omega
    have c1 : same (PV.str (ByteArray.extract s (Int.toNat (Int.ofNat a)) (Int.toNat (IntKind.wrap IntKind.i64 (Int.ofNat (a + n)))))) (PV.str w) = true := same_of (by rw [wv2, hw]; rfl)
    have c2 : Nat.ble (ByteArray.size w) 1099511627776 = true := by rw [Nat.ble_eq, hw, ByteArray.size_extract]; omega
    refine Q.runSeq (SPa [(77, [(49, true)])] [(77, [(49, .str w)])]) 100 77 hnt [0, 2, 3, 4] (z := ⟨[(0, .ptr 0 0), (2, .ptr 1 0), (3, .int .i64 (Int.ofNat n)), (4, .str w)], ⟨[⟨[.str s, .int .i64 (Int.ofNat a)], 87⟩, ⟨[.int .i64 (0 : Int), .int .i64 (0 : Int), .str ⟨#[]⟩, PV.nil], 25⟩], []⟩⟩) (o := [(decide (0 ≤ (↑a : Int) ∧ (↑a : Int) ≤ IntKind.wrap IntKind.i64 ((↑a : Int) + (↑n : Int)) ∧ IntKind.wrap IntKind.i64 ((↑a : Int) + (↑n : Int)) ≤ (↑(ByteArray.size s) : Int)), true), (same (.str (ByteArray.extract s (Int.toNat (Int.ofNat a)) (Int.toNat (IntKind.wrap IntKind.i64 (Int.ofNat (a + n)))))) (.str w), true)]) (by kernel_rfl) (by ((repeat' (first | exact okO_nil | refine okN ?_ ?_)); all_goals first | assumption | rfl | exact same_of rfl | exact sameS_self _ | (simp only [decide_eq_true_eq, decide_eq_false_iff_not, Nat.ble_eq, Nat.beq_eq, beq_eq_false_iff_ne, beq_iff_eq, ne_eq] <;> omega))) ?_
    cases h3 : (numQ w).2 with
    | true =>
      have c3 : (!(numQ w).2) = false := by rw [h3]; rfl
      have hat : atQ w = some [.int .i64 1, .int .i64 (numQ w).1, .str ⟨#[]⟩, .nil] := if_pos h3
      exact SWP.runQ (SPa [(77, [(56, false), (72, true)])] []) 100 77 hnt [2] (e := .ret) (z := ⟨[(2, .ptr 1 0)], ⟨[⟨[.str s, .int .i64 (IntKind.wrap IntKind.i64 (Int.ofNat (a + n)))], 87⟩, ⟨[.int .i64 (1 : Int), .int .i64 (Prod.fst (numQ w)), .str ⟨#[]⟩, PV.nil], 25⟩], []⟩⟩) (o := [(true, true), (Nat.ble (ByteArray.size w) 1099511627776, true), (!Prod.snd (numQ w), false), (Prod.snd (numQ w), true), (true, true)]) (by kernel_rfl) (by ((repeat' (first | exact okO_nil | refine okN ?_ ?_)); all_goals first | assumption | rfl | exact same_of rfl | exact sameS_self _ | (simp only [decide_eq_true_eq, decide_eq_false_iff_not, Nat.ble_eq, Nat.beq_eq, beq_eq_false_iff_ne, beq_iff_eq, ne_eq] <;> omega))) (fun st hst => hfr st [2] (by
        rw [hst, wv2]
        exact ⟨1, _, Nat.le_refl _, Nat.le_of_ble_eq_true rfl, rfl, rfl, rfl, .inl ⟨_, hat, rfl, rfl⟩⟩))
    | false =>
      have c3 : (!(numQ w).2) = true := by rw [h3]; rfl
      cases h4 : symOk w with
      | true =>
        have c4 : (!symOk w) = false := by rw [h4]; rfl
        have hat : atQ w = some [.int .i64 2, .int .i64 0, .str w, .nil] := by unfold atQ; rw [if_neg (by rw [h3]; decide), if_pos h4]
        exact SWP.runQ (SPa [(77, [(56, true), (60, false), (72, false)])] []) 100 77 hnt [2] (e := .ret) (z := ⟨[(2, .ptr 1 0)], ⟨[⟨[.str s, .int .i64 (IntKind.wrap IntKind.i64 (Int.ofNat (a + n)))], 87⟩, ⟨[.int .i64 (2 : Int), .int .i64 (0 : Int), .str w, PV.nil], 25⟩], []⟩⟩) (o := [(true, true), (Nat.ble (ByteArray.size w) 1099511627776, true), (!Prod.snd (numQ w), true), (true, true), (!symOk w, false), (Prod.snd (numQ w), false), (false, false)]) (by kernel_rfl) (by ((repeat' (first | exact okO_nil | refine okN ?_ ?_)); all_goals first | assumption | rfl | exact same_of rfl | exact sameS_self _ | (simp only [decide_eq_true_eq, decide_eq_false_iff_not, Nat.ble_eq, Nat.beq_eq, beq_eq_false_iff_ne, beq_iff_eq, ne_eq] <;> omega))) (fun st hst => hfr st [2] (by
          rw [hst, wv2]
          exact ⟨1, _, Nat.le_refl _, Nat.le_of_ble_eq_true rfl, rfl, rfl, rfl, .inl ⟨_, hat, rfl, rfl⟩⟩))
      | false =>
        have c4 : (!symOk w) = true := by rw [h4]; rfl
        have hat : atQ w = none := by unfold atQ; rw [if_neg (by rw [h3]; decide), if_neg (by rw [h4]; decide)]
        exact SWP.runQ (SPa [(77, [(56, true), (60, true)])] []) 100 77 hnt [2] (e := .panic (faultV a 4)) (z := ⟨[(2, .ptr 1 0)], ⟨[⟨[.str s, .int .i64 (Int.ofNat a)], 87⟩, ⟨[.int .i64 (0 : Int), .int .i64 (0 : Int), .str ⟨#[]⟩, PV.nil], 25⟩], []⟩⟩) (o := [(true, true), (Nat.ble (ByteArray.size w) 1099511627776, true), (!Prod.snd (numQ w), true), (true, true), (!symOk w, true), (true, true)]) (by kernel_rfl) (by ((repeat' (first | exact okO_nil | refine okN ?_ ?_)); all_goals first | assumption | rfl | exact same_of rfl | exact sameS_self _ | (simp only [decide_eq_true_eq, decide_eq_false_iff_not, Nat.ble_eq, Nat.beq_eq, beq_eq_false_iff_ne, beq_iff_eq, ne_eq] <;> omega))) (fun st hst => hfp _ st (by
          have e : st.h = ⟨[rP s a, dZ], []⟩ := congrArg AS.h hst
          refine ⟨1, Nat.le_refl _, by rw [e]; exact Nat.le_of_ble_eq_true rfl, rfl, by rw [e]; rfl, .inr ⟨hat, rfl, ?_⟩⟩
          rw [e]; rfl))))
  let T (n : Nat) : AS := ⟨[(0, .ptr 0 0), (2, .ptr 1 0), (3, .int .i64 n)], ⟨[rP s a, dZ], []⟩⟩
  refine Q.block ?_
  refine Q.loopI (σ := { n : Nat // letE s (a + n) = letE s a ∧ a + n ≤ s.size }) [0, 2, 3] (fun x => T x.1) (fun x => s.size - (a + x.1)) ⟨0, rfl, ha⟩ rfl fun ⟨n, hk, hle⟩ => ?_
  show SWP G0 C _ _ ⟨[(0, .ptr 0 0), (2, .ptr 1 0), (3, .int .i64 n)], ⟨[rP s a, dZ], []⟩⟩
  have le := letE_eq s (a + n)
  have wv : IntKind.wrap IntKind.i64 ((a : Int) + (n : Int)) = ((a + n : Nat) : Int) := by rw [IntKind.wrap_i64]; omega
  have wv2 : IntKind.wrap IntKind.i64 (Int.ofNat (a + n)) = ((a + n : Nat) : Int) := wv
  rcases Nat.lt_or_ge (a + n) s.size with hlt | hge
  · have d1 : same (PV.bool (decide (IntKind.wrap IntKind.i64 ((a : Int) + (n : Int)) < (s.size : Int)))) (PV.bool true) = true := sameB (by rw [wv]; exact lt_at hlt)
    have d2 : decide (0 ≤ IntKind.wrap IntKind.i64 ((a : Int) + (n : Int)) ∧ IntKind.wrap IntKind.i64 ((a : Int) + (n : Int)) < (s.size : Int)) = true := by rw [wv]; exact in_at hlt
    have d3 : decide (0 ≤ bt s (IntKind.wrap IntKind.i64 ((a : Int) + (n : Int))) ∧ bt s (IntKind.wrap IntKind.i64 ((a : Int) + (n : Int))) < 256) = true := by rw [wv]; exact decide_eq_true (bt_in s (a + n))
    by_cases hc : letC (bt s ((a + n : Nat) : Int)) = true
    · have d4 : same (PV.bool (letC (bt s (IntKind.wrap IntKind.i64 (Int.ofNat (a + n)))))) (PV.bool true) = true := sameB (by rw [wv2]; exact hc)
      rw [if_pos ⟨hlt, hc⟩] at le
      have wn : IntKind.wrap IntKind.i64 (Int.ofNat (n + 1)) = ((n + 1 : Nat) : Int) := wrapI (n + 1) (by omega)
      exact SWP.runQ (SPa [(77, [(30, true)])] [(77, [(18, .bool true), (31, .bool true)])]) 100 77 hnt [0, 2, 3] (e := .normal) (z := ⟨[(0, .ptr 0 0), (2, .ptr 1 0), (3, .int .i64 (IntKind.wrap IntKind.i64 (Int.ofNat (n + 1))))], ⟨[⟨[.str s, .int .i64 (Int.ofNat a)], 87⟩, ⟨[.int .i64 (0 : Int), .int .i64 (0 : Int), .str ⟨#[]⟩, PV.nil], 25⟩], []⟩⟩) (o := [(same (.bool (decide (IntKind.wrap IntKind.i64 ((↑a : Int) + (↑n : Int)) < (↑(ByteArray.size s) : Int)))) (.bool true), true), (decide (0 ≤ IntKind.wrap IntKind.i64 ((↑a : Int) + (↑n : Int)) ∧ IntKind.wrap IntKind.i64 ((↑a : Int) + (↑n : Int)) < (↑(ByteArray.size s) : Int)), true), (true, true), (decide (0 ≤ bt s (IntKind.wrap IntKind.i64 ((↑a : Int) + (↑n : Int))) ∧ bt s (IntKind.wrap IntKind.i64 ((↑a : Int) + (↑n : Int))) < 256), true), (same (.bool (letC (bt s (IntKind.wrap IntKind.i64 (Int.ofNat (a + n)))))) (.bool true), true)]) (by kernel_rfl) (by ((repeat' (first | exact okO_nil | refine okN ?_ ?_)); all_goals first | assumption | rfl | exact same_of rfl | exact sameS_self _ | (simp only [decide_eq_true_eq, decide_eq_false_iff_not, Nat.ble_eq, Nat.beq_eq, beq_eq_false_iff_ne, beq_iff_eq, ne_eq] <;> omega))) (fun st hst => ⟨⟨n + 1, le.symm.trans hk, by omega⟩, by show s.size - (a + (n + 1)) < s.size - (a + n); omega, by rw [hst, wn]; rfl⟩)
    · have d4 : same (PV.bool (letC (bt s (IntKind.wrap IntKind.i64 (Int.ofNat (a + n)))))) (PV.bool false) = true := sameB (by rw [wv2]; simpa using hc)
      rw [if_neg (fun h => hc h.2)] at le
      exact SWP.runQ (SPa [(77, [(30, true)])] [(77, [(18, .bool true), (31, .bool false)])]) 100 77 hnt [0, 2, 3] (e := .exit 0) (z := ⟨[(0, .ptr 0 0), (2, .ptr 1 0), (3, .int .i64 (Int.ofNat n))], ⟨[⟨[.str s, .int .i64 (Int.ofNat a)], 87⟩, ⟨[.int .i64 (0 : Int), .int .i64 (0 : Int), .str ⟨#[]⟩, PV.nil], 25⟩], []⟩⟩) (o := [(same (.bool (decide (IntKind.wrap IntKind.i64 ((↑a : Int) + (↑n : Int)) < (↑(ByteArray.size s) : Int)))) (.bool true), true), (decide (0 ≤ IntKind.wrap IntKind.i64 ((↑a : Int) + (↑n : Int)) ∧ IntKind.wrap IntKind.i64 ((↑a : Int) + (↑n : Int)) < (↑(ByteArray.size s) : Int)), true), (true, true), (decide (0 ≤ bt s (IntKind.wrap IntKind.i64 ((↑a : Int) + (↑n : Int))) ∧ bt s (IntKind.wrap IntKind.i64 ((↑a : Int) + (↑n : Int))) < 256), true), (same (.bool (letC (bt s (IntKind.wrap IntKind.i64 (Int.ofNat (a + n)))))) (.bool false), true)]) (by kernel_rfl) (by ((repeat' (first | exact okO_nil | refine okN ?_ ?_)); all_goals first | assumption | rfl | exact same_of rfl | exact sameS_self _ | (simp only [decide_eq_true_eq, decide_eq_false_iff_not, Nat.ble_eq, Nat.beq_eq, beq_eq_false_iff_ne, beq_iff_eq, ne_eq] <;> omega))) (fun st hst => rest st n (le.symm.trans hk) hst)
  · have d1 : same (PV.bool (decide (IntKind.wrap IntKind.i64 ((a : Int) + (n : Int)) < (s.size : Int)))) (PV.bool false) = true := sameB (by rw [wv]; exact ge_at hge)
    rw [if_neg (fun h => absurd h.1 (by omega))] at le
    exact SWP.runQ (SPa [] [(77, [(18, .bool false)])]) 100 77 hnt [0, 2, 3] (e := .exit 0) (z := ⟨[(0, .ptr 0 0), (2, .ptr 1 0), (3, .int .i64 (Int.ofNat n))], ⟨[⟨[.str s, .int .i64 (Int.ofNat a)], 87⟩, ⟨[.int .i64 (0 : Int), .int .i64 (0 : Int), .str ⟨#[]⟩, PV.nil], 25⟩], []⟩⟩) (o := [(same (.bool (decide (IntKind.wrap IntKind.i64 ((↑a : Int) + (↑n : Int)) < (↑(ByteArray.size s) : Int)))) (.bool false), true)]) (by kernel_rfl) (by ((repeat' (first | exact okO_nil | refine okN ?_ ?_)); all_goals first | assumption | rfl | exact same_of rfl | exact sameS_self _ | (simp only [decide_eq_true_eq, decide_eq_false_iff_not, Nat.ble_eq, Nat.beq_eq, beq_eq_false_iff_ne, beq_iff_eq, ne_eq] <;> omega))) (fun st hst => rest st n (le.symm.trans hk) hst)
end Seat
end Go.Proofs.YtenpjkcclmmlhaaDoor
namespace Go.Proofs.YtenpjkcclmmlhaaDoor
open Go.AS
set_option linter.unusedVariables false
set_option linter.unusedSimpArgs false
namespace Seat
def digV : List UInt8 → Nat → Nat
  | [], n => n
  | c :: r, n => digV r (10 * n + (c.toNat - 48))
def allDig (l : List UInt8) : Bool := l.all fun c => decide (48 ≤ c.toNat ∧ c.toNat ≤ 57)
theorem digV_ge : ∀ (l : List UInt8) (n : Nat), n ≤ digV l n
  | [], n => Nat.le_refl _
  | c :: r, n => Nat.le_trans (by omega) (digV_ge r _)
theorem parse_of : ∀ (l : List UInt8) (n : Nat), allDig l = true → digV l n < 18446744073709551616 → Go.Lib.parseUint10 n l = .ok (digV l n)
  | [], n, _, _ => rfl
  | c :: r, n, h, hb => by
    simp only [allDig, List.all_cons, Bool.and_eq_true, decide_eq_true_eq] at h
    have hge := digV_ge r (10 * n + (c.toNat - 48))
    rw [digV] at hb
    simp only [Go.Lib.parseUint10]
    rw [if_pos h.1, if_neg (by omega), if_neg (by omega), digV, Nat.mul_comm n 10]
    exact parse_of r _ h.2 hb
theorem bt_drop (t : ByteArray) (i : Nat) (h : i < t.size) : ∃ c, t.data.toList.drop i = c :: t.data.toList.drop (i + 1) ∧ bt t (i : Int) = (c.toNat : Int) := by
  have hlen : t.data.toList.length = t.size := Array.length_toList
  refine ⟨t.data.toList[i]'(by omega), List.drop_eq_getElem_cons (by omega), ?_⟩
  unfold bt
  rw [dif_pos (by rw [Int.toNat_natCast]; exact h)]
  rfl
theorem numK_eq (t : ByteArray) : ∀ (k i n : Nat), i + k = t.size → numK t k i n = if allDig (t.data.toList.drop i) = true ∧ (k = 0 ∨ digV (t.data.toList.drop i) n ≤ 9223372036854775808) then some (digV (t.data.toList.drop i) n) else none
  | 0, i, n, h => by
    have hlen : t.data.toList.length = t.size := Array.length_toList
    rw [List.drop_of_length_le (by omega), if_pos ⟨rfl, .inl rfl⟩]; rfl
  | k + 1, i, n, h => by
    obtain ⟨c, hc, hb⟩ := bt_drop t i (by omega)
    rw [numK, numK_eq t k (i + 1) _ (by omega), hc, hb]
    have hn : ((c.toNat : Int) - 48).toNat = c.toNat - 48 := by omega
    rw [hn]
    have hge := digV_ge (t.data.toList.drop (i + 1)) (10 * n + (c.toNat - 48))
    have hk : k = 0 → t.data.toList.drop (i + 1) = [] := fun hk => List.drop_of_length_le (by have : t.data.toList.length = t.size := Array.length_toList; omega)
    simp only [allDig, List.all_cons, digV, Bool.and_eq_true, decide_eq_true_eq]
    by_cases h1 : 48 ≤ c.toNat ∧ c.toNat ≤ 57
    · by_cases h2 : 10 * n + (c.toNat - 48) ≤ 9223372036854775808
      · rw [if_pos (by omega)]
        by_cases h0 : k = 0
        · rw [hk h0]; simp [h0, h1, h2, digV]
        · simp [h0, h1]
      · rw [if_neg (by omega), if_neg (by intro g; rcases g.2 with g2 | g2 <;> omega)]
    · rw [if_neg (by omega), if_neg (fun g => h1 g.1.1)]
theorem digV_snoc : ∀ (l : List UInt8) (n : Nat) (d : UInt8), digV (l ++ [d]) n = 10 * digV l n + (d.toNat - 48)
  | [], n, d => rfl
  | c :: r, n, d => digV_snoc r _ d
theorem chr {k : Nat} (h : k < 10) : (UInt8.ofNat (48 + k)).toNat = 48 + k := by
  rw [UInt8.toNat_ofNat']; omega
theorem dec_ok (u : Nat) : allDig (Go.Lib.decDigits u) = true ∧ digV (Go.Lib.decDigits u) 0 = u := by
  induction u using Nat.strongRecOn with
  | _ u ih =>
    rw [Go.Lib.decDigits]
    split
    · rename_i h
      refine ⟨?_, ?_⟩
      · simp only [allDig, List.all_cons, List.all_nil, Bool.and_true, decide_eq_true_eq, chr h]; omega
      · simp only [digV, chr h]; omega
    · rename_i h
      obtain ⟨h1, h2⟩ := ih (u / 10) (by omega)
      have hm : u % 10 < 10 := Nat.mod_lt _ (by omega)
      refine ⟨?_, ?_⟩
      · simp only [allDig, List.all_append, List.all_cons, List.all_nil, Bool.and_true, Bool.and_eq_true, decide_eq_true_eq, chr hm]
        exact ⟨h1, by omega⟩
      · rw [digV_snoc, h2, chr hm]; omega
theorem digV_zero : ∀ (l : List UInt8) (c : UInt8), 49 ≤ c.toNat → 1 ≤ digV (c :: l) 0 := fun l c h => by
  have := digV_ge l (10 * 0 + (c.toNat - 48))
  rw [digV]; omega
theorem dec_of : ∀ (m : Nat) (l : List UInt8), l.length ≤ m → l ≠ [] → allDig l = true → (l.head?.map (·.toNat) ≠ some 48 ∨ l.length = 1) → Go.Lib.decDigits (digV l 0) = l
  | 0, l, h, h0, _, _ => absurd (List.eq_nil_of_length_eq_zero (by omega)) h0
  | m + 1, l, h, h0, hd, hz => by
    rcases List.eq_nil_or_concat l with rfl | ⟨r, d, rfl⟩
    · exact absurd rfl h0
    · rw [List.concat_eq_append] at *
      simp only [allDig, List.all_append, List.all_cons, List.all_nil, Bool.and_true, Bool.and_eq_true, decide_eq_true_eq] at hd
      rw [digV_snoc, Go.Lib.decDigits]
      have hdd : UInt8.ofNat (48 + (d.toNat - 48)) = d := by
        apply UInt8.toNat_inj.1
        rw [UInt8.toNat_ofNat']
        have := d.toNat_lt
        omega
      cases r with
      | nil =>
        rw [dif_pos (by simp only [digV]; omega)]
        simp only [digV, List.nil_append, Nat.mul_zero, Nat.zero_add]
        rw [hdd]
      | cons c r =>
        have hc : allDig (c :: r) = true := hd.1
        have h49 : 49 ≤ c.toNat := by
          simp only [allDig, List.all_cons, Bool.and_eq_true, decide_eq_true_eq] at hc
          rcases hz with hz | hz
          · simp at hz; omega
          · simp at hz
        have h1 := digV_zero r c h49
        rw [dif_neg (by omega)]
        have e1 : (10 * digV (c :: r) 0 + (d.toNat - 48)) / 10 = digV (c :: r) 0 := by omega
        have e2 : (10 * digV (c :: r) 0 + (d.toNat - 48)) % 10 = d.toNat - 48 := by omega
        rw [e1, e2, hdd, dec_of m (c :: r) (by simp at h ⊢; omega) (by simp) hc (.inl (by simp; omega))]
end Seat
end Go.Proofs.YtenpjkcclmmlhaaDoor
namespace Go.Proofs.YtenpjkcclmmlhaaDoor
open Go.AS
set_option linter.unusedVariables false
set_option linter.unusedSimpArgs false
namespace Seat
theorem bt_head {w : ByteArray} {c : UInt8} {r : List UInt8} (h : w.data.toList = c :: r) : bt w 0 = (c.toNat : Int) := by
  have hlen : w.data.toList.length = w.size := Array.length_toList
  obtain ⟨d, h1, h2⟩ := bt_drop w 0 (by rw [← hlen, h]; simp)
  rw [List.drop_zero, h] at h1
  rw [(List.cons.inj h1).1]
  exact h2
theorem size_cons {w : ByteArray} {c : UInt8} {r : List UInt8} (h : w.data.toList = c :: r) : w.size = r.length + 1 := by
  have hlen : w.data.toList.length = w.size := Array.length_toList
  rw [← hlen, h]; rfl
theorem ge_cons {w : ByteArray} (h : w.size ≠ 0) : ∃ c r, w.data.toList = c :: r := by
  have hlen : w.data.toList.length = w.size := Array.length_toList
  cases hc : w.data.toList with
  | nil => rw [hc] at hlen; exact absurd hlen.symm h
  | cons c r => exact ⟨c, r, rfl⟩
theorem numT_of (t : ByteArray) (b : Bool) (c : UInt8) (r : List UInt8) (hl : t.data.toList = c :: r) (hd : allDig (c :: r) = true) (hz : c.toNat ≠ 48 ∨ (r = [] ∧ b = false)) (hb : digV (c :: r) 0 ≤ 9223372036854775808) :
    numT t b = if b = true then (IntKind.i64.wrap (-(digV (c :: r) 0 : Int)), true) else (IntKind.i64.wrap (digV (c :: r) 0 : Int), decide (digV (c :: r) 0 < 9223372036854775808)) := by
  have hs := size_cons hl
  have hh := bt_head hl
  have hk := numK_eq t t.size 0 0 (by omega)
  rw [List.drop_zero, hl, if_pos ⟨hd, .inr hb⟩] at hk
  unfold numT
  rw [if_neg (by
    rintro (g | ⟨g1, g2⟩)
    · omega
    · rw [hh] at g1
      rcases hz with hz | ⟨rfl, rfl⟩
      · omega
      · rcases g2 with g2 | g2
        · simp at hs; omega
        · cases g2), hk]
theorem numT_true (t : ByteArray) (b : Bool) (x : Int) (h : numT t b = (x, true)) : ∃ c r, t.data.toList = c :: r ∧ allDig (c :: r) = true ∧ (c.toNat ≠ 48 ∨ (r = [] ∧ b = false)) ∧ digV (c :: r) 0 ≤ 9223372036854775808 ∧ (b = true → x = IntKind.i64.wrap (-(digV (c :: r) 0 : Int))) ∧ (b = false → x = IntKind.i64.wrap (digV (c :: r) 0 : Int) ∧ digV (c :: r) 0 < 9223372036854775808) := by
  unfold numT at h
  split at h
  · cases h
  · rename_i hn
    obtain ⟨c, r, hl⟩ := ge_cons (w := t) (fun g => hn (.inl g))
    have hs := size_cons hl
    have hh := bt_head hl
    have hk := numK_eq t t.size 0 0 (by omega)
    rw [List.drop_zero, hl] at hk
    refine ⟨c, r, hl, ?_⟩
    by_cases hc : allDig (c :: r) = true ∧ (t.size = 0 ∨ digV (c :: r) 0 ≤ 9223372036854775808)
    · rw [if_pos hc] at hk
      rw [hk] at h
      refine ⟨hc.1, ?_, by rcases hc.2 with g | g <;> omega, ?_, ?_⟩
      · by_cases h48 : c.toNat = 48
        · refine .inr ?_
          have : ¬ (1 < t.size ∨ b = true) := fun g => hn (.inr ⟨by rw [hh, h48]; rfl, g⟩)
          refine ⟨List.eq_nil_of_length_eq_zero (by have := fun g => this (.inl g); omega), ?_⟩
          cases b with
          | true => exact absurd (.inr rfl) this
          | false => rfl
        · exact .inl h48
      · rintro rfl
        simp only [if_true] at h
        exact (Prod.mk.inj h).1.symm
      · rintro rfl
        simp only [Bool.false_eq_true, if_false] at h
        exact ⟨(Prod.mk.inj h).1.symm, of_decide_eq_true (Prod.mk.inj h).2⟩
    · rw [if_neg hc] at hk
      rw [hk] at h
      cases h
theorem dec_head (u : Nat) : ∃ c r, Go.Lib.decDigits u = c :: r ∧ (1 ≤ u → c.toNat ≠ 48) ∧ (u = 0 → r = []) := by
  induction u using Nat.strongRecOn with
  | _ u ih =>
    rw [Go.Lib.decDigits]
    split
    · rename_i h
      exact ⟨_, _, rfl, fun h1 => by rw [chr h]; omega, fun _ => rfl⟩
    · rename_i h
      obtain ⟨c, r, h1, h2, h3⟩ := ih (u / 10) (by omega)
      rw [h1]
      exact ⟨c, r ++ _, rfl, fun _ => h2 (by omega), fun h0 => by omega⟩
theorem toList_mk (l : List UInt8) : (mkS l).data.toList = l := by simp [mkS]
theorem bl_eq (w : ByteArray) : ByteArray.toList w = w.data.toList := by rw [← ByteArray.toList_eq] 
theorem allDig_head {c : UInt8} {r : List UInt8} (h : allDig (c :: r) = true) : 48 ≤ c.toNat ∧ c.toNat ≤ 57 := by
  simp only [allDig, List.all_cons, Bool.and_eq_true, decide_eq_true_eq] at h
  exact h.1
theorem numB_cons {w : ByteArray} {c : UInt8} {r : List UInt8} (h : w.data.toList = c :: r) : numB w = decide (c.toNat = 45) := by
  unfold numB
  rw [bt_head h, size_cons h]
  simp
  omega
theorem numB_none {w : ByteArray} (h : numB w = true) : ∃ r, w.data.toList = 45 :: r ∧ (w.extract 1 w.size).data.toList = r := by
  have h' := of_decide_eq_true h
  obtain ⟨c, r, hl⟩ := ge_cons (w := w) (by omega)
  rw [bt_head hl] at h'
  have hc : c = 45 := UInt8.toNat_inj.1 (by rw [show (45 : UInt8).toNat = 45 from rfl]; omega)
  subst hc
  refine ⟨r, hl, ?_⟩
  rw [Go.Lib.extract_to_end, hl]; rfl
theorem num_A (w : ByteArray) (x : Int) (h : numV w = (x, true)) : numQ w = (x, true) := by
  have key : Go.Lib.parseIntB 64 w.data.toList = .ok x ∧ Go.Lib.itoa x = w.data.toList := by
    rw [Go.Lib.parseIntB_64]
    unfold numV at h
    split at h
    · rename_i hb
      obtain ⟨r, hl, ht⟩ := numB_none hb
      obtain ⟨c, q, h1, h2, h3, h4, h5, _⟩ := numT_true _ _ _ h
      have hx := h5 rfl
      rw [ht] at h1
      rw [hl, h1]
      have h48 : c.toNat ≠ 48 := by
        rcases h3 with h3 | h3
        · exact h3
        · cases h3.2
      have hdg := allDig_head h2
      have hpos := digV_zero q c (by omega)
      have hw : IntKind.wrap IntKind.i64 (-(digV (c :: q) 0 : Int)) = -(digV (c :: q) 0 : Int) := by rw [IntKind.wrap_i64]; omega
      rw [hw] at hx
      subst hx
      refine ⟨?_, ?_⟩
      · rw [Go.Lib.atoiAll_minus]
        unfold Go.Lib.parseMag
        rw [if_neg (by simp), parse_of _ 0 h2 (by omega)]
        simp only [Go.Lib.signed]
        rw [if_neg (by omega)]
      · unfold Go.Lib.itoa
        rw [if_pos (by omega)]
        have e : (-(digV (c :: q) 0 : Int)).natAbs = digV (c :: q) 0 := by omega
        rw [e, dec_of _ (c :: q) (Nat.le_refl _) (by simp) h2 (.inl (by simp; omega))]
    · rename_i hb
      obtain ⟨c, q, h1, h2, h3, h4, _, h6⟩ := numT_true _ _ _ h
      obtain ⟨hx, hlt⟩ := h6 rfl
      have hdg := allDig_head h2
      have hw : IntKind.wrap IntKind.i64 (digV (c :: q) 0 : Int) = (digV (c :: q) 0 : Int) := by rw [IntKind.wrap_i64]; omega
      rw [hw] at hx
      subst hx
      rw [h1]
      refine ⟨?_, ?_⟩
      · rw [Go.Lib.atoiAll_plain c q (by omega) (by omega)]
        unfold Go.Lib.parseMag
        rw [if_neg (by simp), parse_of _ 0 h2 (by omega)]
        simp only [Go.Lib.signless]
        rw [if_neg (by omega)]
      · unfold Go.Lib.itoa
        rw [if_neg (by omega)]
        have e : ((digV (c :: q) 0 : Int)).toNat = digV (c :: q) 0 := by omega
        rw [e]
        refine dec_of _ (c :: q) (Nat.le_refl _) (by simp) h2 ?_
        rcases h3 with h3 | h3
        · exact .inl (by simp; omega)
        · exact .inr (by rw [h3.1]; rfl)
  unfold numQ
  rw [key.1]
  simp only [key.2]
  rw [bl_eq, beq_self_eq_true]
theorem num_B (w : ByteArray) (x : Int) (h : numQ w = (x, true)) : numV w = (x, true) := by
  have key : (-9223372036854775808 ≤ x ∧ x ≤ 9223372036854775807) ∧ Go.Lib.itoa x = w.data.toList := by
    unfold numQ at h
    split at h
    · rename_i v hv
      have hbd := Go.Lib.parseIntB_bounds hv
      obtain ⟨rfl, h2⟩ := Prod.mk.inj h
      rw [bl_eq, bl_eq, toList_mk] at h2
      exact ⟨by omega, eq_of_beq h2⟩
    · cases h
    · cases h
  obtain ⟨hb, hl⟩ := key
  unfold Go.Lib.itoa at hl
  unfold numV
  split at hl
  · rename_i hneg
    have hl' := hl.symm
    rw [numB_cons hl', if_pos (by decide)]
    obtain ⟨c, r, h1, h2, _⟩ := dec_head x.natAbs
    obtain ⟨d1, d2⟩ := dec_ok x.natAbs
    rw [h1] at d1 d2
    have ht : (w.extract 1 w.size).data.toList = c :: r := by rw [Go.Lib.extract_to_end, hl', h1]; rfl
    rw [numT_of _ true c r ht d1 (.inl (h2 (by omega))) (by omega), if_pos rfl, d2]
    have hw : IntKind.wrap IntKind.i64 (-(x.natAbs : Int)) = x := by rw [IntKind.wrap_i64]; omega
    rw [hw]
  · rename_i hneg
    have hl' := hl.symm
    obtain ⟨c, r, h1, h2, h3⟩ := dec_head x.toNat
    obtain ⟨d1, d2⟩ := dec_ok x.toNat
    rw [h1] at d1 d2 hl'
    have hdg := allDig_head d1
    rw [numB_cons hl', if_neg (by simp; omega)]
    rw [numT_of w false c r hl' d1 (by
      by_cases h0 : x.toNat = 0
      · exact .inr ⟨h3 h0, rfl⟩
      · exact .inl (h2 (by omega))) (by omega), if_neg (by decide), d2]
    have hw : IntKind.wrap IntKind.i64 ((x.toNat : Nat) : Int) = x := by rw [IntKind.wrap_i64]; omega
    rw [hw, decide_eq_true (by omega)]
theorem num_same (w : ByteArray) : (numQ w).2 = (numV w).2 ∧ ((numV w).2 = true → (numQ w).1 = (numV w).1) := by
  rcases hq : numQ w with ⟨a, b⟩
  rcases hv : numV w with ⟨c, d⟩
  cases b with
  | true => rw [num_B w a hq] at hv; cases hv; exact ⟨rfl, fun _ => rfl⟩
  | false =>
    cases d with
    | true => rw [num_A w c hv] at hq; cases hq
    | false => exact ⟨rfl, fun h => by cases h⟩
end Seat
end Go.Proofs.YtenpjkcclmmlhaaDoor
namespace Go.AS
open Go.RowKit
set_option linter.unusedVariables false
set_option linter.unusedSimpArgs false
section
variable {P : Program} {ops : Array Oper} {Q : Exit → Act → World → Prop}
theorem wpList_then {Q1 : Exit → Act → World → Prop} {l2 : List Oper} (h1 : ∀ a w, Q1 .normal a w → wpList P ops Q l2 a w) (h2 : ∀ e a w, e ≠ .normal → Q1 e a w → Q e a w) : ∀ (l1 : List Oper) (a : Act) (w : World), wpList P ops Q1 l1 a w → wpList P ops Q (l1 ++ l2) a w := by
  have hout : LetsOut Q1 → LetsOut Q := fun ⟨a, w, h⟩ => ⟨a, w, h2 _ _ _ (fun h => by cases h) h⟩
  intro l1
  induction l1 with
  | nil => intro a w h; exact h1 _ _ h
  | cons o l1 ih =>
    intro a w h
    simp only [List.cons_append, wpList] at h ⊢
    split at h
    · rename_i hw
      rw [if_pos hw]
      rcases h with h | ⟨g1, g2⟩
      · refine .inl ?_
        unfold Oper.wp at h ⊢
        generalize (execOp a.eval o).run P w = r at h ⊢
        unfold Oper.upon at h ⊢
        split at h
        · exact ih _ _ h
        · exact ih _ _ h
        · exact ih _ _ h
        · refine h.mono fun e w' he => ?_
          cases e with
          | returned v => exact ih _ _ he
          | panicked c => exact h2 _ _ _ (fun h => by cases h) he
          | outgrown => exact hout he
        · exact Rows.mono h fun v w' hv => ih _ _ hv
        · exact h2 _ _ _ (fun h => by cases h) h
        · exact h.elim
      · exact .inr ⟨g1, hout g2⟩
    · rename_i hw
      rw [if_neg hw]
      exact ih _ _ h
end
structure Guard (G : Prg) (g : FuncId) (T t1 t2 : TypeId) (k1 k2 : IntKind) : Prop where
  idle : ∀ (v1 v2 : Value) (w : World), CallsD G.P g #[v1, v2] .returning w fun e u' w' => (∃ v, e = .returned v) ∧ u' = .returning ∧ Below w.heap.size w w'
  pan : ∀ (b1 b2 : Nat) (x y : Int) (c1 c2 : Value) (w : World), b1 ≠ b2 → w.heap[b1]? = some (.cells #[c1] t1 (0, 0)) → w.heap[b2]? = some (.cells #[c2] t2 (0, 0)) →
    CallsD G.P g #[.pointer (some ⟨b1, 0, none⟩), .pointer (some ⟨b2, 0, none⟩)] (.panicking [{ v := .iface T (.agg #[.int k1 x, .int k2 y]), recovered := false }]) w fun e u' w' =>
      (∃ v, e = .returned v) ∧ u' = .panicking [{ v := .iface T (.agg #[.int k1 x, .int k2 y]), recovered := true }] ∧ Below w.heap.size (putBlk (putBlk w b1 [.int k1 x] t1) b2 [.int k2 y] t2) w'
section
variable {G : Prg}
def setB (st : AS) (b : Nat) (cs : List PV) (t : TypeId) : AS := { st with h := { st.h with bx := st.h.bx.set b ⟨cs, t⟩ } }
def FinD (G : Prg) (fn : Func) (T t1 t2 : TypeId) (k1 k2 : IntKind) (b1 b2 : Nat) (R : Out → List Box → Prop) : AEx → AS → Prop
  | .normal, st | .ret, st => FinR G fn 0 R st
  | .panic x, st => ∃ (n e : Int) (c1 c2 : PV), x = .iface T (.agg [.int k1 n, .int k2 e]) ∧ st.h.bx[b1]? = some ⟨[c1], t1⟩ ∧ st.h.bx[b2]? = some ⟨[c2], t2⟩ ∧ FinR G fn 0 R (setB (setB st b1 [.int k1 n] t1) b2 [.int k2 e] t2)
  | .exit _, _ => False
theorem one_cell {E : Env} {w : World} {c : PV} {vs : List Value} (h : VReps E w [c] vs) : ∃ v, vs = [v] := by
  obtain ⟨v, us, rfl, _, h2⟩ := h.cons_inv
  rw [h2.nil_inv]
  exact ⟨v, rfl⟩
theorem PCalls.deferred {f : FuncId} {fn : Func} {id : Nat} {ops : Array Oper} {rest : Code} {args : List PV} {R : Out → List Box → Prop} {nt : Nat} (hf : G.P.funcs[f]? = some fn) (hk : fn.ntmps = nt) (hb : fn.body = some (.seq (.region id ops false) rest)) (hn : args.length ≤ nt)
    {g : FuncId} {gn : Func} {T t1 t2 : TypeId} {k1 k2 : IntKind} (hG : Guard G g T t1 t2 k1 k2) (hg : G.P.funcs[g]? = some gn) (hname : (gn.name == "runtime.NumGoroutine") = false) (hgb : gn.body.isSome = true)
    {os1 : List Oper} {o : Oper} (hops : ops.toList = os1 ++ [o]) (hgd : o.guard = none) (hdst : o.dst = none) {x y : Operand} {ts : Array TypeId} (hop : o.op = .defer ⟨.value (.func g), #[x, y], ts⟩)
    {s1 : AS} {b1 b2 : Nat} (hx : s1.ev G.Γ x = .ptr b1 0) (hy : s1.ev G.Γ y = .ptr b2 0) (hne : b1 ≠ b2)
    (hrw : s1.h.rw = []) (h1 : ∀ C : Ctx, C.nt = nt → SOps G C ops (At .normal s1) os1 ⟨enum 0 args, ⟨[], []⟩⟩)
    (h2 : ∀ C : Ctx, C.nt = nt → SWP G C rest (FinD G fn T t1 t2 k1 k2 b1 b2 R) s1) : PCalls G f args [] R := fun E w vs hh hv => by
  refine calls_of_wp_defers hf hb ?_
  have hE : HRep G.Γ { E with lo := w.heap.size } w ⟨[], []⟩ := ⟨hh.nb, hh.nr, Nat.le_refl _, fun i b hb => by simp at hb, fun i r hr => by simp at hr, hh.inj, hh.rinj, hh.brw, hh.im_lt, hh.im_b, hh.im_r, hh.gl⟩
  have hv' : VReps { E with lo := w.heap.size } w args vs := hv.move fun x v hx => hx.move (Nat.le_refl _) (Nat.le_refl _) (fun _ _ => rfl) (fun _ _ => rfl) (fun _ h => h) (fun _ _ => rfl)
  have hrel : Rel G (Ctx.of w E 0 fn.ntmps) { E with lo := w.heap.size } ⟨enum 0 args, ⟨[], []⟩⟩ { tmps := vs.toArray ++ Array.replicate (fn.ntmps - vs.toArray.size) undef, defers := [] } w :=
    ⟨rfl, by simp [hv.1]; omega, fun s => by
      rcases lk_enum args vs 0 (fn.ntmps - vs.length) s hv' with h | h
      · have e : (vs.toArray ++ Array.replicate (fn.ntmps - vs.toArray.size) undef).getD s undef = (vs ++ List.replicate (fn.ntmps - vs.length) undef).getD (s - 0) undef := by
          rw [Array.getD_eq_getD_getElem?, List.getD, ← Array.getElem?_toList]
          simp
        rw [e]
        exact h
      · omega, hE, rfl, Nat.zero_le _, fun _ _ => rfl, fun i h1 h2 => absurd (show i < ([] : List Box).length from by have := hh.nb; simp only [] at h2 this; rw [← this]; exact h2) (Nat.not_lt_zero _), fun _ h => h, fun _ h => .inl h, fun _ _ _ _ => rfl, rfl, rfl, rfl, Nat.le_refl _, fun j s k hj => by simp at hj⟩
  refine wp_seq (wp_region_list ?_)
  rw [hops]
  refine wpList_then (Q1 := Post G (Ctx.of w E 0 fn.ntmps) (At .normal s1)) ?_ ?_ os1 _ _ (h1 _ hk _ _ _ hrel)
  rotate_left
  · rintro e a1 w1 hne ⟨ae, s, E1, ⟨rfl, rfl⟩, rfl, r1⟩
    exact absurd rfl hne
  rintro a1 w1 ⟨ae, s, E1, ⟨rfl, rfl⟩, _, r1⟩
  have ex := ev_rep r1.fr r1.hp x
  have ey := ev_rep r1.fr r1.hp y
  rw [hx] at ex
  rw [hy] at ey
  obtain ⟨ex, hb1⟩ := ex.ptr_inv
  obtain ⟨ey, hb2⟩ := ey.ptr_inv
  have hrun : (execOp a1.eval o).run G.P w1 = .ok (.defer ⟨.fn (.func g) #[], #[.pointer (some ⟨E1.β b1, 0, none⟩), .pointer (some ⟨E1.β b2, 0, none⟩)]⟩) w1 := by
    have e0 : a1.eval (.func g) = .func (.func g) #[] #[] := rfl
    simp [execOp, hop, resolve, Deferred.ofValue, e0, ex, ey, Result.andThen]
  refine wpList_plain hgd fun K hK => ?_
  unfold Oper.wp
  rw [hrun]
  refine hK _ _ ?_
  show rest.wp G.P _ _ _
  rw [hdst]
  let d0 : Deferred := ⟨.fn (.func g) #[], #[.pointer (some ⟨E1.β b1, 0, none⟩), .pointer (some ⟨E1.β b2, 0, none⟩)]⟩
  let C2 : Ctx := ⟨w1, E1, E1.nb, fn.ntmps, E1.lo, fun _ => False, [d0]⟩
  have r2 : Rel G C2 E1 s { a1 with defers := d0 :: a1.defers } w1 := ⟨by simp [r1.defers, C2, Ctx.of], r1.size, r1.fr, r1.hp, rfl, Nat.le_refl _, fun _ _ => rfl, fun i h1 h2 => absurd h2 (Nat.not_lt.2 h1), fun _ h => h, fun _ h => .inl h, fun _ _ _ _ => rfl, rfl, rfl, rfl, Nat.le_refl _, fun j t k hj => by rw [hrw] at hj; simp at hj⟩
  have fin : ∀ (E' : Env) (s2 : AS) (a' : Act) (w' : World), Rel G C2 E' s2 a' w' → FinR G fn 0 R s2 →
      ∃ v, (results fn a'.tmps).run G.P w' = .ok v w' ∧ ∃ o bx' E2, R o bx' ∧ OutR E2 w' o (.returned v) ∧ HRep G.Γ E2 w' ⟨bx', []⟩ ∧ PExt 0 E w E2 w' := by
    rintro E' s2 a' w' r ⟨m, rv, h1, h2, h3, h4, h5, h6⟩
    obtain ⟨v, hv1, hv2⟩ := aret_ok r.fr r.hp h3
    have k1 := close_hp r h2 h5
    have hnb := r.hp.nb
    have own1 : ∀ i, i < E1.nb → w.heap.size ≤ E1.β i := fun i hi => r1.own i (Nat.zero_le _) hi
    refine ⟨v, hv1, _, _, { E' with nb := m, nr := 0 }, h6, ⟨v, rfl, hv2.sc h4 (Nat.le_refl _) (fun _ _ => rfl) rfl⟩, k1, ⟨Nat.le_trans r1.sz r.sz, r.os.trans r1.os, r.tape.trans r1.tape, r.out.trans r1.out, fun k hk _ => ?_, Nat.zero_le _, fun i hi => absurd hi (Nat.not_lt_zero _), fun k hk => r.up k (r1.up k hk), fun k hk => ?_, fun i _ hi => ?_⟩⟩
    · exact (r.keep k (Nat.lt_of_lt_of_le hk r1.sz) (fun i hi he => by have := own1 i hi; simp only [C2] at he; omega) (fun h => h)).trans (r1.keep k hk (fun i hi => absurd hi (Nat.not_lt_zero _)) (fun h => h))
    · rcases r.dn k hk with h | h | h
      · rcases r1.dn k h with h | h | h
        · exact .inl h
        · exact .inr h
        · exact h.elim
      · exact .inr (Nat.le_trans r1.sz h)
      · exact h.elim
    · simp only [] at hi
      rcases Nat.lt_or_ge i E1.nb with hlt | hge
      · rw [show (E' : Env).β i = E1.β i from r.β i hlt]; exact own1 i hlt
      · exact Nat.le_trans r1.sz (r.own i hge (by omega))
  have hinv : ∀ w', (invoke d0.target d0.args).run G.P w' = .ok (.enter g d0.args) w' := fun w' => by
    simp only [d0, invoke]
    rw [callFunc_enter hg hname hgb]
    simp
  have back : ∀ (a2 : Act) (w2 : World) (E2 : Env) (s2 : AS), Rel G C2 E2 s2 a2 w2 → FinR G fn 0 R s2 → Leaves G.P fn a2.tmps (fun e w' => ∃ o bx' E', R o bx' ∧ OutR E' w' o e ∧ HRep G.Γ E' w' ⟨bx', []⟩ ∧ PExt ([] : List Box).length E w E' w') a2.defers .returning w2 := by
    intro a2 w2 E2 s2 r3 q
    rw [r3.defers]
    refine leaves_cons (f := g) (args := d0.args) (fun h => by cases h) (hinv w2) ?_
    refine (hG.idle _ _ w2).mono ?_
    rintro e u' w' ⟨⟨v, rfl⟩, rfl, hb⟩
    obtain ⟨v, g1, g2⟩ := fin _ _ _ _ (r3.grow hb.size hb.block hb.os hb.tape hb.output) q
    exact ⟨v, g1, g2⟩
  refine wp_mono (h2 C2 hk _ _ _ r2) ?_
  rintro e a2 w2 ⟨ae, s2, E2, q, hx2, r3⟩
  cases ae with
  | normal => cases hx2; exact back _ _ _ _ r3 q
  | ret => cases hx2; exact back _ _ _ _ r3 q
  | exit i => exact q.elim
  | panic z =>
    obtain ⟨n, e', c1, c2, rfl, hc1, hc2, hfin⟩ := q
    obtain ⟨v, rfl, hv⟩ := hx2
    obtain ⟨u, rfl, hu⟩ := hv.iface_inv
    obtain ⟨us, rfl, hus⟩ := hu.agg_inv
    obtain ⟨v1, us, rfl, hv1, hus⟩ := hus.cons_inv
    obtain ⟨v2, us, rfl, hv2, hus⟩ := hus.cons_inv
    rw [hus.nil_inv]
    have e1 := hv1.int_inv
    have e2 := hv2.int_inv
    subst e1 e2
    obtain ⟨cur1, g1, g2⟩ := r3.hp.box b1 _ hc1
    obtain ⟨cur2, g3, g4⟩ := r3.hp.box b2 _ hc2
    obtain ⟨c1', rfl⟩ := one_cell g2
    obtain ⟨c2', rfl⟩ := one_cell g4
    have hn1 : b1 < E2.nb := by rw [r3.hp.nb]; exact (List.getElem?_eq_some_iff.1 hc1).1
    have hn2 : b2 < E2.nb := by rw [r3.hp.nb]; exact (List.getElem?_eq_some_iff.1 hc2).1
    have hβ1 : E2.β b1 = E1.β b1 := r3.β b1 hb1
    have hβ2 : E2.β b2 = E1.β b2 := r3.β b2 hb2
    show Leaves G.P fn a2.tmps _ a2.defers _ w2
    rw [r3.defers]
    refine leaves_cons (f := g) (args := d0.args) (fun h => by cases h) (hinv w2) ?_
    have hcall := hG.pan (E2.β b1) (E2.β b2) n e' c1' c2' w2 (fun he => hne (r3.hp.inj b1 b2 hn1 hn2 he)) g1 g3
    rw [hβ1, hβ2] at hcall
    refine hcall.mono ?_
    rintro e u' w' ⟨⟨v, rfl⟩, rfl, hb⟩
    have r4 := r3.putBox hc1 (cs := [.int k1 n]) (vs := [.int k1 n]) (.cons (.imm (.int _ _)) (.nil _ _))
    have hc2' : (setB s2 b1 [.int k1 n] t1).h.bx[b2]? = some ⟨[c2], t2⟩ := by
      simp only [setB]; rw [List.getElem?_set_ne hne]; exact hc2
    have r5 := Rel.putBox (st := setB s2 b1 [.int k1 n] t1) r4 hc2' (cs := [.int k2 e']) (vs := [.int k2 e']) (.cons (.imm (.int _ _)) (.nil _ _))
    rw [hβ1, hβ2] at r5
    obtain ⟨v, g5, g6⟩ := fin _ _ _ _ (r5.grow hb.size (fun k hk => hb.block k (by simpa [putBlk_size] using hk)) hb.os hb.tape hb.output) hfin
    exact ⟨v, g5, g6⟩
theorem PCalls.deferred2 {f : FuncId} {fn : Func} {id : Nat} {ops : Array Oper} {c0 rest : Code} {args : List PV} {R : Out → List Box → Prop} {nt : Nat} (hf : G.P.funcs[f]? = some fn) (hk : fn.ntmps = nt) (hb : fn.body = some (.seq c0 (.seq (.region id ops false) rest))) (hn : args.length ≤ nt)
    {g : FuncId} {gn : Func} {T t1 t2 : TypeId} {k1 k2 : IntKind} (hG : Guard G g T t1 t2 k1 k2) (hg : G.P.funcs[g]? = some gn) (hname : (gn.name == "runtime.NumGoroutine") = false) (hgb : gn.body.isSome = true)
    {o : Oper} (hops : ops.toList = [o]) (hgd : o.guard = none) (hdst : o.dst = none) {x y : Operand} {ts : Array TypeId} (hop : o.op = .defer ⟨.value (.func g), #[x, y], ts⟩)
    {s1 : AS} {b1 b2 : Nat} (hx : s1.ev G.Γ x = .ptr b1 0) (hy : s1.ev G.Γ y = .ptr b2 0) (hne : b1 ≠ b2)
    (hrw : s1.h.rw = []) (h1 : ∀ C : Ctx, C.nt = nt → SWP G C c0 (At .normal s1) ⟨enum 0 args, ⟨[], []⟩⟩)
    (h2 : ∀ C : Ctx, C.nt = nt → C.nb = s1.h.bx.length → SWP G C rest (FinD G fn T t1 t2 k1 k2 b1 b2 R) s1) : PCalls G f args [] R := fun E w vs hh hv => by
  refine calls_of_wp_defers hf hb ?_
  have hE : HRep G.Γ { E with lo := w.heap.size } w ⟨[], []⟩ := ⟨hh.nb, hh.nr, Nat.le_refl _, fun i b hb => by simp at hb, fun i r hr => by simp at hr, hh.inj, hh.rinj, hh.brw, hh.im_lt, hh.im_b, hh.im_r, hh.gl⟩
  have hv' : VReps { E with lo := w.heap.size } w args vs := hv.move fun x v hx => hx.move (Nat.le_refl _) (Nat.le_refl _) (fun _ _ => rfl) (fun _ _ => rfl) (fun _ h => h) (fun _ _ => rfl)
  have hrel : Rel G (Ctx.of w E 0 fn.ntmps) { E with lo := w.heap.size } ⟨enum 0 args, ⟨[], []⟩⟩ { tmps := vs.toArray ++ Array.replicate (fn.ntmps - vs.toArray.size) undef, defers := [] } w :=
    ⟨rfl, by simp [hv.1]; omega, fun s => by
      rcases lk_enum args vs 0 (fn.ntmps - vs.length) s hv' with h | h
      · have e : (vs.toArray ++ Array.replicate (fn.ntmps - vs.toArray.size) undef).getD s undef = (vs ++ List.replicate (fn.ntmps - vs.length) undef).getD (s - 0) undef := by
          rw [Array.getD_eq_getD_getElem?, List.getD, ← Array.getElem?_toList]
          simp
        rw [e]
        exact h
      · omega, hE, rfl, Nat.zero_le _, fun _ _ => rfl, fun i h1 h2 => absurd (show i < ([] : List Box).length from by have := hh.nb; simp only [] at h2 this; rw [← this]; exact h2) (Nat.not_lt_zero _), fun _ h => h, fun _ h => .inl h, fun _ _ _ _ => rfl, rfl, rfl, rfl, Nat.le_refl _, fun j s k hj => by simp at hj⟩
  refine wp_seq (wp_mono (h1 _ hk _ _ _ hrel) ?_)
  rintro e a1 w1 ⟨ae, s, E1, ⟨rfl, rfl⟩, rfl, r1⟩
  refine wp_seq (wp_region_list ?_)
  rw [hops]
  have ex := ev_rep r1.fr r1.hp x
  have ey := ev_rep r1.fr r1.hp y
  rw [hx] at ex
  rw [hy] at ey
  obtain ⟨ex, hb1⟩ := ex.ptr_inv
  obtain ⟨ey, hb2⟩ := ey.ptr_inv
  have hrun : (execOp a1.eval o).run G.P w1 = .ok (.defer ⟨.fn (.func g) #[], #[.pointer (some ⟨E1.β b1, 0, none⟩), .pointer (some ⟨E1.β b2, 0, none⟩)]⟩) w1 := by
    have e0 : a1.eval (.func g) = .func (.func g) #[] #[] := rfl
    simp [execOp, hop, resolve, Deferred.ofValue, e0, ex, ey, Result.andThen]
  refine wpList_plain hgd fun K hK => ?_
  unfold Oper.wp
  rw [hrun]
  refine hK _ _ ?_
  show rest.wp G.P _ _ _
  rw [hdst]
  let d0 : Deferred := ⟨.fn (.func g) #[], #[.pointer (some ⟨E1.β b1, 0, none⟩), .pointer (some ⟨E1.β b2, 0, none⟩)]⟩
  let C2 : Ctx := ⟨w1, E1, E1.nb, fn.ntmps, E1.lo, fun _ => False, [d0]⟩
  have r2 : Rel G C2 E1 s { a1 with defers := d0 :: a1.defers } w1 := ⟨by simp [r1.defers, C2, Ctx.of], r1.size, r1.fr, r1.hp, rfl, Nat.le_refl _, fun _ _ => rfl, fun i h1 h2 => absurd h2 (Nat.not_lt.2 h1), fun _ h => h, fun _ h => .inl h, fun _ _ _ _ => rfl, rfl, rfl, rfl, Nat.le_refl _, fun j t k hj => by rw [hrw] at hj; simp at hj⟩
  have fin : ∀ (E' : Env) (s2 : AS) (a' : Act) (w' : World), Rel G C2 E' s2 a' w' → FinR G fn 0 R s2 →
      ∃ v, (results fn a'.tmps).run G.P w' = .ok v w' ∧ ∃ o bx' E2, R o bx' ∧ OutR E2 w' o (.returned v) ∧ HRep G.Γ E2 w' ⟨bx', []⟩ ∧ PExt 0 E w E2 w' := by
    rintro E' s2 a' w' r ⟨m, rv, h1, h2, h3, h4, h5, h6⟩
    obtain ⟨v, hv1, hv2⟩ := aret_ok r.fr r.hp h3
    have k1 := close_hp r h2 h5
    have hnb := r.hp.nb
    have own1 : ∀ i, i < E1.nb → w.heap.size ≤ E1.β i := fun i hi => r1.own i (Nat.zero_le _) hi
    refine ⟨v, hv1, _, _, { E' with nb := m, nr := 0 }, h6, ⟨v, rfl, hv2.sc h4 (Nat.le_refl _) (fun _ _ => rfl) rfl⟩, k1, ⟨Nat.le_trans r1.sz r.sz, r.os.trans r1.os, r.tape.trans r1.tape, r.out.trans r1.out, fun k hk _ => ?_, Nat.zero_le _, fun i hi => absurd hi (Nat.not_lt_zero _), fun k hk => r.up k (r1.up k hk), fun k hk => ?_, fun i _ hi => ?_⟩⟩
    · exact (r.keep k (Nat.lt_of_lt_of_le hk r1.sz) (fun i hi he => by have := own1 i hi; simp only [C2] at he; omega) (fun h => h)).trans (r1.keep k hk (fun i hi => absurd hi (Nat.not_lt_zero _)) (fun h => h))
    · rcases r.dn k hk with h | h | h
      · rcases r1.dn k h with h | h | h
        · exact .inl h
        · exact .inr h
        · exact h.elim
      · exact .inr (Nat.le_trans r1.sz h)
      · exact h.elim
    · simp only [] at hi
      rcases Nat.lt_or_ge i E1.nb with hlt | hge
      · rw [show (E' : Env).β i = E1.β i from r.β i hlt]; exact own1 i hlt
      · exact Nat.le_trans r1.sz (r.own i hge (by omega))
  have hinv : ∀ w', (invoke d0.target d0.args).run G.P w' = .ok (.enter g d0.args) w' := fun w' => by
    simp only [d0, invoke]
    rw [callFunc_enter hg hname hgb]
    simp
  have back : ∀ (a2 : Act) (w2 : World) (E2 : Env) (s2 : AS), Rel G C2 E2 s2 a2 w2 → FinR G fn 0 R s2 → Leaves G.P fn a2.tmps (fun e w' => ∃ o bx' E', R o bx' ∧ OutR E' w' o e ∧ HRep G.Γ E' w' ⟨bx', []⟩ ∧ PExt ([] : List Box).length E w E' w') a2.defers .returning w2 := by
    intro a2 w2 E2 s2 r3 q
    rw [r3.defers]
    refine leaves_cons (f := g) (args := d0.args) (fun h => by cases h) (hinv w2) ?_
    refine (hG.idle _ _ w2).mono ?_
    rintro e u' w' ⟨⟨v, rfl⟩, rfl, hb⟩
    obtain ⟨v, g1, g2⟩ := fin _ _ _ _ (r3.grow hb.size hb.block hb.os hb.tape hb.output) q
    exact ⟨v, g1, g2⟩
  refine wp_mono (h2 C2 hk r1.hp.nb _ _ _ r2) ?_
  rintro e a2 w2 ⟨ae, s2, E2, q, hx2, r3⟩
  cases ae with
  | normal => cases hx2; exact back _ _ _ _ r3 q
  | ret => cases hx2; exact back _ _ _ _ r3 q
  | exit i => exact q.elim
  | panic z =>
    obtain ⟨n, e', c1, c2, rfl, hc1, hc2, hfin⟩ := q
    obtain ⟨v, rfl, hv⟩ := hx2
    obtain ⟨u, rfl, hu⟩ := hv.iface_inv
    obtain ⟨us, rfl, hus⟩ := hu.agg_inv
    obtain ⟨v1, us, rfl, hv1, hus⟩ := hus.cons_inv
    obtain ⟨v2, us, rfl, hv2, hus⟩ := hus.cons_inv
    rw [hus.nil_inv]
    have e1 := hv1.int_inv
    have e2 := hv2.int_inv
    subst e1 e2
    obtain ⟨cur1, g1, g2⟩ := r3.hp.box b1 _ hc1
    obtain ⟨cur2, g3, g4⟩ := r3.hp.box b2 _ hc2
    obtain ⟨c1', rfl⟩ := one_cell g2
    obtain ⟨c2', rfl⟩ := one_cell g4
    have hn1 : b1 < E2.nb := by rw [r3.hp.nb]; exact (List.getElem?_eq_some_iff.1 hc1).1
    have hn2 : b2 < E2.nb := by rw [r3.hp.nb]; exact (List.getElem?_eq_some_iff.1 hc2).1
    have hβ1 : E2.β b1 = E1.β b1 := r3.β b1 hb1
    have hβ2 : E2.β b2 = E1.β b2 := r3.β b2 hb2
    show Leaves G.P fn a2.tmps _ a2.defers _ w2
    rw [r3.defers]
    refine leaves_cons (f := g) (args := d0.args) (fun h => by cases h) (hinv w2) ?_
    have hcall := hG.pan (E2.β b1) (E2.β b2) n e' c1' c2' w2 (fun he => hne (r3.hp.inj b1 b2 hn1 hn2 he)) g1 g3
    rw [hβ1, hβ2] at hcall
    refine hcall.mono ?_
    rintro e u' w' ⟨⟨v, rfl⟩, rfl, hb⟩
    have r4 := r3.putBox hc1 (cs := [.int k1 n]) (vs := [.int k1 n]) (.cons (.imm (.int _ _)) (.nil _ _))
    have hc2' : (setB s2 b1 [.int k1 n] t1).h.bx[b2]? = some ⟨[c2], t2⟩ := by
      simp only [setB]; rw [List.getElem?_set_ne hne]; exact hc2
    have r5 := Rel.putBox (st := setB s2 b1 [.int k1 n] t1) r4 hc2' (cs := [.int k2 e']) (vs := [.int k2 e']) (.cons (.imm (.int _ _)) (.nil _ _))
    rw [hβ1, hβ2] at r5
    obtain ⟨v, g5, g6⟩ := fin _ _ _ _ (r5.grow hb.size (fun k hk => hb.block k (by simpa [putBlk_size] using hk)) hb.os hb.tape hb.output) hfin
    exact ⟨v, g5, g6⟩
theorem PCalls.deferQ {f : FuncId} {fn : Func} {id : Nat} {ops : Array Oper} {c0 rest : Code} {args : List PV} {R : Out → List Box → Prop} {nt : Nat} (hf : G.P.funcs[f]? = some fn) (hk : fn.ntmps = nt) (hb : fn.body = some (.seq c0 (.seq (.region id ops false) rest))) (hn : args.length ≤ nt)
    {g : FuncId} {gn : Func} {T t1 t2 : TypeId} {k1 k2 : IntKind} (hG : Guard G g T t1 t2 k1 k2) (hg : G.P.funcs[g]? = some gn) (hname : (gn.name == "runtime.NumGoroutine") = false) (hgb : gn.body.isSome = true)
    {o : Oper} (hops : ops.toList = [o]) (hgd : o.guard = none) (hdst : o.dst = none) {x y : Operand} {ts : Array TypeId} (hop : o.op = .defer ⟨.value (.func g), #[x, y], ts⟩)
    {s1 : AS} {b1 b2 : Nat} (hx : s1.ev G.Γ x = .ptr b1 0) (hy : s1.ev G.Γ y = .ptr b2 0) (hne : b1 ≠ b2)
    (hrw : s1.h.rw = []) (h1 : ∀ C : Ctx, C.nt = nt → SWP G C c0 (At .normal s1) ⟨enum 0 args, ⟨[], []⟩⟩)
    (h2 : ∀ (C : Ctx) (fr : AS → Prop) (fp : PV → AS → Prop), C.nt = nt → C.nb = s1.h.bx.length → (∀ s sl, FinR G fn 0 R (nrm sl s) → fr s) →
      (∀ n e s sl c1 c2, (nrm sl s).h.bx[b1]? = some ⟨[c1], t1⟩ → (nrm sl s).h.bx[b2]? = some ⟨[c2], t2⟩ → FinR G fn 0 R (setB (setB (nrm sl s) b1 [.int k1 n] t1) b2 [.int k2 e] t2) → fp (.iface T (.agg [.int k1 n, .int k2 e])) s) →
      SWP G C rest (QT fr [] fr fp) s1) : PCalls G f args [] R :=
  PCalls.deferred2 hf hk hb hn hG hg hname hgb hops hgd hdst hop hx hy hne hrw h1 fun C hC hnb => SWP.normQ ((h2 C (fun s => ∃ sl, FinR G fn 0 R (nrm sl s)) (fun x s => ∃ sl, FinD G fn T t1 t2 k1 k2 b1 b2 R (.panic x) (nrm sl s)) hC hnb (fun s sl h => ⟨sl, h⟩)
    (fun n e s sl c1 c2 g1 g2 g3 => ⟨sl, n, e, c1, c2, rfl, g1, g2, g3⟩)).mono fun e s q => by
    cases e with
    | normal => exact q
    | ret => exact q
    | exit i => exact q.elim
    | panic x => exact q)
def recV : FrameMode → Value × FrameMode
  | .panicking ({ v, recovered := false, goexit := false } :: older) => (v, .panicking ({ v, recovered := true } :: older))
  | u => (.nilIface, u)
theorem recoverD_at (c : Frame) (cs : List Frame) : recoverD (c :: cs) = some ((recV c.mode).1, { c with mode := (recV c.mode).2 } :: cs) ∨ (recoverD (c :: cs) = none ∧ recV c.mode = (.nilIface, c.mode)) := by
  unfold recoverD
  simp only []
  split
  · rename_i h; left; rw [h]; rfl
  · rename_i h
    right
    refine ⟨rfl, ?_⟩
    unfold recV
    split
    · rename_i v older hm; exact absurd hm (h v older)
    · rfl
theorem callsD_recover {P : Program} {f : FuncId} {fn : Func} {id : Nat} {o : Oper} {rest : Code} {args : Array Value} {u : FrameMode} {w : World} {R : Ending → FrameMode → World → Prop} (hf : P.funcs[f]? = some fn) (hb : fn.body = some (.seq (.region id #[o] false) rest)) (hg : o.guard = none)
    (hop : ∀ ρ : Operand → Value, (execOp ρ o).run P w = .ok .recover w)
    (h : rest.wp P (bodyPost P fn fun e w' => R e (recV u).2 w') (({ tmps := args ++ Array.replicate (fn.ntmps - args.size) undef, defers := [] } : Act).put o.dst (recV u).1) w) : CallsD P f args u w R := by
  refine callsD_of_wpS hf hb fun c₀ cs hu => ?_
  refine wpS_seq (wpS_region ?_)
  have hr : List.range (#[o] : Array Oper).size = [0] := rfl
  rw [hr]
  simp only [wpOpsS]
  have h0 : (#[o] : Array Oper)[0]? = some o := rfl
  simp only [h0, Region.wanted, hg, if_true, hop]
  have fin : ∀ c1 : Frame, { c1 with mode := (recV u).2 } = { c₀ with mode := (recV u).2 } → rest.wpS P (bodyPostS P fn c₀ cs R) (({ tmps := args ++ Array.replicate (fn.ntmps - args.size) undef, defers := [] } : Act).put o.dst (recV u).1) ({ c₀ with mode := (recV u).2 } :: cs) w := fun _ _ =>
    wpS_of_wp (wp_mono h fun e a w' hq => by
      cases e with
      | normal => obtain ⟨h1, v, h2, h3⟩ := hq; exact ⟨h1, _, rfl, v, h2, h3⟩
      | ret => obtain ⟨h1, v, h2, h3⟩ := hq; exact ⟨h1, _, rfl, v, h2, h3⟩
      | panic ch => exact ⟨hq.1, _, rfl, hq.2⟩
      | outgrown => exact ⟨_, hq⟩
      | exit i => exact hq
      | goto l => exact hq)
  rcases recoverD_at c₀ cs with hr | ⟨hr, hv⟩
  · rw [hr]
    simp only [Exit.thenS]
    rw [hu]
    exact fin c₀ rfl
  · rw [hr]
    simp only [Exit.thenS]
    rw [hu] at hv
    have := fin c₀ rfl
    rw [hv] at this
    have e : ({ c₀ with mode := u } : Frame) = c₀ := by subst hu; rfl
    simp only [e] at this
    exact this
end
end Go.AS
namespace Go.AS
open Go.RowKit
set_option linter.unusedVariables false
set_option linter.unusedSimpArgs false
mutual
def PV.nz : PV → PV
  | .nil => .slice 0 []
  | .slice n cs => .slice n (nzL cs)
  | .agg cs => .agg (nzL cs)
  | .tup cs => .tup (nzL cs)
  | .int k n => .int k n
  | .bool b => .bool b
  | .str s => .str s
  | .epos cs => .epos cs
  | .own r n => .own r n
  | .rpos r o => .rpos r o
  | .ptr b o => .ptr b o
  | .bsl b n m => .bsl b n m
  | .nilptr => .nilptr
  | .func f cs => .func f cs
  | .nilfunc => .nilfunc
  | .iface t x => .iface t x
  | .niliface => .niliface
  | .junk => .junk
def nzL : List PV → List PV
  | [] => []
  | x :: xs => x.nz :: nzL xs
end
theorem nzL_get : ∀ (cs : List PV) (j : Nat), (nzL cs)[j]? = (cs[j]?).map PV.nz
  | [], j => by simp [nzL]
  | x :: xs, 0 => by simp [nzL]
  | x :: xs, j + 1 => by simp only [nzL, List.getElem?_cons_succ]; exact nzL_get xs j
theorem nzL_len : ∀ cs : List PV, (nzL cs).length = cs.length
  | [] => rfl
  | x :: xs => by simp only [nzL, List.length_cons, nzL_len xs]
theorem nzL_app : ∀ xs ys : List PV, nzL (xs ++ ys) = nzL xs ++ nzL ys
  | [], ys => rfl
  | x :: xs, ys => by simp only [List.cons_append, nzL, nzL_app xs ys]
theorem nz_at {cs : List PV} {vs : List Value} {T : PV → Value → Prop} (h : ∀ (j : Nat) (x : PV) (v : Value), cs[j]? = some x → vs[j]? = some v → T x.nz v) : ∀ (j : Nat) (x : PV) (v : Value), (nzL cs)[j]? = some x → vs[j]? = some v → T x v := fun j x v hx hv => by
  rw [nzL_get] at hx
  obtain ⟨y, hy, rfl⟩ := Option.map_eq_some_iff.1 hx
  exact h j y v hy hv
theorem IRep.nz {im : Nat → Prop} {w : World} {x : PV} {v : Value} (h : IRep im w x v) : IRep im w x.nz v := by
  induction h with
  | nil => exact .slice0
  | slice0 => exact .slice0
  | slice hn hl hb hc h1 _ ih => exact .slice hn (hl.trans (nzL_len _).symm) hb hc h1 (nz_at ih)
  | agg hl _ ih => exact .agg (hl.trans (nzL_len _).symm) (nz_at ih)
  | tup hl _ ih => exact .tup (hl.trans (nzL_len _).symm) (nz_at ih)
  | epos hl hb hc hr _ => exact .epos hl hb hc hr
  | iface t h _ => exact .iface t h
  | int | bool | str | nilptr | nilfunc | niliface | func => constructor
theorem VRep.nz {E : Env} {w : World} {x : PV} {v : Value} (h : VRep E w x v) : VRep E w x.nz v := by
  induction h with
  | imm h => exact .imm h.nz
  | own hr h hn => exact .own hr h hn
  | rpos hr h => exact .rpos hr h
  | ptr o hb => exact .ptr o hb
  | bsl hb hn => exact .bsl hb hn
  | func hl hr _ => exact .func hl hr
  | agg hl _ ih => exact .agg (hl.trans (nzL_len _).symm) (nz_at ih)
  | tup hl _ ih => exact .tup (hl.trans (nzL_len _).symm) (nz_at ih)
  | iface t h _ => exact .iface t h
  | junk v => exact .junk v
def Out.nz : Out → Out
  | .ret r => .ret r.nz
  | .pan x => .pan x
theorem PCalls.nz {G : Prg} {f : FuncId} {args : List PV} {bx : List Box} {R : Out → List Box → Prop} (h : PCalls G f args bx (fun o b => R o.nz b)) : PCalls G f args bx R := fun E w vs hh hv =>
  (h E w vs hh hv).mono fun e w' ⟨o, bx', E', hR, hout, hrest⟩ => by
    refine ⟨o.nz, bx', E', hR, ?_, hrest⟩
    cases o with
    | ret r => obtain ⟨v, rfl, hv⟩ := hout; exact ⟨v, rfl, hv.nz⟩
    | pan x => exact hout
theorem Pure.nz {G : Prg} {f : FuncId} {args : List PV} {R : PV → Prop} (h : Pure G f args (fun r => R r.nz)) : Pure G f args R :=
  PCalls.nz (PCalls.mono h fun o b ⟨hb, r, ho, hr⟩ => ⟨hb, r.nz, by rw [ho]; rfl, hr⟩)
mutual
theorem Dat.nz : ∀ d : Dat, nzL d.cells = d.cells
  | .mk k n s ks => by simp only [Dat.cells, nzL, PV.nz, Dats.nz ks]
theorem Dats.nz : ∀ ds : Dats, nzL ds.cells = ds.cells
  | .nil => rfl
  | .cons d ds => by simp only [Dats.cells, nzL_app, Dat.nz d, Dats.nz ds]
end
section
variable {G : Prg} {C : Ctx} {Q : AEx → AS → Prop} {st : AS}
theorem SWP.adoptS {c : Code} (s : Nat) (ty : TypeId) (sz : Nat) (hs : lk st.t s = .nil) (h : SWP G C c Q (st.adopt s ty sz)) : SWP G C c Q st := fun E a w hr => by
  obtain ⟨E', hr'⟩ := hr.adopt hs ty sz
  exact h E' a w hr'
end
end Go.AS
namespace Go.AS
open Go.RowKit
section
variable {G : Prg}
noncomputable def runX (S : Cfg G) (rec : Rec) (nt : Nat) (ops : Array Oper) (ds : List Nat) : Nat → Array Bool → AS → Option Outs
  | 0, _, _ => none
  | n + 1, l, st => match Region.ready .any ops l with
    | [] => none
    | i :: is => match pick1 G S.orc S.val nt ops ds l st (i :: is) with
      | some (l', s, o) => pre o (runX S rec nt ops ds n l' s)
      | none => eachOf (fun j => match ds.contains j, panOne S nt ops st j with
        | true, some (x, s, o) => some ([⟨[(0, x)], s.h⟩], o)
        | _, _ => match anyOne S rec nt ops ds l st j with
          | some (l', s, o) => pre o (runX S rec nt ops ds n l' s)
          | none => none) (i :: is)
variable {C : Ctx} {Q : AEx → AS → Prop} {st : AS} {ops : Array Oper} {ds : List Nat}
theorem runX_ok {S : Cfg G} {rec : Rec} (hr : Snd G rec) (hQ : PanicT Q) : ∀ (n : Nat) (l : Array Bool) (st : AS) (outs : Outs), runX S rec C.nt ops ds n l st = some outs → okO outs.2 → (∀ s ∈ outs.1, ∀ x h, s = ⟨[(0, x)], h⟩ → Q (.panic x) ⟨[], h⟩) → SAny G C ops Q ds n l st := by
  intro n
  induction n with
  | zero => intro l st outs h; cases h
  | succ n ih =>
    intro l st outs h ho hK
    simp only [runX] at h
    split at h
    · cases h
    · rename_i i is hri
      split at h
      · rename_i l' s o hp
        obtain ⟨o', h1, h2⟩ := pre_some h
        rw [h2] at ho
        exact pick1_ok hQ ho.left _ hp (ih _ _ _ h1 ho.right hK)
      · refine .all (by rw [hri]; exact List.cons_ne_nil _ _) fun j hj => ?_
        rw [hri] at hj
        obtain ⟨a, h1, h2, h3⟩ := eachOf_some h j hj
        split at h1
        · rename_i x s o hds hpan
          cases h1
          unfold panOne at hpan
          split at hpan
          · rename_i op hi
            split at hpan
            · rename_i hg
              refine ⟨op, hi, .inl ⟨by unfold gq; rw [hg], .inl ⟨by simpa using hds, ?_⟩⟩⟩
              have hob : okO o := fun p hp => ho p (h3 p hp)
              refine SOp.wkp (Q' := At (.panic x) s) (panStep_ok (Q := At (.panic x) s) hpan hob ⟨rfl, rfl⟩ op rfl rfl) ?_
              rintro e t ⟨rfl, rfl⟩
              exact ⟨[], hK _ (h2 _ (List.mem_singleton.2 rfl)) x t.h rfl, .inl rfl⟩
            · cases hpan
          · cases hpan
        · split at h1
          · rename_i l' s o hone
            obtain ⟨o', h4, h5⟩ := pre_some h1
            have ho' : okO (o ++ o') := fun p hp => ho p (h3 p (by rw [h5]; exact hp))
            exact anyOne_ok hr hone ho'.left (by
              have hl : l' = l.setIfInBounds j true := by
                unfold anyOne at hone
                split at hone
                · split at hone
                  · split at hone
                    · split at hone
                      · cases hone; rfl
                      · cases hone
                    · cases hone
                  · split at hone
                    · cases hone; rfl
                    · cases hone
                  · cases hone
                · cases hone
              subst hl
              exact ih _ _ _ h4 ho'.right fun s hs => hK s (h2 s hs))
          · cases h1
noncomputable def runXP (S : Cfg G) (k nt : Nat) (ops : Array Oper) (st : AS) : Option Outs := runX S (run S k) nt ops (dsOf S.D ops) ops.size (Array.replicate ops.size false) st
theorem SWP.runXQ {id : Nat} (S : Cfg G) (k nt : Nat) (hnt : C.nt = nt) (hQ : PanicT Q) {l : List AS} {o : Ob} (h : runXP S k nt ops st = some (l, o)) (ho : okO o) (hK : ∀ s ∈ l, ∀ x h, s = ⟨[(0, x)], h⟩ → Q (.panic x) ⟨[], h⟩) : SWP G C (.region id ops true) Q st := by
  subst hnt
  exact .draw _ _ rfl (runX_ok (run_ok S k) hQ _ _ _ _ h ho hK)
end
end Go.AS
namespace Go.Proofs.YtenpjkcclmmlhaaDoor
open Go.AS
set_option linter.unusedVariables false
set_option linter.unusedSimpArgs false
namespace Seat
def lbl (c : UInt8) : Bool := blank (c.toNat : Int)
def lle (c : UInt8) : Bool := letC (c.toNat : Int)
def nl10 (c : UInt8) : Bool := decide (c.toNat ≠ 10)
def tokK : Nat → List UInt8 → List (List UInt8)
  | 0, _ => []
  | _ + 1, [] => []
  | k + 1, c :: r => if lbl c = true then tokK k r else if c.toNat = 59 then tokK k (r.dropWhile nl10) else
    if lle c = true then (c :: r.takeWhile lle) :: tokK k (r.dropWhile lle) else [c] :: tokK k r
theorem dropWhile_len {α : Type} (p : α → Bool) : ∀ l : List α, (l.dropWhile p).length ≤ l.length
  | [] => Nat.le_refl _
  | c :: r => by
    rw [List.dropWhile_cons]
    split
    · exact Nat.le_trans (dropWhile_len p r) (Nat.le_succ _)
    · exact Nat.le_refl _
theorem tokK_more : ∀ (k m : Nat) (l : List UInt8), l.length ≤ k → k ≤ m → tokK m l = tokK k l
  | 0, m, l, h, _ => by
    obtain rfl := List.eq_nil_of_length_eq_zero (Nat.le_zero.1 h)
    cases m <;> rfl
  | k + 1, m, [], h, hm => by cases m <;> rfl
  | k + 1, m, c :: r, h, hm => by
    obtain ⟨m, rfl⟩ : ∃ j, m = j + 1 := ⟨m - 1, by omega⟩
    have hr : r.length ≤ k := by simpa using h
    have h1 := dropWhile_len nl10 r
    have h2 := dropWhile_len lle r
    rw [tokK, tokK, tokK_more k m r hr (by omega), tokK_more k m (r.dropWhile nl10) (by omega) (by omega), tokK_more k m (r.dropWhile lle) (by omega) (by omega)]
def tok (l : List UInt8) : List (List UInt8) := tokK l.length l
theorem tok_cons (c : UInt8) (r : List UInt8) : tok (c :: r) = if lbl c = true then tok r else if c.toNat = 59 then tok (r.dropWhile nl10) else
    if lle c = true then (c :: r.takeWhile lle) :: tok (r.dropWhile lle) else [c] :: tok r := by
  have h1 := dropWhile_len nl10 r
  have h2 := dropWhile_len lle r
  unfold tok
  rw [List.length_cons, tokK, tokK_more (r.dropWhile nl10).length r.length _ (Nat.le_refl _) h1, tokK_more (r.dropWhile lle).length r.length _ (Nat.le_refl _) h2]
theorem bt_drop0 (t : ByteArray) (i : Nat) (h : i < t.size) : ∃ c : UInt8, t.data.toList.drop i = c :: t.data.toList.drop (i + 1) ∧ bt t (i : Int) = (c.toNat : Int) := by
  have hlen : t.data.toList.length = t.size := Array.length_toList
  refine ⟨t.data.toList[i]'(by omega), List.drop_eq_getElem_cons (by omega), ?_⟩
  unfold bt
  rw [dif_pos (by rw [Int.toNat_natCast]; exact h)]
  rfl
theorem drop_out (t : ByteArray) (i : Nat) (h : t.size ≤ i) : t.data.toList.drop i = [] := List.drop_of_length_le (by have hlen : t.data.toList.length = t.size := Array.length_toList; omega)
theorem rem_drop (s : ByteArray) : ∀ k a, s.size - a ≤ k → s.data.toList.drop (remE s a) = (s.data.toList.drop a).dropWhile nl10
  | 0, a, h => by
    rw [remE_eq, if_neg (by omega), drop_out s a (by omega)]; rfl
  | k + 1, a, h => by
    rw [remE_eq]
    rcases Nat.lt_or_ge a s.size with hl | hl
    · obtain ⟨c, h1, h2⟩ := bt_drop0 s a hl
      rw [h1, h2]
      by_cases hc : c.toNat = 10
      · rw [if_neg (by omega), h1, List.dropWhile_cons, if_neg (by simp [nl10, hc])]
      · rw [if_pos (by omega), rem_drop s k (a + 1) (by omega), List.dropWhile_cons, if_pos (by simp [nl10, hc])]
    · rw [if_neg (by omega), drop_out s a hl]; rfl
theorem let_drop (s : ByteArray) : ∀ k a, s.size - a ≤ k → s.data.toList.drop (letE s a) = (s.data.toList.drop a).dropWhile lle
  | 0, a, h => by
    rw [letE_eq, if_neg (by omega), drop_out s a (by omega)]; rfl
  | k + 1, a, h => by
    rw [letE_eq]
    rcases Nat.lt_or_ge a s.size with hl | hl
    · obtain ⟨c, h1, h2⟩ := bt_drop0 s a hl
      rw [h1, h2]
      by_cases hc : letC (c.toNat : Int) = true
      · rw [if_pos ⟨hl, hc⟩, let_drop s k (a + 1) (by omega), List.dropWhile_cons, if_pos (show lle c = true from hc)]
      · rw [if_neg (fun g => hc g.2), h1, List.dropWhile_cons, if_neg (show ¬ lle c = true from hc)]
    · rw [if_neg (by omega), drop_out s a hl]; rfl
theorem let_take (s : ByteArray) : ∀ k a, s.size - a ≤ k → (s.data.toList.drop a).take (letE s a - a) = (s.data.toList.drop a).takeWhile lle
  | 0, a, h => by
    rw [letE_eq, if_neg (by omega), drop_out s a (by omega)]; simp
  | k + 1, a, h => by
    rw [letE_eq]
    rcases Nat.lt_or_ge a s.size with hl | hl
    · obtain ⟨c, h1, h2⟩ := bt_drop0 s a hl
      rw [h1, h2]
      by_cases hc : letC (c.toNat : Int) = true
      · have hge := letE_ge s (a + 1)
        rw [if_pos ⟨hl, hc⟩, show letE s (a + 1) - a = (letE s (a + 1) - (a + 1)) + 1 by omega, List.take_succ_cons, let_take s k (a + 1) (by omega), List.takeWhile_cons, if_pos (show lle c = true from hc)]
      · rw [if_neg (fun g => hc g.2), Nat.sub_self, List.takeWhile_cons, if_neg (show ¬ lle c = true from hc)]; rfl
    · rw [if_neg (by omega), drop_out s a hl]; simp
theorem ext_list (s : ByteArray) (a b : Nat) : (s.extract a b).data.toList = (s.data.toList.drop a).take (b - a) := by
  rw [ByteArray.data_extract, Array.toList_extract, List.extract_eq_take_drop]
def toks (s : ByteArray) (a : Nat) : List (List UInt8) := tok (s.data.toList.drop a)
theorem toks_out (s : ByteArray) (a : Nat) (h : s.size ≤ a) : toks s a = [] := by unfold toks; rw [drop_out s a h]; rfl
theorem toks_skp (s : ByteArray) : ∀ k a, s.size - a ≤ k → toks s (skp s a) = toks s a ∧ (skp s a < s.size → lbl (s.data.toList.getD (skp s a) 0) = false ∧ bt s (skp s a : Nat) ≠ 59 ∧ blank (bt s (skp s a : Nat)) = false)
  | 0, a, h => by rw [skp_out s a (by omega)]; exact ⟨rfl, fun h => by omega⟩
  | k + 1, a, h => by
    rcases Nat.lt_or_ge a s.size with hl | hl
    · obtain ⟨c, h1, h2⟩ := bt_drop0 s a hl
      rw [skp_eq, if_pos hl, h2]
      by_cases hb : blank (c.toNat : Int) = true
      · rw [if_pos hb]
        obtain ⟨g1, g2⟩ := toks_skp s k (a + 1) (by omega)
        refine ⟨?_, g2⟩
        rw [g1]
        unfold toks
        rw [h1, tok_cons, if_pos (show lbl c = true from hb)]
      · rw [if_neg hb]
        by_cases h9 : c.toNat = 59
        · rw [if_pos (by omega)]
          have hre := remE_59 hl (by omega)
          obtain ⟨g1, g2⟩ := toks_skp s k (remE s a) (by omega)
          refine ⟨?_, g2⟩
          rw [g1]
          unfold toks
          rw [rem_drop s _ a (Nat.le_refl _), h1, tok_cons, if_neg (show ¬ lbl c = true from hb), if_pos h9, List.dropWhile_cons, if_pos (by simp [nl10, h9])]
        · rw [if_neg (by omega)]
          refine ⟨rfl, fun _ => ⟨?_, by omega, by rw [h2]; simpa using hb⟩⟩
          have hlen : s.data.toList.length = s.size := Array.length_toList
          have e : s.data.toList.getD a 0 = c := by
            have := congrArg (fun l => l.head?) h1
            simp only [List.head?_cons, List.head?_drop] at this
            rw [List.getD, this]; rfl
          rw [e]
          simpa [lbl] using hb
    · rw [skp_out s a hl]; exact ⟨rfl, fun h => by omega⟩
def Clean (s : ByteArray) (a : Nat) : Prop := a < s.size → blank (bt s (a : Int)) = false ∧ bt s (a : Int) ≠ 59
theorem clean_skp (s : ByteArray) (a : Nat) : Clean s (skp s a) := fun h => by
  obtain ⟨_, g⟩ := toks_skp s _ a (Nat.le_refl _)
  exact ⟨(g h).2.2, (g h).2.1⟩
theorem toks_at_let {s : ByteArray} {a : Nat} (h : a < s.size) (hc : Clean s a) (hl : letC (bt s (a : Int)) = true) : toks s a = (s.extract a (letE s a)).data.toList :: toks s (letE s a) := by
  obtain ⟨c, h1, h2⟩ := bt_drop0 s a h
  obtain ⟨g1, g2⟩ := hc h
  have k1 := let_take s _ a (Nat.le_refl _)
  have k2 := let_drop s _ a (Nat.le_refl _)
  rw [ext_list, k1]
  unfold toks
  rw [k2, h1, tok_cons]
  rw [h2] at g1 g2 hl
  have e1 : lle c = true := hl
  rw [if_neg (by rw [show lbl c = blank (c.toNat : Int) from rfl, g1]; decide), if_neg (by omega), if_pos e1, List.takeWhile_cons, if_pos e1, List.dropWhile_cons, if_pos e1]
theorem toks_at {s : ByteArray} {a : Nat} (h : a < s.size) (hc : Clean s a) (hl : letC (bt s (a : Int)) = false) : ∃ c : UInt8, bt s (a : Int) = (c.toNat : Int) ∧ toks s a = [c] :: toks s (a + 1) := by
  obtain ⟨c, h1, h2⟩ := bt_drop0 s a h
  obtain ⟨g1, g2⟩ := hc h
  refine ⟨c, h2, ?_⟩
  unfold toks
  rw [h1, tok_cons]
  rw [h2] at g1 g2 hl
  rw [if_neg (by rw [show lbl c = blank (c.toNat : Int) from rfl, g1]; decide), if_neg (by omega), if_neg (by rw [show lle c = letC (c.toNat : Int) from rfl, hl]; decide)]
theorem Nds.dat_snoc : ∀ (l : Nds) (x : Nd), (l.snoc x).dat = Dats.snoc l.dat x.dat
  | .nil, x => rfl
  | .cons d ds, x => by simp only [Nds.snoc, Nds.dat, Dats.snoc, Nds.dat_snoc ds x]
abbrev Tok := List UInt8
def hd0 : Tok → Int
  | [] => 0
  | c :: _ => (c.toNat : Int)
def mkB (t : Tok) : ByteArray := ⟨t.toArray⟩
def prL (f : List Tok → Option (Dat × List Tok)) : Nat → List Tok → Dats → Option (Dats × List Tok)
  | 0, _, _ => none
  | _ + 1, [], _ => none
  | k + 1, t :: r, l => if hd0 t = 41 then some (l, r) else match f (t :: r) with
    | some (d, r') => prL f k r' (Dats.snoc l d)
    | none => none
def prD : Nat → List Tok → Option (Dat × List Tok)
  | 0, _ => none
  | _ + 1, [] => none
  | n + 1, t :: r => if letC (hd0 t) = true then (if (numV (mkB t)).2 = true then some (.mk 1 (numV (mkB t)).1 ⟨#[]⟩ .nil, r) else if symOk (mkB t) = true then some (.mk 2 0 (mkB t) .nil, r) else none)
    else if hd0 t = 39 then (if n = 0 then none else match prD n r with
      | some (d, r') => some (.mk 3 0 ⟨#[]⟩ (.cons (.mk 2 0 wQuote .nil) (.cons d .nil)), r')
      | none => none)
    else if hd0 t = 40 then (match prL (prD n) (r.length + 1) r .nil with
      | some (l, r') => some (.mk 3 0 ⟨#[]⟩ l, r')
      | none => none)
    else none
def Eats (f : List Tok → Option (Dat × List Tok)) : Prop := ∀ ts d r, f ts = some (d, r) → r.length < ts.length
theorem prL_eats {f : List Tok → Option (Dat × List Tok)} (hf : Eats f) : ∀ k ts l l' r, prL f k ts l = some (l', r) → r.length < ts.length
  | 0, ts, l, l', r, h => by cases h
  | k + 1, [], l, l', r, h => by cases h
  | k + 1, t :: q, l, l', r, h => by
    rw [prL] at h
    split at h
    · cases h; simp
    · split at h
      · rename_i d r' hd
        have h1 := hf _ _ _ hd
        have h2 := prL_eats hf k r' _ l' r h
        omega
      · cases h
theorem prD_eats : ∀ n, Eats (prD n)
  | 0, ts, d, r, h => by cases h
  | n + 1, [], d, r, h => by cases h
  | n + 1, t :: q, d, r, h => by
    rw [prD] at h
    split at h
    · split at h
      · cases h; simp
      · split at h
        · cases h; simp
        · cases h
    · split at h
      · split at h
        · cases h
        · split at h
          · rename_i x r' hx
            have := prD_eats n _ _ _ hx
            cases h
            simp only [List.length_cons]; omega
          · cases h
      · split at h
        · split at h
          · rename_i x r' hx
            have := prL_eats (prD_eats n) _ _ _ _ _ hx
            cases h
            simp only [List.length_cons]; omega
          · cases h
        · cases h
theorem mkB_list (s : ByteArray) : mkB s.data.toList = s := by
  unfold mkB
  cases s with
  | mk d => simp
theorem prL_rd {s : ByteArray} {n : Nat} (ih : ∀ a, a ≤ s.size → Clean s a → prD n (toks s a) = if (rdD s n a).2.e = 0 then some ((rdD s n a).1.dat, toks s (rdD s n a).2.a) else none) :
    ∀ k k' x l, x ≤ s.size → Clean s x → s.size + 1 - x ≤ k → (toks s x).length + 1 ≤ k' →
      prL (prD n) k' (toks s x) l.dat = if (rdL (rdD s n) s k ⟨x, 0, 0⟩ l).2.e = 0 then some ((rdL (rdD s n) s k ⟨x, 0, 0⟩ l).1.dat, toks s ((rdL (rdD s n) s k ⟨x, 0, 0⟩ l).2.a + 1)) else none := by
  intro k
  induction k with
  | zero => intro k' x l hx hc hk _; omega
  | succ k ihk =>
    intro k' x l hx hc hk hk'
    obtain ⟨k', rfl⟩ : ∃ j, k' = j + 1 := ⟨k' - 1, by omega⟩
    have hsx := rdD_steps s n x hx
    have hix := ih x hx hc
    rw [rdL]
    rcases Nat.lt_or_ge x s.size with hlt | hge
    · by_cases h41 : bt s (x : Int) = 41
      · have hg : goes s ⟨x, 0, 0⟩ = false := by
          show ((0 : Int) == 0 && !(decide (x < s.size) && bt s (x : Int) == 41)) = false
          rw [decide_eq_true hlt, h41]; rfl
        rw [hg, if_neg (show ¬ false = true by decide)]
        simp only [if_true]
        obtain ⟨c, h1, h2⟩ := toks_at hlt hc (by rw [h41]; decide)
        rw [h2, prL, if_pos (by show (c.toNat : Int) = 41; rw [← h1]; exact h41)]
      · have hg : goes s ⟨x, 0, 0⟩ = true := by
          show ((0 : Int) == 0 && !(decide (x < s.size) && bt s (x : Int) == 41)) = true
          rw [decide_eq_true hlt, beq_eq_false_iff_ne.2 h41]; rfl
        rw [if_pos hg]
        obtain ⟨t, r, ht, hh⟩ : ∃ t r, toks s x = t :: r ∧ hd0 t = bt s (x : Int) := by
          cases hl : letC (bt s (x : Int)) with
          | true =>
            refine ⟨_, _, toks_at_let hlt hc hl, ?_⟩
            have hgt := letE_gt hlt hl
            rw [ext_list]
            obtain ⟨c, h1, h2⟩ := bt_drop0 s x hlt
            rw [h1, show letE s x - x = (letE s x - x - 1) + 1 by omega, List.take_succ_cons, h2]; rfl
          | false =>
            obtain ⟨c, h1, h2⟩ := toks_at hlt hc hl
            exact ⟨_, _, h2, h1.symm⟩
        rw [ht, prL, if_neg (by rw [hh]; exact h41), ← ht, hix]
        by_cases he : (rdD s n x).2.e = 0
        · rw [if_pos he] at hix ⊢
          have h3 := hsx.2 he
          have h4 := (hsx.1.ok he)
          have h5 := toks_skp s _ (rdD s n x).2.a (Nat.le_refl _)
          have h6 := prD_eats n _ _ _ hix
          have h7 := skp_ge s (rdD s n x).2.a
          have h8 := skp_le s (rdD s n x).2.a h4.1
          simp only []
          rw [he, h4.2, ← Nds.dat_snoc, ← h5.1]
          exact ihk k' _ (l.snoc (rdD s n x).1) h8 (clean_skp s _) (by omega) (by rw [h5.1]; omega)
        · rw [if_neg he]
          have : goes s ⟨skp s (rdD s n x).2.a, (rdD s n x).2.e, (rdD s n x).2.b⟩ = false := goes_err he
          rw [rdL_stop this, if_neg he]
    · have hg : goes s ⟨x, 0, 0⟩ = true := by
        show ((0 : Int) == 0 && !(decide (x < s.size) && bt s (x : Int) == 41)) = true
        rw [decide_eq_false (by omega)]; rfl
      rw [if_pos hg, toks_out s x hge]
      have hz : rdD s n x = (.zero, ⟨x, 4, s.size⟩) := by rw [rdD_eq, if_pos hge]
      rw [hz]
      have : goes s ⟨skp s x, 4, s.size⟩ = false := goes_err n4
      rw [rdL_stop this]
      rfl
theorem prD_rd (s : ByteArray) : ∀ n a, a ≤ s.size → Clean s a → prD n (toks s a) = if (rdD s n a).2.e = 0 then some ((rdD s n a).1.dat, toks s (rdD s n a).2.a) else none := by
  intro n
  induction n with
  | zero =>
    intro a ha hc
    rw [prD, rdD_eq]
    split
    · exact (if_neg n4).symm
    · split
      · exact (if_neg n4).symm
      · exact (if_neg n3).symm
  | succ n ih =>
    intro a ha hc
    have eq := rdD_eq s (n + 1) a
    rcases Nat.lt_or_ge a s.size with hlt | hge
    · rw [if_neg (by omega)] at eq
      cases hl : letC (bt s (a : Int)) with
      | true =>
        have ht := toks_at_let hlt hc hl
        have hgt := letE_gt hlt hl
        have hh : hd0 (s.extract a (letE s a)).data.toList = bt s (a : Int) := by
          rw [ext_list]
          obtain ⟨c, h1, h2⟩ := bt_drop0 s a hlt
          rw [h1, show letE s a - a = (letE s a - a - 1) + 1 by omega, List.take_succ_cons, h2]; rfl
        rw [hl, if_neg (by simp)] at eq
        simp only [] at eq
        have h39 : ¬ bt s (a : Int) = 39 := fun h => by rw [h] at hl; exact absurd hl (by decide)
        rw [if_neg (fun g => h39 g.1), if_pos trivial] at eq
        rw [eq, ht, prD, hh, if_pos hl, mkB_list]
        unfold atomR
        split
        · rfl
        · split
          · rfl
          · rfl
      | false =>
        obtain ⟨c, h1, ht⟩ := toks_at hlt hc hl
        have hh : hd0 [c] = bt s (a : Int) := h1.symm
        rw [ht, prD, hh, if_neg (by rw [hl]; decide)]
        have h5 := toks_skp s _ (a + 1) (Nat.le_refl _)
        have h8 := skp_le s (a + 1) (by omega)
        rw [hl] at eq
        by_cases h39 : bt s (a : Int) = 39
        · rw [if_neg (fun g => g.2.1 h39)] at eq
          simp only [] at eq
          rw [if_pos h39]
          by_cases hn : n = 0
          · rw [if_pos ⟨h39, hn⟩] at eq
            rw [if_pos hn, eq]; rfl
          · rw [if_neg (fun g => hn g.2), if_neg (by decide), if_pos h39] at eq
            rw [if_neg hn, eq, ← h5.1, ih _ h8 (clean_skp s _)]
            by_cases he : (rdD s n (skp s (a + 1))).2.e = 0
            · rw [if_pos he, if_pos he]; rfl
            · rw [if_neg he, if_neg he]
        · rw [if_neg h39]
          by_cases h40 : bt s (a : Int) = 40
          · rw [if_neg (fun g => g.1 h40)] at eq
            simp only [] at eq
            rw [if_neg (fun g => h39 g.1), if_neg (by decide), if_neg h39] at eq
            rw [if_pos h40, eq, ← h5.1]
            have key := prL_rd ih (s.size + 1) ((toks s (skp s (a + 1))).length + 1) (skp s (a + 1)) .nil h8 (clean_skp s _) (by omega) (Nat.le_refl _)
            rw [show (Nds.nil).dat = Dats.nil from rfl] at key
            rw [key]
            by_cases he : (rdL (rdD s n) s (s.size + 1) ⟨skp s (a + 1), 0, 0⟩ .nil).2.e = 0
            · rw [if_pos he, if_pos he]; rfl
            · rw [if_neg he, if_neg he]
          · rw [if_pos ⟨h40, h39, rfl⟩] at eq
            rw [if_neg h40, eq]
            exact (if_neg n4).symm
    · rw [if_pos hge] at eq
      rw [toks_out s a hge, prD, eq]; exact (if_neg n4).symm
end Seat
end Go.Proofs.YtenpjkcclmmlhaaDoor
