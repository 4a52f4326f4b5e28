/- Abstract states (own engine), part V: appends to slices of a box, whose cells nobody looks at. -/
import Derived.Test.YteimebpgmfhgjaaDoorEngU
namespace Go.AS
open Go.RowKit
set_option linter.unusedVariables false
set_option linter.unusedSimpArgs false
section
variable {G : Prg} {C : Ctx} {Q : AEx → AS → Prop} {K : AS → Prop} {st : AS} {E : Env} {a : Act} {w w' : World}
theorem setRow_put {w : World} {g : Nat} {c : Array Value} {ty : TypeId} (vs : List Value) (h : w.heap[g]? = some (.cells c ty (0, 0))) : w.setRow g vs.toArray = putBlk w g vs ty := by
  unfold World.setRow putBlk
  congr 1
  apply Array.ext_getElem?
  intro i
  rw [Array.getElem?_modify, Array.getElem?_setIfInBounds]
  by_cases hi : g = i
  · subst hi
    rw [if_pos rfl, if_pos rfl, if_pos (lt_of_some h), h]
    rfl
  · rw [if_neg hi, if_neg hi]
theorem Rel.drew (hr : Rel G C E st a w) : Rel G C E st a w.drew :=
  ⟨hr.defers, hr.size, hr.fr.move fun x v hv => hv.move (Nat.le_refl _) (Nat.le_refl _) (fun _ _ => rfl) (fun _ _ => rfl) (fun _ h => h) (fun _ _ => rfl), hr.hp.grow (Nat.le_refl _) (fun _ _ => rfl), hr.lo, hr.nb, hr.β, hr.own, hr.up, hr.dn, hr.keep, hr.os, hr.tape, hr.out, hr.sz, hr.rows⟩
theorem SOp.scrRoom {o : Oper} {s x : Operand} {t e : TypeId} {tdt td : TD} {b n m k : Nat} {cs : List PV} (ho : o.op = .call ⟨.builtin .append, #[s, x], #[t, t]⟩) (hs : st.ev G.Γ s = .bsl b n m) (hx : st.ev G.Γ x = .slice k cs)
    (hb : st.h.bx[b]? = some ⟨List.replicate m .junk, e⟩) (ht : G.T t = some tdt) (hk : tdt.k = .slice e) (hte : G.T e = some td) (hz : td.size = 1) (hlen : cs.length = k) (hk0 : 0 < k) (hroom : n + k ≤ m) (hd : dstOk C.nt o.dst = true)
    (h : K (st.put o.dst (.bsl b (n + k) m))) : SOp G C o Q K st := fun E a w hr => by
  obtain ⟨d, hu, hdd⟩ := (G.hT _ _ ht).und
  rw [hk] at hdd
  cases hdd
  obtain ⟨i, z, hi, his, hiby, hiz, hizc⟩ := (G.hT _ _ hte).info
  have hsv := ev_rep hr.fr hr.hp s
  rw [hs] at hsv
  obtain ⟨hv, hbn, hnm⟩ := hsv.bsl_inv
  have hxv := ev_rep hr.fr hr.hp x
  rw [hx] at hxv
  obtain ⟨cur, hcur, hcr⟩ := hr.hp.box b _ hb
  have hcl : cur.length = m := by rw [hcr.1]; simp
  rcases hxv.slice_inv with ⟨_, h0, _⟩ | ⟨ad, c, vs, h1, h2, h3, h4, h5, h6⟩
  · omega
  · have hvl : vs.length = k := by rw [h5.1, hlen]
    have hrun := run_append_room (P := G.P) w t o.type e i hu hi (E.β b) n m cur.toArray hcur ad k c vs (by rw [his, hz, hvl, Nat.mul_one]) h4 h6 hroom (by rw [his, hz, hvl]; simp; omega)
    unfold Oper.wp execOp
    simp only [ho, resolve, invoke, builtin, Sem.run_bind, Sem.run_pure, Result.andThen_ok, List.map_toArray, List.map_cons, List.map_nil, h1, hv, hrun, Oper.upon]
    rw [setRow_put _ hcur]
    have hp := hr.putBox hb (cs := List.replicate m .junk) (vs := List.take (n * i.size) cur.toArray.toList ++ vs ++ List.drop (n * i.size + vs.length) cur.toArray.toList) (junks_rep _ _ (by
      rw [his, hz, Nat.mul_one]
      simp
      omega))
    have he : ({ st with h := { st.h with bx := st.h.bx.set b ⟨List.replicate m .junk, e⟩ } } : AS) = st := by
      have : st.h.bx.set b ⟨List.replicate m .junk, e⟩ = st.h.bx := by
        apply List.ext_getElem?
        intro j
        by_cases hj : b = j
        · subst hj; rw [List.getElem?_set_self (List.getElem?_eq_some_iff.1 hb).1, hb]
        · rw [List.getElem?_set_ne hj]
      rw [this]
    rw [he] at hp
    exact ⟨_, E, h, hp.put hd (.bsl hbn hroom)⟩
theorem SOp.scrGrow {o : Oper} {s x : Operand} {t e : TypeId} {tdt td : TD} {b n m k : Nat} {cs : List PV} (ho : o.op = .call ⟨.builtin .append, #[s, x], #[t, t]⟩) (hs : st.ev G.Γ s = .bsl b n m) (hx : st.ev G.Γ x = .slice k cs)
    (hb : st.h.bx[b]? = some ⟨List.replicate m .junk, e⟩) (ht : G.T t = some tdt) (hk : tdt.k = .slice e) (hte : G.T e = some td) (hz : td.size = 1) (hzl : td.zero.length = 1) (hlen : cs.length = k) (hk0 : 0 < k) (hroom : m < n + k) (hbig : (n + k) * td.bytes ≤ 140737488355328) (h63 : n + k ≤ 9223372036854775807) (hd : dstOk C.nt o.dst = true)
    (h : ∀ c, n + k ≤ c → K (({ st with h := { st.h with bx := st.h.bx ++ [⟨List.replicate c .junk, e⟩] } } : AS).put o.dst (.bsl st.h.bx.length (n + k) c))) : SOp G C o Q K st := fun E a w hr => by
  obtain ⟨d, hu, hdd⟩ := (G.hT _ _ ht).und
  rw [hk] at hdd
  cases hdd
  obtain ⟨i, z, hi, his, hiby, hiz, hizc⟩ := (G.hT _ _ hte).info
  have hsv := ev_rep hr.fr hr.hp s
  rw [hs] at hsv
  obtain ⟨hv, hbn, hnm⟩ := hsv.bsl_inv
  have hxv := ev_rep hr.fr hr.hp x
  rw [hx] at hxv
  obtain ⟨cur, hcur, hcr⟩ := hr.hp.box b _ hb
  have hcl : cur.length = m := by rw [hcr.1]; simp
  have hzc : z.cells.size = 1 := by rw [← hzl, ← hizc]; simp
  rcases hxv.slice_inv with ⟨_, h0, _⟩ | ⟨ad, c, vs, h1, h2, h3, h4, h5, h6⟩
  · omega
  · have hvl : vs.length = k := by rw [h5.1, hlen]
    have hrun := run_append_grow (P := G.P) w t o.type e i z hu hi hiz ⟨E.β b, 0, none⟩ n m (cur.take n) (by rw [his, hz]; simp; omega) (fun j u hu' => by
      rw [cell_of_blk hcur, Nat.zero_add]
      rw [List.getElem?_take] at hu'
      split at hu'
      · exact hu'
      · cases hu') ad k c vs (by rw [his, hz, hvl, Nat.mul_one]) h4 hroom (by omega) (growslice_fits hroom (by rw [hiby]; exact hbig))
    unfold Oper.wp execOp
    simp only [ho, resolve, invoke, builtin, Sem.run_bind, Sem.run_pure, Result.andThen_ok, List.map_toArray, List.map_cons, List.map_nil, h1, hv, hrun, Oper.upon]
    have hc := grownCap_ge w (n + k) m e
    have hbox := hr.drew.newBox (cs := List.replicate (grownCap w (n + k) m e) .junk) (vs := ((cur.take n).toArray ++ vs.toArray ++ Builtin.zeroCells z.cells (grownCap w (n + k) m e - (n + k))).toList) (junks_rep _ _ (by
      simp [size_zeroCells, hzc, hvl]
      omega)) e
    rw [Array.toArray_toList] at hbox
    refine ⟨_, _, h _ hc, hbox.put hd ?_⟩
    have hsz : w.drew.heap.size = w.heap.size := rfl
    have := (VRep.bsl (E := E.newBox w.drew.heap.size) (w := w.drew.alloc (.cells ((cur.take n).toArray ++ vs.toArray ++ Builtin.zeroCells z.cells (grownCap w (n + k) m e - (n + k))) e)) (b := st.h.bx.length) (n := n + k) (m := grownCap w (n + k) m e) (by rw [← hr.hp.nb]; simp [Env.newBox]) hc)
    have hβ : (E.newBox w.drew.heap.size).β st.h.bx.length = w.heap.size := by rw [← hr.hp.nb]; simp [Env.newBox, hsz]
    rw [hβ] at this
    exact this
theorem SOp.scrNil {o : Oper} {s x : Operand} {t e : TypeId} {tdt td : TD} {k : Nat} {cs : List PV} (ho : o.op = .call ⟨.builtin .append, #[s, x], #[t, t]⟩) (hs : st.ev G.Γ s = .nil) (hx : st.ev G.Γ x = .slice k cs)
    (ht : G.T t = some tdt) (hk : tdt.k = .slice e) (hte : G.T e = some td) (hz : td.size = 1) (hzl : td.zero.length = 1) (hlen : cs.length = k) (hk0 : 0 < k) (hbig : k * td.bytes ≤ 281474976710656) (h63 : k ≤ 9223372036854775807) (hd : dstOk C.nt o.dst = true)
    (h : ∀ c, k ≤ c → K (({ st with h := { st.h with bx := st.h.bx ++ [⟨List.replicate c .junk, e⟩] } } : AS).put o.dst (.bsl st.h.bx.length k c))) : SOp G C o Q K st := fun E a w hr => by
  obtain ⟨d, hu, hdd⟩ := (G.hT _ _ ht).und
  rw [hk] at hdd
  cases hdd
  obtain ⟨i, z, hi, his, hiby, hiz, hizc⟩ := (G.hT _ _ hte).info
  have hsv := ev_rep hr.fr hr.hp s
  rw [hs] at hsv
  have hv := hsv.nil_inv
  have hxv := ev_rep hr.fr hr.hp x
  rw [hx] at hxv
  have hzc : z.cells.size = 1 := by rw [← hzl, ← hizc]; simp
  rcases hxv.slice_inv with ⟨_, h0, _⟩ | ⟨ad, c, vs, h1, h2, h3, h4, h5, h6⟩
  · omega
  · have hvl : vs.length = k := by rw [h5.1, hlen]
    have hrun := run_append_nil (P := G.P) w t o.type e i z hu hi hiz ad k c vs (by rw [his, hz, hvl, Nat.mul_one]) h4 hk0 (by omega) (by rw [hiby]; exact hbig)
    unfold Oper.wp execOp
    simp only [ho, resolve, invoke, builtin, Sem.run_bind, Sem.run_pure, Result.andThen_ok, List.map_toArray, List.map_cons, List.map_nil, h1, hv, hrun, Oper.upon]
    have hc := grownCap_ge w k 0 e
    have hbox := hr.drew.newBox (cs := List.replicate (grownCap w k 0 e) .junk) (vs := (vs.toArray ++ Builtin.zeroCells z.cells (grownCap w k 0 e - k)).toList) (junks_rep _ _ (by
      simp [size_zeroCells, hzc, hvl]
      omega)) e
    rw [Array.toArray_toList] at hbox
    refine ⟨_, _, h _ hc, hbox.put hd ?_⟩
    have hsz : w.drew.heap.size = w.heap.size := rfl
    have := (VRep.bsl (E := E.newBox w.drew.heap.size) (w := w.drew.alloc (.cells (vs.toArray ++ Builtin.zeroCells z.cells (grownCap w k 0 e - k)) e)) (b := st.h.bx.length) (n := k) (m := grownCap w k 0 e) (by rw [← hr.hp.nb]; simp [Env.newBox]) hc)
    have hβ : (E.newBox w.drew.heap.size).β st.h.bx.length = w.heap.size := by rw [← hr.hp.nb]; simp [Env.newBox, hsz]
    rw [hβ] at this
    exact this
/-- The last boxes are let go. -/
theorem Rel.drop (hr : Rel G C E st a w) {m : Nat} (h1 : C.nb ≤ m) (h2 : m ≤ st.h.bx.length) (h3 : ((st.h.bx.take m).all fun b => scL m b.cs) = true) (h4 : (st.t.all fun p => p.2.sc m) = true) (h5 : st.h.rw = []) :
    Rel G C { E with nb := m, nr := 0 } { st with h := ⟨st.h.bx.take m, []⟩ } a w := by
  have hnb := hr.hp.nb
  have hlk : ∀ s, (lk st.t s).sc m = true := fun s => by
    generalize st.t = t at h4
    induction t with
    | nil => rfl
    | cons p t ih =>
      obtain ⟨i, x⟩ := p
      simp only [List.all_cons, Bool.and_eq_true] at h4
      simp only [lk]
      split
      · exact h4.1
      · exact ih h4.2
  refine ⟨hr.defers, hr.size, fun s => (hr.fr s).sc (hlk s) (Nat.le_refl _) (fun _ _ => rfl) rfl, close_hp hr h2 h3, hr.lo, h1, hr.β, fun i hi hj => hr.own i hi (by simp only [] at hj; omega), hr.up, hr.dn, hr.keep, hr.os, hr.tape, hr.out, hr.sz, fun j s k hj => by simp at hj⟩
theorem SWP.drop {c : Code} (m : Nat) (h1 : C.nb ≤ m) (h2 : m ≤ st.h.bx.length) (h3 : ((st.h.bx.take m).all fun b => scL m b.cs) = true) (h4 : (st.t.all fun p => p.2.sc m) = true) (h5 : st.h.rw = []) (h : SWP G C c Q { st with h := ⟨st.h.bx.take m, []⟩ }) : SWP G C c Q st := fun E a w hr =>
  h _ a w (hr.drop h1 h2 h3 h4 h5)
end
end Go.AS
