/- Abstract states (own engine), part H: append, literals of slices, stores into rows. -/
import Derived.Test.YteimebpgmfhgjaaDoorEngG
import Derived.Maps.AppendAt
namespace Go.AS
open Go.RowKit
set_option linter.unusedVariables false
set_option linter.unusedSimpArgs false

section
variable {G : Prg} {C : Ctx} {Q : AEx → AS → Prop} {K : AS → Prop} {st : AS} {E : Env} {a : Act} {w w' : World}

/-- Row r has turned, and grown: what the state is behind it. -/
theorem Rel.setRow (hr : Rel G C E st a w) {r : Nat} {x y : Row} {v : Value} {ys : List Value} (hx : st.h.rw[r]? = some (some x)) (hty : y.ty = x.ty) (hsz : y.sz = x.sz)
    (ho : w'.ownsRow E.lo y.ty y.sz v y.n ys) (hy : IReps E.im w y.cs ys) (h1 : ∀ u ∈ ys, u.oneCell' = true) (hg : w.grownBy w' (E.ρ r).ownBlock) (hv : v.ownBlock = (E.ρ r).ownBlock ∨ v.ownBlock = some w.heap.size) :
    Rel G C (E.setRow r v) (st.setRow r y) a w' ∧ VRep (E.setRow r v) w' (.own r y.n) v := by
  have hrn : r < E.nr := by rw [hr.hp.nr]; exact (List.getElem?_eq_some_iff.1 hx).1
  have him : ∀ k, E.im k → w'.heap[k]? = w.heap[k]? := fun k hk => hg.block k (hr.hp.im_lt k hk) (fun he => hr.hp.im_r k r x hx hk he.symm)
  have hρ : ∀ i, i ≠ r → (E.setRow r v).ρ i = E.ρ i := fun i hi => by simp [Env.setRow, hi]
  have hρr : (E.setRow r v).ρ r = v := by simp [Env.setRow]
  have mv : ∀ z u, VRep E w z u → VRep (E.setRow r v) w' (z.kill r) u := fun z u hz => hz.kill rfl rfl rfl hρ (fun _ h => h) him
  have hbx : ∀ i, i < E.nb → w'.heap[E.β i]? = w.heap[E.β i]? := fun i hi => hg.block _ (hr.hp.bx_lt hi) (fun he => hr.hp.brw i r x hi hx he.symm)
  have split : ∀ (j : Nat) (s : Row), (st.h.rw.set r (some y))[j]? = some (some s) → (j ≠ r ∧ st.h.rw[j]? = some (some s)) ∨ (j = r ∧ s = y) := fun j s hj => by
    by_cases hjr : r = j
    · subst hjr
      rw [List.getElem?_set_self (List.getElem?_eq_some_iff.1 hx).1] at hj
      exact .inr ⟨rfl, by simpa using hj.symm⟩
    · rw [List.getElem?_set_ne hjr] at hj
      exact .inl ⟨Ne.symm hjr, hj⟩
  have hvk : ∀ k, v.ownBlock = some k → (E.ρ r).ownBlock = some k ∨ k = w.heap.size := fun k hk => by
    rcases hv with h | h
    · exact .inl (h ▸ hk)
    · rw [h] at hk; exact .inr (Option.some.inj hk).symm
  have hoth : ∀ (j : Nat) (s : Row) (k : Nat), j ≠ r → st.h.rw[j]? = some (some s) → (E.ρ j).ownBlock = some k → k < w.heap.size ∧ (E.ρ r).ownBlock ≠ some k := fun j s k hne hj hk => by
    obtain ⟨xs, hoj, _⟩ := hr.hp.row j s hj
    exact ⟨(ownsRow_lt hoj hk).2, fun he => hne (hr.hp.rinj j r s x k hj hx hk he)⟩
  have hform : ∃ A c, v = .slice A y.n c := by
    rcases ho.2 with ⟨h, h2⟩ | ⟨g, cap, cur, h, _⟩
    · exact ⟨none, 0, by rw [h, h2]⟩
    · exact ⟨_, _, h⟩
  refine ⟨⟨hr.defers, hr.size, fun s => ?_, ⟨by simp [AS.setRow, killB_map, Env.setRow, hr.hp.nb], by simp [AS.setRow, Env.setRow, hr.hp.nr], Nat.le_trans hr.hp.lo hg.size, fun i b hb => ?_, fun j s hj => ?_, hr.hp.inj, fun i j s t k hi hj hki hkj => ?_, fun i j s hi hj => ?_, fun k hk => Nat.lt_of_lt_of_le (hr.hp.im_lt k hk) hg.size, hr.hp.im_b, fun k j s hj hk => ?_, fun g cs hgl => (hr.hp.gl g cs hgl).move (fun _ h => h) him⟩,
    hr.lo, hr.nb, hr.β, hr.own, hr.up, hr.dn, fun k h1 h2 h3 => ?_, hg.os.trans hr.os, hg.tape.trans hr.tape, hg.output.trans hr.out, Nat.le_trans hr.sz hg.size, fun j s k hj hk => by
      rcases split j s hj with ⟨hne, hj⟩ | ⟨rfl, _⟩
      · rw [hρ j hne] at hk; exact hr.rows j s k hj hk
      · rw [hρr] at hk
        rcases hvk k hk with h | h
        · exact hr.rows _ x k hx h
        · subst h; exact .inl hr.sz⟩, ?_⟩
  · simp only [AS.setRow]; rw [lk_killT]; exact mv _ _ (hr.fr s)
  · simp only [AS.setRow, killB_map, List.getElem?_map] at hb
    obtain ⟨b0, hb0, rfl⟩ := Option.map_eq_some_iff.1 hb
    obtain ⟨vs, hvs, hvr⟩ := hr.hp.box i b0 hb0
    have hin : i < E.nb := by rw [hr.hp.nb]; exact (List.getElem?_eq_some_iff.1 hb0).1
    exact ⟨vs, (hbx i hin).trans hvs, hvr.kill mv⟩
  · rcases split j s hj with ⟨hne, hj⟩ | ⟨rfl, rfl⟩
    · obtain ⟨zs, hoz, hz, h1z⟩ := hr.hp.row j s hj
      refine ⟨zs, ?_, hz.move (fun _ h => h) him, h1z⟩
      rw [hρ j hne]
      exact ownsRow_move hoz fun k hk => hg.block k (hoth j s k hne hj hk).1 (fun he => (hoth j s k hne hj hk).2 he.symm)
    · exact ⟨ys, by rw [hρr]; exact ho, hy.move (fun _ h => h) him, h1⟩
  · rcases split i s hi with ⟨hni, hi'⟩ | ⟨hi', _⟩ <;> rcases split j t hj with ⟨hnj, hj'⟩ | ⟨hj', _⟩
    · rw [hρ i hni] at hki; rw [hρ j hnj] at hkj
      exact hr.hp.rinj i j s t k hi' hj' hki hkj
    · rw [hρ i hni] at hki; rw [hj', hρr] at hkj
      have h3 := hoth i s k hni hi' hki
      rcases hvk k hkj with h | h
      · exact absurd h h3.2
      · omega
    · rw [hi', hρr] at hki; rw [hρ j hnj] at hkj
      have h3 := hoth j t k hnj hj' hkj
      rcases hvk k hki with h | h
      · exact absurd h h3.2
      · omega
    · rw [hi', hj']
  · rcases split j s hj with ⟨hne, hj⟩ | ⟨rfl, _⟩
    · rw [hρ j hne]; exact hr.hp.brw i j s hi hj
    · rw [hρr]
      intro hc
      rcases hvk _ hc with h | h
      · exact hr.hp.brw i _ x hi hx h
      · have : E.β i < w.heap.size := hr.hp.bx_lt hi
        have h' : E.β i = w.heap.size := h
        omega
  · rcases split j s hj with ⟨hne, hj⟩ | ⟨rfl, _⟩
    · rw [hρ j hne]; exact hr.hp.im_r k j s hj hk
    · rw [hρr]
      intro hc
      rcases hvk _ hc with h | h
      · exact hr.hp.im_r k _ x hx hk h
      · have := hr.hp.im_lt k hk; omega
  · refine (hg.block k (Nat.lt_of_lt_of_le h1 hr.sz) fun he => ?_).trans (hr.keep k h1 h2 h3)
    rcases hr.rows r x k hx he.symm with h | h
    · omega
    · exact h3 h
  · obtain ⟨A, c, rfl⟩ := hform
    exact .own (m := y.n) (by simpa [Env.setRow] using hrn) hρr rfl

/-- What may be appended: its cells. -/
def srcOf : PV → Option (Nat × List PV)
  | .slice m cs => some (m, cs)
  | .nil => some (0, [])
  | _ => none
theorem IReps.append {im : Nat → Prop} {xs ys : List PV} {vs us : List Value} (h : IReps im w xs vs) (k : IReps im w ys us) : IReps im w (xs ++ ys) (vs ++ us) :=
  ⟨by simp [h.1, k.1], fun j x v hx hv => by
    rcases Nat.lt_or_ge j xs.length with hlt | hge
    · rw [List.getElem?_append_left hlt] at hx
      rw [List.getElem?_append_left (by rw [h.1]; exact hlt)] at hv
      exact h.2 j x v hx hv
    · rw [List.getElem?_append_right hge] at hx
      rw [List.getElem?_append_right (by rw [h.1]; exact hge), h.1] at hv
      exact k.2 _ x v hx hv⟩
theorem run_append_none {P : Program} {w : World} {t ty e : TypeId} {td : TD} (ht : P.underlying t = some (.slice e)) (hT : td.ok P e) {v : Value} {n : Nat} {xs : List Value} {base : Nat} (ho : w.ownsRow base e td.size v n xs) :
    (Builtin.append_ #[t, t] ty #[v, .slice none 0 0]).run P w = .ok v w := by
  have hs := wf_size hT w
  rcases ho.2 with ⟨rfl, hn⟩ | ⟨g, cap, cur, rfl, _, hg, hnc, _⟩
  · simp [Builtin.append_, wf_und ht, hs, Builtin.lenOf, Builtin.firstCells, Result.andThen]
  · simp [Builtin.append_, wf_und ht, hs, Builtin.lenOf, Builtin.firstCells, Result.andThen, hnc, storeCells]

theorem SOp.append {o : Oper} {s x : Operand} {t e : TypeId} {tdt td : TD} {r n m : Nat} {row : Row} {cs : List PV} (ho : o.op = .call ⟨.builtin .append, #[s, x], #[t, t]⟩) (hs : st.ev G.Γ s = .own r n) (hx : srcOf (st.ev G.Γ x) = some (m, cs))
    (hrow : st.h.rw[r]? = some (some row)) (ht : G.T t = some tdt) (hk : tdt.k = .slice e) (hte : G.T e = some td) (hty : row.ty = e) (hsz : row.sz = td.size) (hz : td.zero.length = td.size) (hpos : 0 < td.size)
    (hlen : cs.length = m * td.size) (hd : dstOk C.nt o.dst = true) (hb : (row.n + m) * td.bytes ≤ 140737488355328) (hm : row.n + m ≤ 9223372036854775807)
    (h : K ((st.setRow r ⟨row.cs ++ cs, row.n + m, row.ty, row.sz⟩).put o.dst (.own r (row.n + m)))) : SOp G C o Q K st := fun E a w hr => by
  obtain ⟨d, hu, hdd⟩ := (G.hT _ _ ht).und
  rw [hk] at hdd
  cases hdd
  obtain ⟨i, z, hi, his, hiby, hiz, hizc⟩ := (G.hT _ _ hte).info
  have hsv := ev_rep hr.fr hr.hp s
  rw [hs] at hsv
  obtain ⟨hrn, hv, _⟩ := hsv.own_inv
  have hxv := ev_rep hr.fr hr.hp x
  obtain ⟨xs, hox, hxs, h1x⟩ := hr.hp.row r row hrow
  subst hty
  rw [hsz] at hox
  have hexec : ∀ v' w', (Builtin.append_ #[t, t] o.type #[a.eval s, a.eval x]).run G.P w = .ok v' w' → (execOp a.eval o).run G.P w = .ok (.value v') w' := fun v' w' h => by
    simp [execOp, ho, resolve, invoke, builtin, h, Result.andThen]
  have done : ∀ (v' : Value) (w' : World) (news : List Value), (Builtin.append_ #[t, t] o.type #[a.eval s, a.eval x]).run G.P w = .ok v' w' → w'.ownsRow E.lo row.ty td.size v' (row.n + m) (xs ++ news) → IReps E.im w cs news → (∀ u ∈ news, u.oneCell' = true) →
      w.grownBy w' (E.ρ r).ownBlock → (v'.ownBlock = (E.ρ r).ownBlock ∨ v'.ownBlock = some w.heap.size) → o.wp G.P a w (fun a' w' => ∃ s E', K s ∧ Rel G C E' s a' w') (Post G C Q) := fun v' w' news hrun hown hn h1n hg hvb => by
    obtain ⟨h2, h3⟩ := hr.setRow (y := ⟨row.cs ++ cs, row.n + m, row.ty, row.sz⟩) hrow rfl rfl (by rw [hsz]; exact hown) (hxs.append hn) (fun u hu => (List.mem_append.1 hu).elim (h1x u) (h1n u)) hg hvb
    unfold Oper.wp
    rw [hexec _ _ hrun]
    exact ⟨_, _, h, h2.put hd h3⟩
  have hnone : a.eval x = .slice none 0 0 → m = 0 → cs = [] → o.wp G.P a w (fun a' w' => ∃ s E', K s ∧ Rel G C E' s a' w') (Post G C Q) := fun hxe hm0 hc0 => by
    subst hm0; subst hc0
    refine done (E.ρ r) w [] ?_ (by simpa using hox) ⟨rfl, fun j x v h => by simp at h⟩ (fun u hu => by cases hu) ⟨rfl, rfl, rfl, Nat.le_refl _, fun _ _ _ => rfl⟩ (.inl rfl)
    rw [hxe, hv]
    exact run_append_none hu (G.hT _ _ hte) hox
  unfold srcOf at hx
  split at hx
  · rename_i m' cs' he
    cases hx
    rw [he] at hxv
    rcases hxv.slice_inv with ⟨h1, h2, h3⟩ | ⟨ad, c, vs, h1, h2, h3, h4, h5, h6⟩
    · exact hnone h1 h2 h3
    · obtain ⟨v', w', hrun, hown, hg, _, hvb⟩ := run_append_own_at (P := G.P) w E.lo t o.type row.ty i z td.size td.bytes hu hi hiz his hiby (by rw [← hz, ← hizc]; simp) hpos (E.ρ r) row.n xs hox ad m c vs (by rw [h5.1, hlen]) h4 h6 (by simp only [maxLen]; omega) hb hr.hp.lo
      exact done v' w' vs (by rw [h1, hv]; exact hrun) hown h5 h6 hg hvb
  · rename_i he
    cases hx
    rw [he] at hxv
    exact hnone hxv.nil_inv rfl rfl
  · cases hx

/-! ### '[]T{..}' -/
theorem junks_rep (n : Nat) (vs : List Value) (h : vs.length = n) : VReps E w (List.replicate n .junk) vs :=
  ⟨by simp [h], fun j x v hx hv => by
    rw [List.getElem?_replicate] at hx
    split at hx
    · cases hx; exact .junk v
    · cases hx⟩
def abuildSlice (sz len : Nat) (parts : List (Nat × PV)) : Option (List PV) := afill (fun i => some (i * sz, sz)) (List.replicate (len * sz) .junk) parts
theorem run_buildSlice {G : Prg} {E : Env} {w : World} {t e : TypeId} {tdt td : TD} {len : Nat} {ps : List (Nat × PV)} {qs : Array (Nat × Value)} {out : List PV} (ht : G.T t = some tdt) (hk : tdt.k = .slice e) (hte : G.T e = some td) (h : abuildSlice td.size len ps = some out) (hlim : len * td.size ≤ 16777216)
    (hi : qs.toList.map (·.1) = ps.map (·.1)) (hr : VReps E w (ps.map (·.2)) (qs.toList.map (·.2))) :
    ∃ us : List Value, (Instr.buildSlice t len qs).run G.P w = .ok (.slice (some ⟨w.heap.size, 0, none⟩) len len) (w.alloc (.cells us.toArray e)) ∧ VReps E w out us ∧ us.length = len * td.size := by
  obtain ⟨d, hu, hd⟩ := (G.hT _ _ ht).und
  rw [hk] at hd
  cases hd
  obtain ⟨i, z, hi', his, _, hiz, _⟩ := (G.hT _ _ hte).info
  have hs := wf_size (G.hT _ _ hte) w
  have key : ∀ zero : Array Value, ∃ us : List Value, Instr.fill (fun i => some (i * td.size, td.size)) ((Array.range (len * td.size)).map (zero[· % zero.size]!)) qs.toList = some us.toArray ∧ VReps E w out us := fun zero => by
    obtain ⟨us, h1, h2⟩ := afill_ok (E := E) (w := w) ps qs.toList _ out ((Array.range (len * td.size)).map (zero[· % zero.size]!)).toList h (junks_rep _ _ (by simp)) hi hr
    exact ⟨us, by rw [Array.toArray_toList] at h1; exact h1, h2⟩
  have hol : out.length = len * td.size := by
    have : ∀ (ps : List (Nat × PV)) (c o : List PV), afill (fun i => some (i * td.size, td.size)) c ps = some o → o.length = c.length := by
      intro ps
      induction ps with
      | nil => intro c o h; simp only [afill] at h; cases h; rfl
      | cons p ps ih =>
        intro c o h
        obtain ⟨i, x⟩ := p
        simp only [afill] at h
        split at h
        · rw [ih _ _ h, splice_length]
        · cases h
    rw [this _ _ _ h]; simp
  by_cases h0 : len * td.size = 0
  · obtain ⟨us, h1, h2⟩ := key #[]
    refine ⟨us, ?_, h2, by rw [h2.1, hol]⟩
    simp only [Instr.buildSlice, Sem.run_bind, wf_und hu, Result.andThen, hs, Sem.run_ite]
    rw [if_neg (by omega), if_pos h0]
    simp only [Sem.run_pure, Result.andThen, h1]
    rfl
  · obtain ⟨us, h1, h2⟩ := key z.cells
    refine ⟨us, ?_, h2, by rw [h2.1, hol]⟩
    simp only [Instr.buildSlice, Sem.run_bind, wf_und hu, Result.andThen, hs, Sem.run_ite]
    rw [if_neg (by omega), if_neg h0]
    simp only [zeroValue, typeInfo, Sem.run_bind, run_program, Result.andThen, hi', hiz, Sem.run_pure, h1]
    rfl

/-- Some new block, immutable from the start. -/
theorem Rel.newIm (hr : Rel G C E st a w) (cells : List Value) (e : TypeId) : Rel G C (E.more fun k => E.im k ∨ k = w.heap.size) st a (w.alloc (.cells cells.toArray e)) := by
  have hk : ∀ k, k < w.heap.size → (w.alloc (.cells cells.toArray e)).heap[k]? = w.heap[k]? := fun k hk => Below.heap_alloc w _ k hk
  have hg := hr.grow (w' := w.alloc (.cells cells.toArray e)) (by simp) hk rfl rfl rfl
  have hi : ∀ k, E.im k → (E.im k ∨ k = w.heap.size) := fun k h => .inl h
  refine ⟨hg.defers, hg.size, hg.fr.move fun x v hx => hx.more hi, hg.hp.more hi (fun k h => ?_) (fun k i h1 h2 => ?_) (fun k j s h1 h2 => ?_), hg.lo, hg.nb, hg.β, hg.own, fun k h => .inl (hg.up k h), fun k h => ?_, hg.keep, hg.os, hg.tape, hg.out, hg.sz, hg.rows⟩
  · rcases h with h | h
    · exact hg.hp.im_lt k h
    · subst h; simp
  · rcases h2 with h2 | h2
    · exact hr.hp.im_b k i h1 h2
    · have := hr.hp.bx_lt h1; omega
  · rcases h2 with h2 | h2
    · exact hr.hp.im_r k j s h1 h2
    · intro hc
      obtain ⟨xs, ho, _⟩ := hr.hp.row j s h1
      have := (ownsRow_lt ho hc).2
      omega
  · rcases h with h | h
    · exact hr.dn k h
    · subst h; exact .inr (.inl hr.sz)

theorem SOp.buildSlice {o : Oper} {t e : TypeId} {tdt td : TD} {len : Nat} {parts : Array (Nat × Operand)} {out : List PV} (ho : o.op = .buildSlice t len parts) (ht : G.T t = some tdt) (hk : tdt.k = .slice e) (hte : G.T e = some td)
    (hout : abuildSlice td.size len (parts.toList.map fun p => (p.1, st.ev G.Γ p.2)) = some out) (hlim : len * td.size ≤ 16777216) (hp : pureL out = true) (h1 : allOne out = true) (hd : dstOk C.nt o.dst = true)
    (h : K (st.put o.dst (.slice len out))) : SOp G C o Q K st := fun E a w hr => by
  obtain ⟨us, hrun, hus, hul⟩ := run_buildSlice (E := E) (w := w) (qs := parts.map fun p => (p.1, a.eval p.2)) ht hk hte hout hlim (by simp) (by
    have := evs_rep hr.fr hr.hp (parts.toList.map (·.2))
    simpa [Function.comp_def] using this)
  have hn := hr.newIm us e
  have hgr : ∀ k, k < w.heap.size → (w.alloc (.cells us.toArray e)).heap[k]? = w.heap[k]? := fun k hk => Below.heap_alloc w _ k hk
  have hus' : IReps (E.more fun k => E.im k ∨ k = w.heap.size).im (w.alloc (.cells us.toArray e)) out us := (hus.pure hp).move (fun k h => .inl h) (fun k hk => hgr k (hr.hp.im_lt k hk))
  unfold Oper.wp execOp
  simp only [ho, Sem.run_bind, hrun, Result.andThen, Sem.run_pure, Oper.upon]
  refine ⟨_, _, h, hn.put hd (.imm (.slice (Nat.le_refl _) hus'.1 (fun _ => .inr rfl) (fun j u hu => ?_) (allOne_ok hus h1) hus'.2))⟩
  rw [cell_of_blk (vs := us) (t := e) (fz := (0, 0)) (heap_alloc_new w _)]
  simpa using hu
/-- The same, for a row that is appended to, or written. -/
theorem SOp.buildRow {o : Oper} {t e : TypeId} {tdt td : TD} {len : Nat} {parts : Array (Nat × Operand)} {out : List PV} (ho : o.op = .buildSlice t len parts) (ht : G.T t = some tdt) (hk : tdt.k = .slice e) (hte : G.T e = some td)
    (hout : abuildSlice td.size len (parts.toList.map fun p => (p.1, st.ev G.Γ p.2)) = some out) (hlim : len * td.size ≤ 16777216) (hlen : len ≤ 16777216) (hp : pureL out = true) (h1 : allOne out = true) (hd : dstOk C.nt o.dst = true)
    (h : K ((st.newRow ⟨out, len, e, td.size⟩).put o.dst (.own st.h.rw.length len))) : SOp G C o Q K st := fun E a w hr => by
  obtain ⟨us, hrun, hus, hul⟩ := run_buildSlice (E := E) (w := w) (qs := parts.map fun p => (p.1, a.eval p.2)) ht hk hte hout hlim (by simp) (by
    have := evs_rep hr.fr hr.hp (parts.toList.map (·.2))
    simpa [Function.comp_def] using this)
  have hgr : ∀ k, k < w.heap.size → (w.alloc (.cells us.toArray e)).heap[k]? = w.heap[k]? := fun k hk => Below.heap_alloc w _ k hk
  have hg := hr.grow (w' := w.alloc (.cells us.toArray e)) (by simp) hgr rfl rfl rfl
  have hus' : IReps E.im (w.alloc (.cells us.toArray e)) out us := (hus.pure hp).move (fun k h => h) (fun k hk => hgr k (hr.hp.im_lt k hk))
  have hb : ∀ k, (Value.slice (some ⟨w.heap.size, 0, none⟩) len len).ownBlock = some k → k = w.heap.size := fun k hk => by simpa [Value.ownBlock] using hk.symm
  obtain ⟨h2, h3⟩ := hg.newRow (x := ⟨out, len, e, td.size⟩) (v := .slice (some ⟨w.heap.size, 0, none⟩) len len) (xs := us)
    ⟨hul, .inr ⟨w.heap.size, len, us.toArray, rfl, hr.hp.lo, heap_alloc_new w _, Nat.le_refl _, by simp only [maxLen]; omega, by simpa using hul, by simp [← hul]⟩⟩ hus' (allOne_ok hus h1)
    (fun k i hi hk => by have := hb k hk; have := hr.hp.bx_lt hi; omega) (fun k hk him => by have := hb k hk; have := hr.hp.im_lt k him; omega)
    (fun k j s hj hk hc => by
      have := hb k hk
      obtain ⟨xs, ho, _⟩ := hr.hp.row j s hj
      have := (ownsRow_lt ho hc).2
      omega)
    (fun k hk => by have h0 := hb k hk; subst h0; exact .inl hr.sz)
  unfold Oper.wp execOp
  simp only [ho, Sem.run_bind, hrun, Result.andThen, Sem.run_pure, Oper.upon]
  exact ⟨_, _, h, h2.put hd h3⟩

/-- A store into a row of the call's own. -/
def AS.storeRow (st : AS) (r o : Nat) (x : Row) (cs : List PV) : AS := { st with h := { st.h with rw := st.h.rw.set r (some ⟨splice x.cs o cs, x.n, x.ty, x.sz⟩) } }
theorem SOp.storeRow {o : Oper} {t : TypeId} {p v : Operand} {r k : Nat} {x : Row} {td : TD} (ho : o.op = .store t p v) (hdst : o.dst = none) (hp : st.ev G.Γ p = .rpos r k) (hx : st.h.rw[r]? = some (some x)) (ht : G.T t = some td)
    (hpart : (st.ev G.Γ v).part = true) (h1 : allOne (st.ev G.Γ v).cells = true) (hpure : pureL (st.ev G.Γ v).cells = true) (hsz : (st.ev G.Γ v).cells.length = td.size) (hl : k + td.size ≤ x.cs.length) (h : K (st.storeRow r k x (st.ev G.Γ v).cells)) : SOp G C o Q K st := fun E a w hr => by
  have hpv := ev_rep hr.fr hr.hp p
  rw [hp] at hpv
  obtain ⟨hrn, ad, m, c, hρ, he⟩ := hpv.rpos_inv
  have hv := (ev_rep hr.fr hr.hp v).cells' hpart
  obtain ⟨xs, hox, hxs, h1x⟩ := hr.hp.row r x hx
  obtain ⟨hxl, hz⟩ := hox
  rcases hz with ⟨hz, _⟩ | ⟨g, cap, cur, hz, hlo, hg, hnc, hcap, hcs, htk⟩
  · rw [hρ] at hz; cases hz
  rw [hρ] at hz
  cases hz
  have hle : k + td.size ≤ xs.length := by rw [hxs.1]; exact hl
  have hcl : xs.length ≤ cur.toList.length := by rw [← htk]; simp; omega
  have hone := allOne_ok hv h1
  have hnl : (a.eval v).cells.toList.length = td.size := by rw [hv.1, hsz]
  have hrun := run_storeAt_put (P := G.P) (G.hT _ _ ht) (o := k) (cur := cur.toList) (by simpa using hg) (v := a.eval v) (by simpa using hnl) (by omega) hone
  have hgb : (E.ρ r).ownBlock = some g := by rw [hρ]; rfl
  have hne : ∀ i, E.im i → i ≠ g := fun i hi he => hr.hp.im_r i r x hx hi (he ▸ hgb)
  have mv : ∀ z u, VRep E w z u → VRep E (putBlk w g (splice cur.toList k (a.eval v).cells.toList) x.ty) z u := fun z u hz => hz.move (Nat.le_refl _) (Nat.le_refl _) (fun _ _ => rfl) (fun _ _ => rfl) (fun _ h => h) (fun i hi => putBlk_ne (hne i hi))
  have mvi : ∀ ys us, IReps E.im w ys us → IReps E.im (putBlk w g (splice cur.toList k (a.eval v).cells.toList) x.ty) ys us := fun ys us h => h.move (fun _ h => h) (fun i hi => putBlk_ne (hne i hi))
  have hsplice : IReps E.im w (splice x.cs k (st.ev G.Γ v).cells) (splice xs k (a.eval v).cells.toList) := by
    have hp' : ∀ (l : List PV) (us : List Value) (o : Nat) (zs : List PV) (qs : List Value), IReps E.im w zs qs → IReps E.im w l us → IReps E.im w (splice zs o l) (splice qs o us) := by
      intro l
      induction l with
      | nil => intro us o zs qs hq hl; rw [List.eq_nil_of_length_eq_zero hl.1]; exact hq
      | cons y ys ih =>
        intro us o zs qs hq hl
        cases us with
        | nil => have := hl.1; simp at this
        | cons u us =>
          refine ih us (o + 1) _ _ ⟨by simp [hq.1], fun j x v hx hv => ?_⟩ ⟨by simpa using hl.1, fun j x v hx hv => hl.2 (j + 1) x v (by simpa using hx) (by simpa using hv)⟩
          by_cases hoj : o = j
          · subst hoj
            have hj := (List.getElem?_eq_some_iff.1 hx).1
            have hj2 := (List.getElem?_eq_some_iff.1 hv).1
            simp only [List.length_set] at hj hj2
            rw [List.getElem?_set_self hj] at hx
            rw [List.getElem?_set_self hj2] at hv
            cases hx; cases hv
            exact hl.2 0 y u rfl rfl
          · rw [List.getElem?_set_ne hoj] at hx hv
            exact hq.2 j x v hx hv
    exact hp' _ _ k _ _ hxs (hv.pure hpure)
  unfold Oper.wp execOp
  have hadd : (⟨g, 0, none⟩ : Addr).add k = ⟨g, k, none⟩ := by rw [add_none]; simp
  simp only [ho, he, hadd, Sem.run_bind, hrun, Result.andThen, Sem.run_pure, Oper.upon, hdst, Act.put]
  refine ⟨_, E, h, hr.defers, hr.size, hr.fr.move mv, ⟨hr.hp.nb, by simp [AS.storeRow, hr.hp.nr], by rw [putBlk_size]; exact hr.hp.lo, fun i b hb => ?_, fun j s hj => ?_, hr.hp.inj, fun i j s t k' hi hj => ?_, fun i j s hi hj => ?_, fun k' hk => by rw [putBlk_size]; exact hr.hp.im_lt k' hk, hr.hp.im_b, fun k' j s hj hk => ?_, fun g' cs hgl => (hr.hp.gl g' cs hgl).move (fun _ h => h) (fun i hi => putBlk_ne (hne i hi))⟩,
    hr.lo, hr.nb, hr.β, hr.own, hr.up, hr.dn, fun k' h1' h2' h3' => (putBlk_ne fun he' => ?_).trans (hr.keep k' h1' h2' h3'), hr.os, hr.tape, hr.out, (by rw [putBlk_size]; exact hr.sz), fun j s k' hj hk => by
      simp only [AS.storeRow] at hj
      by_cases hjr : r = j
      · subst hjr; exact hr.rows _ x k' hx hk
      · rw [List.getElem?_set_ne hjr] at hj; exact hr.rows j s k' hj hk⟩
  · obtain ⟨vs, hvs, hvr⟩ := hr.hp.box i b hb
    have hin : i < E.nb := by rw [hr.hp.nb]; exact (List.getElem?_eq_some_iff.1 hb).1
    exact ⟨vs, (putBlk_ne fun he' => hr.hp.brw i r x hin hx (by rw [hgb, he'])).trans hvs, hvr.move mv⟩
  · by_cases hjr : r = j
    · subst hjr
      simp only [AS.storeRow] at hj
      rw [List.getElem?_set_self (List.getElem?_eq_some_iff.1 hx).1] at hj
      cases hj
      refine ⟨splice xs k (a.eval v).cells.toList, ⟨by rw [splice_length]; exact hxl, .inr ⟨g, c, (splice cur.toList k (a.eval v).cells.toList).toArray, hρ, hlo, putBlk_at (lt_of_some hg), hnc, hcap, by simp [splice_length, hcs], ?_⟩⟩, mvi _ _ hsplice, fun u hu => ?_⟩
      · simp only []
        rw [splice_take _ _ _ _ (by rw [← hxl, hnl]; exact hle), htk]
      · have hsub : ∀ (l : List Value) (us : List Value) (o : Nat), u ∈ splice l o us → u ∈ l ∨ u ∈ us := by
          intro l us
          induction us generalizing l with
          | nil => intro o h; exact .inl h
          | cons y ys ih =>
            intro o h
            rcases ih _ _ h with h | h
            · rcases List.mem_or_eq_of_mem_set h with h | h
              · exact .inl h
              · exact .inr (by rw [h]; simp)
            · exact .inr (by simp [h])
        rcases hsub _ _ _ hu with h | h
        · exact h1x u h
        · exact hone u h
    · simp only [AS.storeRow] at hj
      rw [List.getElem?_set_ne hjr] at hj
      obtain ⟨ys, hoy, hy, h1y⟩ := hr.hp.row j s hj
      exact ⟨ys, ownsRow_move hoy fun k' hk => putBlk_ne fun he' => hjr (hr.hp.rinj r j x s g hx hj hgb (he' ▸ hk)), mvi _ _ hy, h1y⟩
  all_goals
    have gone : ∀ (j : Nat) (s : Row), (st.h.rw.set r (some ⟨splice x.cs k (st.ev G.Γ v).cells, x.n, x.ty, x.sz⟩))[j]? = some (some s) → ∃ s', st.h.rw[j]? = some (some s') := fun j s hj => by
      by_cases hjr : r = j
      · subst hjr; exact ⟨x, hx⟩
      · rw [List.getElem?_set_ne hjr] at hj; exact ⟨s, hj⟩
  · obtain ⟨s', hi'⟩ := gone i s hi
    obtain ⟨t', hj'⟩ := gone j t hj
    exact hr.hp.rinj i j s' t' k' hi' hj'
  · obtain ⟨s', hj'⟩ := gone j s hj
    exact hr.hp.brw i j s' hi hj'
  · obtain ⟨s', hj'⟩ := gone j s hj
    exact hr.hp.im_r k' j s' hj' hk
  · rcases hr.rows r x g hx hgb with h | h
    · omega
    · exact h3' (he' ▸ h)
end
end Go.AS
