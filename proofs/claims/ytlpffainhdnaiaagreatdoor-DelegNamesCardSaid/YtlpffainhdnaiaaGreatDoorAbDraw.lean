import Derived.Test.YtlpffainhdnaiaaGreatDoorAbDraw4
/- Open regions: sound. -/
namespace Go.Ab
open Go
noncomputable section

section
variable {c : Cfg} {body : Body} {P : Program} {G : Nat → AV} {ρ ρ' : Ren} {S : St} {w w' : World} {m : Mc}

theorem upd_fr (m : Mc) {d i q : Nat} {k : Blk} (h : ¬ (d = m.D ∧ i = q)) : (m.upd d i k).fr[q]? = m.fr[q]? := by
  unfold Mc.upd
  split
  · rename_i hd
    simp only
    rw [List.getElem?_set_ne]
    intro e
    exact h ⟨hd, e⟩
  · rfl

theorem upd_base (m : Mc) (d i : Nat) (k : Blk) : (m.upd d i k).base.length = m.base.length := by
  unfold Mc.upd
  split
  · rfl
  · exact St.length_upd ..

theorem push_fr (m : Mc) {k x : Blk} {q : Nat} (h : m.fr[q]? = some x) : (m.push k).fr[q]? = some x := by
  unfold Mc.push
  simp only
  rw [List.getElem?_append_left (List.getElem?_eq_some_iff.1 h).1]
  exact h

theorem drop_fr {m' : Mc} {k : Cls} (h : dropCell m k = some m') {q : Nat} {cs : List AV} (hq : m.fr[q]? = some (.cells cs [])) : m'.fr[q]? = some (.cells cs []) := by
  cases k with
  | reg d r =>
    simp only [dropCell, Option.some.injEq] at h
    exact h ▸ hq
  | cel d i j =>
    simp only [dropCell] at h
    split at h
    · rename_i cs0 ts0 hb
      injection h with h
      subst h
      by_cases hc : d = m.D ∧ i = q
      · obtain ⟨rfl, rfl⟩ := hc
        have hself : m.D = m.base.length := rfl
        unfold Mc.blk at hb
        rw [if_pos hself, hq] at hb
        injection hb with hb
        injection hb with e1 e2
        subst e1 e2
        unfold Mc.upd
        rw [if_pos hself]
        simp only [tsDel, List.filter_nil]
        rw [List.getElem?_set_self (List.getElem?_eq_some_iff.1 hq).1]
      · rw [upd_fr m hc]
        exact hq
    · cases h

/-- A new variable that nobody knows yet is not touched. -/
theorem eff_fr {o : Oper} {ev : Operand → AV} {et : Operand → Tag} {r : Tag × AV} {dr : Dr} {m' : Mc} (h : aEff P ev et m o = some (r, dr, m')) {val : Operand → Value} (hR : ∀ x, Rep ρ w (val x) (ev x))
    {q : Nat} {cs : List AV} (hno : ρ.mb m.D q = none) (hq : m.fr[q]? = some (.cells cs [])) : m'.fr[q]? = some (.cells cs []) := by
  have hb : ∀ {d i b : Nat}, ρ.mb d i = some b → ¬ (d = m.D ∧ i = q) := by
    rintro d i b hb ⟨rfl, rfl⟩
    rw [hno] at hb
    cases hb
  unfold aEff at h
  split at h
  · obtain ⟨v, _, e⟩ := Option.map_eq_some_iff.1 h
    injection e with _ e; injection e with _ e; subst e; exact hq
  · obtain ⟨v, hv, e⟩ := Option.map_eq_some_iff.1 h
    injection e with _ e; injection e with _ e; subst e
    unfold aAlloc at hv
    split at hv
    · injection hv with hv; subst hv; exact push_fr m hq
    · cases hv
  · obtain ⟨v, hv, e⟩ := Option.map_eq_some_iff.1 h
    injection e with _ e; injection e with _ e; subst e
    unfold aBox at hv
    split at hv
    · injection hv with hv; subst hv; exact push_fr m hq
    · cases hv
  · obtain ⟨v, _, e⟩ := Option.map_eq_some_iff.1 h
    injection e with _ e; injection e with _ e; subst e; exact hq
  · rename_i T x y ho
    obtain ⟨v, hv, e⟩ := Option.map_eq_some_iff.1 h
    obtain ⟨v1, v2⟩ := v
    injection e with _ e; injection e with _ e; subst e
    have hx := hR x
    unfold aStore at hv
    split at hv
    · rename_i L d i off _ hxv
      rw [hxv] at hx
      obtain ⟨b, hmb, _⟩ := hx.mp_inv
      have hne := hb hmb
      split at hv
      · split at hv
        · simp only at hv
          split at hv
          · injection hv with hv; injection hv with _ hv; subst hv; rw [upd_fr m hne]; exact hq
          · split at hv
            · injection hv with hv; injection hv with _ hv; subst hv; rw [upd_fr m hne]; exact hq
            · split at hv <;> (injection hv with hv; injection hv with _ hv; subst hv; rw [upd_fr m hne]; exact hq)
            · injection hv with hv; injection hv with _ hv; subst hv; rw [upd_fr m hne]; exact hq
        · cases hv
      · cases hv
    · cases hv
  · split at h
    · injection h with h; injection h with _ h; injection h with _ h; subst h; exact push_fr m hq
    · cases h
  · rename_i T l cp ho
    obtain ⟨v, hv, e⟩ := Option.map_eq_some_iff.1 h
    injection e with _ e; injection e with _ e; subst e
    unfold aMakeSlice at hv
    split at hv
    · split at hv
      · split at hv
        · obtain ⟨x, _, e⟩ := Option.map_eq_some_iff.1 hv
          subst e; exact hq
        · injection hv with hv; subst hv; exact push_fr m hq
      · cases hv
    · cases hv
  · obtain ⟨v, _, e⟩ := Option.map_eq_some_iff.1 h
    injection e with _ e; injection e with _ e; subst e; exact hq
  · rename_i T x k y ho
    obtain ⟨v, hv, e⟩ := Option.map_eq_some_iff.1 h
    injection e with _ e; injection e with _ e; subst e
    have hx := hR x
    unfold aMapUpdate at hv
    split at hv
    · cases hv
    · split at hv
      · rename_i d i s n hxv _ _
        rw [hxv] at hx
        obtain ⟨b, hmb, _⟩ := hx.map_inv
        split at hv
        · injection hv with hv; subst hv; rw [upd_fr m (hb hmb)]; exact hq
        · cases hv
      · cases hv
  · obtain ⟨v, hv, e⟩ := Option.map_eq_some_iff.1 h
    injection e with _ e; injection e with _ e; subst e
    unfold aRange at hv
    split at hv
    · injection hv with hv; subst hv; exact push_fr m hq
    · cases hv
  · rename_i x ho
    obtain ⟨v, hv, e⟩ := Option.map_eq_some_iff.1 h
    injection e with _ e; injection e with _ e; subst e
    have hx := hR x
    unfold aNext at hv
    split at hv
    · rename_i d i hxv
      rw [hxv] at hx
      obtain ⟨b, hmb, _⟩ := hx.itr_inv
      split at hv
      · split at hv
        · injection hv with hv; subst hv; simp only; rw [upd_fr m (hb hmb)]; exact hq
        · injection hv with hv; subst hv; exact hq
      · cases hv
    · cases hv
  · obtain ⟨v, _, e⟩ := Option.map_eq_some_iff.1 h
    injection e with _ e; injection e with _ e; subst e; exact hq
  · obtain ⟨v, _, e⟩ := Option.map_eq_some_iff.1 h
    injection e with _ e; injection e with _ e; subst e; exact hq
  · split at h
    · obtain ⟨k, _, hd⟩ := append_eff h
      exact drop_fr hd hq
    · cases h
  · split at h
    · rename_i x y T U hxs _
      obtain ⟨v, hv, e⟩ := Option.map_eq_some_iff.1 h
      injection e with _ e; injection e with _ e; subst e
      have hx := hR x
      unfold aCopy at hv
      split at hv
      · rename_i L d i off len s0 s _ hxv _
        rw [hxv] at hx
        obtain ⟨b, _, hmb, _⟩ := hx.ms_inv
        split at hv
        · split at hv
          · injection hv with hv; subst hv; simp only; rw [upd_fr m (hb hmb)]; exact hq
          · cases hv
        · cases hv
      · cases hv
    · cases h
  · cases h

/-- The new variables of a region, before they are made. -/
theorem zeros_get : ∀ (l : List Oper) (zs : List Blk), zerosOf P l = some zs → ∀ (p : Nat) (o : Oper) (T : TypeId), l[p]? = some o → o.op = .alloc T →
    ∃ L, layOf P T = some L ∧ zs[(l.take p).countP isAlloc]? = some (.cells L.zero []) := by
  intro l
  induction l with
  | nil => intro zs _ p o T h; simp at h
  | cons o0 l ih =>
    intro zs hz p o T hp ho
    have hal : ∀ T0, o0.op = .alloc T0 → isAlloc o0 = true := by
      intro T0 h0
      obtain ⟨dst, op, type, pos, after, guard⟩ := o0
      simp only at h0
      subst h0
      rfl
    cases p with
    | zero =>
      simp at hp
      subst hp
      simp only [zerosOf, ho] at hz
      split at hz
      · rename_i L hL
        obtain ⟨zs', _, rfl⟩ := Option.map_eq_some_iff.1 hz
        exact ⟨L, hL, by simp⟩
      · cases hz
    | succ p =>
      simp at hp
      simp only [zerosOf] at hz
      split at hz
      · rename_i T0 h0
        split at hz
        · obtain ⟨zs', h1, rfl⟩ := Option.map_eq_some_iff.1 hz
          obtain ⟨L, h2, h3⟩ := ih zs' h1 p o T hp ho
          refine ⟨L, h2, ?_⟩
          rw [List.take_succ_cons, List.countP_cons, hal T0 h0]
          simp only [if_true, List.getElem?_cons_succ]
          exact h3
        · cases hz
      · rename_i hno
        obtain ⟨L, h2, h3⟩ := ih zs hz p o T hp ho
        refine ⟨L, h2, ?_⟩
        have hna : isAlloc o0 = false := by
          obtain ⟨dst, op, type, pos, after, guard⟩ := o0
          cases op <;> first | rfl | exact absurd rfl (hno _)
        rw [List.take_succ_cons, List.countP_cons, hna]
        simpa using h3

theorem sim_zeros (h : Sim G ρ m.st w) (zs : List Blk) : Sim G ρ ({ m with fr := m.fr ++ zs } : Mc).st w ∧ Ext m.D ρ m.st w ρ ({ m with fr := m.fr ++ zs } : Mc).st w := by
  have hblk : ∀ d i k, m.st.blk d i = some k → ({ m with fr := m.fr ++ zs } : Mc).st.blk d i = some k := by
    intro d i k hk
    rw [Mc.st_blk] at hk ⊢
    unfold Mc.blk at hk ⊢
    split
    · rename_i hd
      rw [if_pos hd] at hk
      simp only
      rw [List.getElem?_append_left (List.getElem?_eq_some_iff.1 hk).1]
      exact hk
    · rename_i hd
      rw [if_neg hd] at hk
      exact hk
  have hmb : ∀ d i b, ρ.mb d i = some b → ({ m with fr := m.fr ++ zs } : Mc).st.blk d i = m.st.blk d i := by
    intro d i b hb
    obtain ⟨k, hk⟩ := Option.isSome_iff_exists.1 (h.dm d i b hb)
    rw [hk]
    exact hblk d i k hk
  have hown : ∀ d i b, own ρ ({ m with fr := m.fr ++ zs } : Mc).st d i = some b → own ρ m.st d i = some b := by
    intro d i b ho
    rw [own_congr (T := ({ m with fr := m.fr ++ zs } : Mc).st) (hmb d i b (own_blk ho).1).symm]
    exact ho
  refine ⟨⟨fun d i b hb => by rw [hmb d i b hb]; exact h.dm d i b hb, fun d i k hk => ?_, fun d i d' i' b h1 h2 => h.inj d i d' i' b (hown _ _ _ h1) (hown _ _ _ h2), ?_, h.im, h.glob⟩, Pers.refl .., rfl, rfl, rfl, Nat.le_refl _, by rw [Mc.st_length, Mc.st_length], fun _ _ _ => rfl, fun _ _ _ => ⟨rfl, fun _ => Iff.rfl⟩, fun b ho _ => ?_, fun _ _ _ => rfl, fun d => ?_⟩
  · have hno : (∃ b, ρ.mb d i = some b) ∨ ρ.mb d i = none := by cases ρ.mb d i <;> simp
    rcases hno with ⟨b, hb⟩ | hb
    · rw [hmb d i b hb] at hk
      exact h.ok d i k hk
    · cases k with
      | dead => trivial
      | cells cs ts => intro b hb'; rw [hb] at hb'; cases hb'
      | map l => intro b hb'; rw [hb] at hb'; cases hb'
      | iter s q => intro b hb'; rw [hb] at hb'; cases hb'
  · exact h.ow.same rfl (fun k b e m arr T _ hb => ⟨arr, T, hb, Nat.le_refl _⟩) (fun _ _ _ _ _ _ _ hi => hi) fun k b e m hk d i ho => ⟨d, i, hown d i b ho⟩
  · rcases ho with ⟨d, i, ho⟩ | ho
    · exact .inl ⟨d, i, hown d i b ho⟩
    · exact .inr ho
  · unfold St.len Mc.st
    rcases Nat.lt_trichotomy d m.base.length with hd | hd | hd
    · simp [List.getElem?_append_left hd]
    · subst hd; simp
    · rw [List.getElem?_eq_none (by simp; omega)]
      simp

/-- A place in a region's run, in whatever order. -/
structure Pend (c : Cfg) (N : Nat) (ops : Array Oper) (ρ0 : Ren) (m0 : Mc) (w0 : World) (l : List Nat) (e : Env) (m : Mc) (ρ : Ren) (a : Act) (w : World) : Prop where
  st : At c N ρ e m a w
  ext : Ext m0.D ρ0 m0.st w0 ρ m.st w
  len : m.base.length = m0.base.length
  pend : ∀ p ∈ l, ∀ o T, ops[p]? = some o → o.op = .alloc T → ∃ L, layOf c.P T = some L ∧ ρ.mb m0.D (ix m0.fr.length ops p) = none ∧ m.fr[ix m0.fr.length ops p]? = some (.cells L.zero [])

theorem isAlloc_of {o : Oper} {T : TypeId} (h : o.op = .alloc T) : isAlloc o = true := by
  obtain ⟨dst, op, type, pos, after, guard⟩ := o
  simp only at h
  subst h
  rfl

theorem ix_lt {ops : Array Oper} {n p q : Nat} {o : Oper} {T : TypeId} (hp : ops[p]? = some o) (ho : o.op = .alloc T) (h : p < q) : ix n ops p < ix n ops q := by
  unfold ix
  have h1 : (ops.toList.take (p + 1)).countP isAlloc = (ops.toList.take p).countP isAlloc + 1 := by
    rw [List.take_add_one, show ops.toList[p]? = some o by simpa using hp]
    simp [List.countP_append, isAlloc_of ho]
  have h2 : (ops.toList.take (p + 1)).countP isAlloc ≤ (ops.toList.take q).countP isAlloc := by
    refine List.Sublist.countP_le ?_
    exact (List.take_prefix_take_left (by omega)).sublist
  omega

/-- One step, in whatever order. -/
theorem pend_step (hc : CfgOk c) (hb : BodyOk c body) {N : Nat} {ops : Array Oper} (hok : OkD ops) {ρ0 : Ren} {m0 : Mc} {w0 : World} {l l' : List Nat} {e e1 : Env} {m1 : Mc} {a : Act} {p : Nat} (hl : ∀ q ∈ l', q ∈ l ∧ q ≠ p) (hpl : p ∈ l)
    (h : Pend c N ops ρ0 m0 w0 l e m ρ a w) (hst : stp c body m0.D m0.fr.length N ops p (e, m) = some (e1, m1)) {K : Act → World → Prop} {Q : Exit → Act → World → Prop}
    (hk : ∀ ρ' a' w', Pend c N ops ρ0 m0 w0 l' e1 m1 ρ' a' w' → K a' w') : wpOp c.P ops Q p K a w := by
  unfold stp at hst
  cases ho : ops[p]? with
  | none => simp [ho] at hst
  | some o =>
    simp only [ho, Option.bind_some] at hst
    have hD : m.D = m0.D := h.len
    by_cases ha : isAlloc o = true
    · -- a new variable
      obtain ⟨T, hT⟩ : ∃ T, o.op = .alloc T := by
        obtain ⟨dst, op, type, pos, after, guard⟩ := o
        cases op <;> first | exact ⟨_, rfl⟩ | cases ha
      obtain ⟨L, q1, q2, q3⟩ := h.pend p hpl o T ho hT
      have hg := hok.free p o ho ha
      rw [stepBy_act] at hst
      obtain ⟨r, hr, er⟩ := Option.map_eq_some_iff.1 hst
      have hopd : c.opD body m0.D (dq c.P ops m0.fr.length (ix m0.fr.length ops p) p) (opv c.G e) (opt e) m o = some ((.no, .mp m0.D (ix m0.fr.length ops p) 0), .keep, m) := by
        unfold Cfg.opD
        rw [hT]
        simp only [q1, dq]
      have hdst : dstOk N o = true := by
        unfold actBy at hr
        split at hr
        · assumption
        · cases hr
      have hr' : r = ((.no, .mp m0.D (ix m0.fr.length ops p) 0), .keep, m) := by
        unfold actBy at hr
        rw [hdst] at hr
        simp only [if_true, wantedA, hg, hopd] at hr
        injection hr with hr
        exact hr.symm
      subst hr'
      injection er with e1' e2'
      subst e1' e2'
      obtain ⟨z, z1, z2, z3, z4⟩ := lay_zero (w := w) q1
      have hcz : Cells ρ w z.cells L.zero := by rw [z4]; exact cells_av1 z3
      have hs := h.st.sim
      have hblk : m.st.blk m0.D (ix m0.fr.length ops p) = some (.cells L.zero []) := by
        rw [Mc.st_blk]
        unfold Mc.blk
        rw [if_pos (show m0.D = m.base.length from h.len.symm)]
        exact q3
      obtain ⟨g1, g2⟩ := sim_bind (d := m0.D) (i := ix m0.fr.length ops p) (S' := m.st) hs q2 (.cells L.zero []) (.cells z.cells T) (fun _ _ _ => rfl) hblk rfl (fun _ => Nat.le_refl _)
        (fun ρ' w' hp hn hm _ hh => blk_cells_new (by rw [← hcz.1]; exact Nat.le_refl _) (by rw [← hD]; exact cells_hyg hs hcz) hp hn hm hh)
      have g3 := g2 m0.D ρ0 m0.st w0 (by rw [Mc.st_len]; unfold ix; omega) h.ext
      have hp : Pers ρ w (ρ.add m0.D (ix m0.fr.length ops p) w.heap.size) (w.alloc (.cells z.cells T)) := by
        have hp0 := pers_alloc (ρ := ρ) (w := w) (.cells z.cells T) (fun b j hi => hs.im_lt hi)
        refine ⟨hp0.im, hp0.cell, hp0.zf, fun d' i' b hb' => ?_, rows_alloc w _⟩
        by_cases he : d' = m0.D ∧ i' = ix m0.fr.length ops p
        · obtain ⟨rfl, rfl⟩ := he; rw [q2] at hb'; cases hb'
        · rw [Ren.add_other ρ he]; exact hb'
      have henv : EnvOk (ρ.add m0.D (ix m0.fr.length ops p) w.heap.size) (w.alloc (.cells z.cells T)) m.D a.tmps (e.dr .keep) := h.st.env.pers hp fun _ _ _ _ _ _ => rfl
      unfold wpOp
      rw [ho]
      have hw : Region.wanted o (yielded ops a.tmps) = true := by simp [Region.wanted, hg]
      simp only [hw, if_true]
      refine .inl ?_
      unfold Oper.wp
      have hrun : (execOp a.eval o).run c.P w = .ok (.value (.pointer (some ⟨w.heap.size, 0, none⟩))) (w.alloc (.cells z.cells T)) := by
        simp [execOp, hT, Instr.alloc, newVar, newRow, z1]
      rw [hrun]
      refine hk (ρ.add m0.D (ix m0.fr.length ops p) w.heap.size) _ _ ⟨?_, g3, h.len, fun q hq o' T' ho' hT' => ?_⟩
      · exact at_put hdst h.st.size h.st.dfr (.mp 0 (Ren.add_same ..)) trivial (fun d q hq => by cases hq) g1 henv
      · obtain ⟨hq1, hq2⟩ := hl q hq
        obtain ⟨L', r1, r2, r3⟩ := h.pend q hq1 o' T' ho' hT'
        refine ⟨L', r1, ?_, r3⟩
        rw [Ren.add_other]
        · exact r2
        · rintro ⟨_, he⟩
          rcases Nat.lt_or_gt_of_ne hq2 with hlt | hlt
          · have := ix_lt (n := m0.fr.length) ho' hT' hlt; omega
          · have := ix_lt (n := m0.fr.length) ho hT hlt; omega
    · have ha' : isAlloc o = false := by simpa using ha
      refine step_sound ho (f := c.opD body m0.D (dq c.P ops m0.fr.length (ix m0.fr.length ops p) p)) (fun hs a e he t v dr m' hh K Q hk => opD_sound hc hb hs he ha' hh hk) hst h.st fun a' w' ⟨ρ', h1, h2, h3⟩ => ?_
      have h2' : Ext m0.D ρ m.st w ρ' m1.st w' := by rw [← hD]; exact h2
      refine hk ρ' a' w' ⟨h1, h.ext.trans h2', h3.trans h.len, fun q hq o' T' ho' hT' => ?_⟩
      obtain ⟨hq1, hq2⟩ := hl q hq
      obtain ⟨L', r1, r2, r3⟩ := h.pend q hq1 o' T' ho' hT'
      refine ⟨L', r1, ?_, ?_⟩
      · rw [h2'.mbk, r2]
        rw [← hD, Mc.st_len]
        exact (List.getElem?_eq_some_iff.1 r3).1
      · -- nobody has touched it
        have hnref : refOk ops p = false := by
          cases hrf : refOk ops p with
          | false => rfl
          | true =>
            unfold refOk at hrf
            have := all_zipIdx hrf q o' (by simpa using ho')
            simp only [Bool.and_eq_true, Bool.not_eq_true'] at this
            rw [isAlloc_of hT'] at this
            cases this.1
        rw [stepBy_act] at hst
        obtain ⟨r, hr, er⟩ := Option.map_eq_some_iff.1 hst
        injection er with _ e2
        subst e2
        unfold actBy at hr
        split at hr
        · split at hr
          · split at hr
            · by_cases k0 : opKind o = 0
              · rw [((light0 k0 _).keep _ _ _ _ hr).2]; exact r3
              by_cases k1 : opKind o = 1
              · rw [((light1 k1 _).keep _ _ _ _ hr).2]; exact r3
              by_cases k2 : opKind o = 2
              · obtain ⟨k, _, hd⟩ := eff2 k2 _ hr
                exact drop_fr hd r3
              by_cases k3 : opKind o = 3
              · rw [(eff3 k3 _ hnref hr).1]; exact r3
              · obtain ⟨r1', r2', r3'⟩ := r
                have heff : aEff c.P (opv c.G e) (opt e) m o = some (r1', r2', r3') := by
                  unfold Cfg.opD at hr
                  split at hr
                  · rename_i hx; exact absurd (isAlloc_of hx) ha
                  · rename_i hx; exfalso; apply k1; unfold opKind; rw [hx]
                  · split at hr
                    · cases hr
                    · exact hr
                  · split at hr
                    · cases hr
                    · exact hr
                  · rename_i hx; exfalso; apply k0; unfold opKind; rw [hx]
                  · rename_i hx; exfalso; apply k2; unfold opKind; rw [hx]
                  · rename_i hx; exfalso; apply k3; unfold opKind; rw [hx]
                  · rw [if_neg (by simpa using k0)] at hr
                    exact hr
                exact eff_fr heff (h.st.env.rdV h.st.sim.glob) (by rw [hD]; exact r2) r3
            · injection hr with hr
              subst hr
              exact r3
          · cases hr
        · cases hr

def unl (ops : Array Oper) (listed : Array Bool) : List Nat := (List.range ops.size).filter fun j => !listed.getD j true

theorem unl_set {ops : Array Oper} {listed : Array Bool} (hsz : listed.size = ops.size) {i : Nat} {l1 l2 : List Nat} (h : unl ops listed = l1 ++ i :: l2) : unl ops (listed.setIfInBounds i true) = l1 ++ l2 ∧ (∀ j ∈ l1, j < i) ∧ ∀ j ∈ l1 ++ l2, j ≠ i := by
  have hpw : (unl ops listed).Pairwise (· < ·) := (List.pairwise_lt_range (n := ops.size)).filter _
  have hpw' := hpw
  rw [h] at hpw'
  rw [List.pairwise_append] at hpw'
  obtain ⟨p1, p2, p3⟩ := hpw'
  rw [List.pairwise_cons] at p2
  have hne : ∀ j ∈ l1 ++ l2, j ≠ i := by
    intro j hj
    rcases List.mem_append.1 hj with hj | hj
    · have := p3 j hj i (List.mem_cons_self ..); omega
    · have := p2.1 j hj; omega
  refine ⟨?_, fun j hj => p3 j hj i (List.mem_cons_self ..), hne⟩
  have h1 : unl ops (listed.setIfInBounds i true) = (unl ops listed).filter fun j => decide (j ≠ i) := by
    unfold unl
    rw [List.filter_filter]
    refine List.filter_congr fun j hj => ?_
    have hlt : j < ops.size := by simpa using hj
    by_cases hji : j = i
    · subst hji
      simp [hsz, hlt]
    · simp [Ne.symm hji, hji]
  rw [h1, h, List.filter_append, List.filter_cons]
  simp only [ne_eq, not_true, decide_false, Bool.false_eq_true, if_false]
  rw [List.filter_eq_self.2 fun j hj => by simpa using hne j (List.mem_append_left _ hj), List.filter_eq_self.2 fun j hj => by simpa using hne j (List.mem_append_right _ hj)]

theorem draws_any (hc : CfgOk c) (hb : BodyOk c body) {N : Nat} {ops : Array Oper} (hok : OkD ops) {ρ0 : Ren} {m0 : Mc} {w0 : World} {Q : Exit → Act → World → Prop} {e' : Env} {m' : Mc}
    (hQ : ∀ e m ρ a w, Pend c N ops ρ0 m0 w0 [] e m ρ a w → Eqv (e', m') (e, m) → Q .normal a w) :
    ∀ (fuel : Nat) (listed : Array Bool) (e : Env) (m : Mc) (ρ : Ren) (a : Act) (w : World), (unl ops listed).length ≤ fuel → listed.size = ops.size →
      (∀ (i : Nat) (o : Oper), ops[i]? = some o → listed.getD i false = true → ∀ e ∈ o.after, Region.binds .any e = true → listed.getD e.on false = true) →
      Pend c N ops ρ0 m0 w0 (unl ops listed) e m ρ a w → (∃ t, seqs c body m0.D m0.fr.length N ops (unl ops listed) (e, m) = some t ∧ Eqv (e', m') t) →
      wpAny c.P .any ops Q fuel listed a w := by
  have hdone : ∀ (listed : Array Bool) (e : Env) (m : Mc) (ρ : Ren) (a : Act) (w : World), unl ops listed = [] → Pend c N ops ρ0 m0 w0 (unl ops listed) e m ρ a w → (∃ t, seqs c body m0.D m0.fr.length N ops (unl ops listed) (e, m) = some t ∧ Eqv (e', m') t) → Q .normal a w := by
    intro listed e m ρ a w hl hp ⟨t, h1, h2⟩
    rw [hl] at hp h1
    injection h1 with h1
    subst h1
    exact hQ e m ρ a w hp h2
  have hready : ∀ (listed : Array Bool), listed.size = ops.size → ∀ i, i ∈ Region.ready .any ops listed → i ∈ unl ops listed := by
    intro listed hsz i hi
    rw [mem_ready] at hi
    obtain ⟨h1, o, h2, _⟩ := hi
    unfold unl
    rw [List.mem_filter]
    exact ⟨by simpa using (Array.getElem?_eq_some_iff.1 h2).1, by rw [h1]; rfl⟩
  have hnil : ∀ (listed : Array Bool), listed.size = ops.size → Region.ready .any ops listed = [] → unl ops listed = [] := by
    intro listed hsz hr
    cases hl : unl ops listed with
    | nil => rfl
    | cons i l =>
      exfalso
      have hi : i ∈ unl ops listed := by rw [hl]; exact List.mem_cons_self ..
      unfold unl at hi
      rw [List.mem_filter] at hi
      obtain ⟨hi1, hi2⟩ := hi
      have hlt : i < ops.size := by simpa using hi1
      have hpw : (unl ops listed).Pairwise (· < ·) := (List.pairwise_lt_range (n := ops.size)).filter _
      rw [hl, List.pairwise_cons] at hpw
      have : i ∈ Region.ready .any ops listed := by
        rw [mem_ready]
        refine ⟨by simpa using hi2, ops[i], Array.getElem?_eq_getElem hlt, fun e he hb => ?_⟩
        have hlow := hok.low i _ (Array.getElem?_eq_getElem hlt) e he hb
        cases hle : listed.getD e.on false with
        | true => rfl
        | false =>
          exfalso
          have hmem : e.on ∈ unl ops listed := by
            unfold unl
            rw [List.mem_filter]
            refine ⟨by simp; omega, ?_⟩
            have hlt2 : e.on < listed.size := by omega
            simp [Array.getD_eq_getD_getElem?, Array.getElem?_eq_getElem hlt2] at hle ⊢
            exact hle
          rw [hl] at hmem
          rcases List.mem_cons.1 hmem with h1 | h1
          · omega
          · have := hpw.1 _ h1; omega
      rw [hr] at this
      cases this
  intro fuel
  induction fuel with
  | zero =>
    intro listed e m ρ a w hlen hsz hcl hp hs
    have hl : unl ops listed = [] := List.eq_nil_of_length_eq_zero (by omega)
    refine ⟨?_, hdone listed e m ρ a w hl hp hs⟩
    cases hr : Region.ready .any ops listed with
    | nil => rfl
    | cons i r =>
      have := hready listed hsz i (by rw [hr]; exact List.mem_cons_self ..)
      rw [hl] at this
      cases this
  | succ fuel ih =>
    intro listed e m ρ a w hlen hsz hcl hp hs
    refine ⟨fun hr => hdone listed e m ρ a w (hnil listed hsz hr) hp hs, fun i hi => ?_⟩
    have hmem := hready listed hsz i hi
    obtain ⟨l1, l2, hsp⟩ := List.append_of_mem hmem
    obtain ⟨u1, u2, u3⟩ := unl_set hsz hsp
    rw [mem_ready] at hi
    obtain ⟨hi0, o, ho, haf⟩ := hi
    obtain ⟨t, hs1, hs2⟩ := hs
    have hun : ∀ j ∈ unl ops listed, listed.getD j false = false := by
      intro j hj
      unfold unl at hj
      rw [List.mem_filter] at hj
      have hlt : j < listed.size := by rw [hsz]; simpa using hj.1
      have := hj.2
      simp [Array.getD_eq_getD_getElem?, Array.getElem?_eq_getElem hlt] at this ⊢
      exact this
    have hbef : ∀ j ∈ l1, ((Region.before ops).getD i 0).testBit j = false := by
      intro j hj
      cases hb' : ((Region.before ops).getD i 0).testBit j with
      | false => rfl
      | true =>
        have := before_listed (L := fun j => listed.getD j false = true) hcl i o ho haf j hb'
        rw [hun j (by rw [hsp]; exact List.mem_append_left _ hj)] at this
        cases this
    have hfree : ∀ j ∈ l1, Free c.P ops j i := by
      intro j hj p q hjp hiq
      have hlt := u2 j hj
      rw [ho] at hiq
      injection hiq with hiq
      subst hiq
      have hij : i ≠ j := by omega
      refine ⟨?_, fun n i1 i2 => ⟨fun hr => ?_, fun hr => ?_, fun hw => ⟨?_, fun _ => ?_⟩, fun hw => ⟨?_, fun _ => ?_⟩, rfl, fun hr _ hb1 => ?_, fun hr _ ha1 => ?_⟩⟩
      · rcases hok.pair i j o p hlt ho hjp with h1 | h1
        · rw [hbef j hj] at h1; cases h1
        · exact h1
      · simp only [dq] at hr
        unfold refOk at hr
        have := all_zipIdx hr i o (by simpa using ho)
        simp only [Bool.and_eq_true, Bool.or_eq_true, beq_iff_eq] at this
        rcases this.2 with (h1 | h1) | h1
        · omega
        · exact h1
        · rw [Nat.max_eq_left (by omega), Nat.min_eq_right (by omega), hbef j hj] at h1; cases h1
      · simp only [dq] at hr
        unfold refOk at hr
        have := all_zipIdx hr j p (by simpa using hjp)
        simp only [Bool.and_eq_true, Bool.or_eq_true, beq_iff_eq] at this
        rcases this.2 with (h1 | h1) | h1
        · omega
        · exact h1
        · rw [Nat.max_eq_right (by omega), Nat.min_eq_left (by omega), hbef j hj] at h1; cases h1
      · simp only [dq, ownOk, hjp, hw]
      · simp only [dq, farOk, List.any_eq_true]
        refine ⟨(p, j), List.mem_iff_getElem?.2 ⟨j, by simpa using hjp⟩, ?_⟩
        simp only [hw, Bool.true_and]
        rw [Nat.max_eq_right (by omega), Nat.min_eq_left (by omega), hbef j hj]
        rfl
      · simp only [dq, ownOk, ho, hw]
      · simp only [dq, farOk, List.any_eq_true]
        refine ⟨(o, i), List.mem_iff_getElem?.2 ⟨i, by simpa using ho⟩, ?_⟩
        simp only [hw, Bool.true_and]
        rw [Nat.max_eq_left (by omega), Nat.min_eq_right (by omega), hbef j hj]
        rfl
      · simp only [dq] at hr
        unfold peekOk at hr
        have := all_zipIdx hr i o (by simpa using ho)
        simp only [Bool.or_eq_true, beq_iff_eq] at this
        rcases this with ((h1 | h1) | h1) | h1
        · omega
        · omega
        · exact h1
        · rw [Nat.max_eq_left (by omega), Nat.min_eq_right (by omega), hbef j hj] at h1; cases h1
      · simp only [dq] at hr
        unfold peekOk at hr
        have := all_zipIdx hr j p (by simpa using hjp)
        simp only [Bool.or_eq_true, beq_iff_eq] at this
        rcases this with ((h1 | h1) | h1) | h1
        · omega
        · omega
        · exact h1
        · rw [Nat.max_eq_right (by omega), Nat.min_eq_left (by omega), hbef j hj] at h1; cases h1
    rw [hsp] at hs1
    obtain ⟨s1, k1, t', k2, k3⟩ := bubble i l2 l1 hfree hs1
    obtain ⟨e1, m1⟩ := s1
    refine pend_step hc hb hok (l := unl ops listed) (l' := unl ops (listed.setIfInBounds i true)) (fun q hq => ?_) hmem hp k1 fun ρ' a' w' hp' => ?_
    · rw [u1] at hq
      refine ⟨?_, u3 q hq⟩
      rw [hsp]
      rcases List.mem_append.1 hq with h1 | h1
      · exact List.mem_append_left _ h1
      · exact List.mem_append_right _ (List.mem_cons_of_mem _ h1)
    · refine ih _ e1 m1 ρ' a' w' ?_ (by simpa using hsz) ?_ hp' ⟨t', by rw [u1]; exact k2, hs2.trans k3⟩
      · rw [u1]
        rw [hsp] at hlen
        simp only [List.length_append, List.length_cons] at hlen ⊢
        omega
      · intro k ok hk hlk ed hed hbd
        by_cases hki : k = i
        · subst hki
          rw [ho] at hk
          injection hk with hk
          subst hk
          exact getD_set_true (haf ed hed hbd)
        · rw [getD_set_ne false (Ne.symm hki)] at hlk
          exact getD_set_true (hcl k ok hk hlk ed hed hbd)

theorem draws_ok (hc : CfgOk c) : DrawsOk c := by
  intro body hb N ops e e' m m' zs hok hz h id ρ a w hat
  have hD := okD_of hok
  refine wp_region_any hc.mixed ?_
  obtain ⟨z1, z2⟩ := sim_zeros hat.sim zs
  have hw : (w.drew) = { w with drawn := w.drawn + 1 } := rfl
  have hs1 : Sim c.G ρ ({ m with fr := m.fr ++ zs } : Mc).st w.drew := sim_heap z1 rfl
  have hx1 : Ext m.D ρ m.st w ρ ({ m with fr := m.fr ++ zs } : Mc).st w.drew := z2.trans (ext_drew m.D ρ _ w)
  have hat1 : At c N ρ e { m with fr := m.fr ++ zs } a w.drew := ⟨hs1, hat.env.pers (pers_drew ρ w) (fun _ _ _ _ _ _ => rfl), hat.size, hat.dfr⟩
  have hall : unl ops (Array.replicate ops.size false) = List.range ops.size := by
    unfold unl
    refine List.filter_eq_self.2 fun j hj => ?_
    have hlt : j < ops.size := by simpa using hj
    simp [Array.getD_eq_getD_getElem?, hlt]
  rw [← hw]
  refine draws_any hc hb hD (ρ0 := ρ) (m0 := m) (w0 := w) (e' := e') (m' := m') (fun e2 m2 ρ2 a2 w2 hp hq => ?_) ops.size _ e { m with fr := m.fr ++ zs } ρ a w.drew (by rw [hall]; simp) (by simp) (fun i o hi hl => ?_) ⟨hat1, hx1, rfl, fun p _ o T ho hT => ?_⟩ ?_
  · obtain ⟨q1, q2⟩ := hq
    simp only at q1 q2
    subst q2
    refine ⟨trivial, ρ2, ⟨hp.st.sim, ⟨fun r t av hl => ?_⟩, hp.st.size, hp.st.dfr⟩, hp.ext, hp.len⟩
    rw [q1] at hl
    exact hp.st.env.ok r t av hl
  · have hlt := (Array.getElem?_eq_some_iff.1 hi).1
    simp [Array.getD_eq_getD_getElem?, hlt] at hl
  · obtain ⟨L, q1, q2⟩ := zeros_get ops.toList zs hz p o T (by simpa using ho) hT
    refine ⟨L, q1, ?_, ?_⟩
    · cases hm : ρ.mb m.D (ix m.fr.length ops p) with
      | none => rfl
      | some b =>
        have := hat.sim.dm _ _ b hm
        rw [Mc.st_blk] at this
        unfold Mc.blk Mc.D at this
        rw [if_pos rfl, List.getElem?_eq_none (by unfold ix; omega)] at this
        cases this
    · unfold ix
      simp only
      rw [List.getElem?_append_right (by omega), Nat.add_sub_cancel_left]
      exact q2
  · have h0 := draws_seqs (c := c) (body := body) (D := m.D) (n := m.fr.length) (N := N) (ops := ops) ops.toList 0 e { m with fr := m.fr ++ zs } (by simp)
    have hi0 : ix m.fr.length ops 0 = m.fr.length := by simp [ix]
    rw [hi0, h] at h0
    rw [hall]
    refine ⟨(e', m'), ?_, Eqv.refl _⟩
    rw [h0, List.range_eq_range']
    simp

/-- A function's own run, whatever is called and whatever is drawn: sound. -/
theorem body_ok (hc : CfgOk c) (n : Nat) : BodyOk c (c.body n) := body_sound hc (draws_ok hc) n

end
end
end Go.Ab
