import Derived.Test.YtlpffainhdnaiaaGreatDoorAbCall
/- At a loop's head and at calls: what is full bears its holder's class; registers lose tags. -/
namespace Go.Ab
open Go
noncomputable section

section
variable {c : Cfg} {P : Program} {G : Nat → AV} {ρ ρ' : Ren} {S S' : St} {w w' : World} {m : Mc}

theorem normTA_ok {D : Nat} {k : Cls} (hk : ∀ d q, k = .reg d q → d = D) {v : Value} {t : Tag} {a : AV} (h1 : Rep ρ w v a) (h2 : TagOk ρ v a t) (h3 : ∀ d q, t.of = some (.reg d q) → d = D) :
    Rep ρ w v (normTA k (t, a)).2 ∧ TagOk ρ v (normTA k (t, a)).2 (normTA k (t, a)).1 ∧ ∀ d q, (normTA k (t, a)).1.of = some (.reg d q) → d = D := by
  unfold normTA
  split
  · rename_i es e
    injection e with e1 e2
    subst e1 e2
    refine ⟨setl_rep h1, ?_, fun d q hq => hk d q (by injection hq)⟩
    obtain ⟨ad, cap, s, b, off, f, rfl, _, c2, _⟩ := h1.sl_inv
    intro es' o' _ ad' l' c' hv
    injection hv with v1 v2 v3
    exact .inl (by rw [← v2, ← v3]; exact c2 rfl)
  · exact ⟨h1, h2, h3⟩

theorem EnvOk.norm {D : Nat} {tmps : Array Value} {e : Env} (h : EnvOk ρ w D tmps e) : EnvOk ρ w D tmps (e.norm D) :=
  h.map (fun r x => normTA (.reg D r) x) fun r t a v h1 h2 h3 => normTA_ok (fun d q e => by injection e with e1; exact e1.symm) h1 h2 h3

theorem EnvOk.calm {D : Nat} {tmps : Array Value} {e : Env} (h : EnvOk ρ w D tmps e) (hp : Pers ρ w ρ' w') (hw : ∀ r, ρ'.ow (.reg D r) = ρ.ow (.reg D r)) : EnvOk ρ' w' D tmps (e.dr .calm) :=
  h.map (fun _ x => (Dr.calm.tag x.1, x.2)) fun r t a v h1 h2 h3 => by
    refine ⟨h1.pers hp, ?_, ?_⟩
    · simp only [Dr.tag]
      split
      · trivial
      · rename_i hne
        refine h2.pers fun k hk => ?_
        cases k with
        | reg d q => rw [h3 d q hk]; exact hw q
        | cel d i j => exact absurd hk (hne d i j)
    · intro d q hq
      simp only [Dr.tag] at hq
      split at hq
      · cases hq
      · exact h3 d q hq

theorem EnvOk.bare {D : Nat} {tmps : Array Value} {e : Env} (h : EnvOk ρ w D tmps e) (hp : Pers ρ w ρ' w') : EnvOk ρ' w' D tmps (e.dr .bare) :=
  h.map (fun _ x => (.no, x.2)) fun r t a v h1 _ _ => ⟨h1.pers hp, trivial, fun d q hq => by cases hq⟩

theorem EnvOk.take {D : Nat} {tmps : Array Value} {e : Env} (h : EnvOk ρ w D tmps e) (n : Nat) : EnvOk ρ w D tmps (e.take n) := by
  refine ⟨fun r t a hl => h.ok r t a ?_⟩
  have : ∀ (l : Env) (n : Nat) x, (l.take n).lookup r = some x → l.lookup r = some x := by
    intro l
    induction l with
    | nil => intro n x h; simp at h
    | cons y l ih =>
      intro n x h
      cases n with
      | zero => simp at h
      | succ n =>
        obtain ⟨q, y⟩ := y
        simp only [List.take_succ_cons, List.lookup_cons] at h ⊢
        split at h
        · exact h
        · exact ih n x h
  exact this e n _ hl

theorem normCells_spec (d i : Nat) : ∀ (cs : List AV) (j : Nat) (ts : List (Nat × Tag)), (normCells d i j cs ts).1.length = cs.length ∧
    (∀ q, q < j → tagAt (normCells d i j cs ts).2 q = tagAt ts q) ∧
    ∀ q c, (normCells d i j cs ts).1[q]? = some c → ∃ c0, cs[q]? = some c0 ∧ ((∃ es, c0 = .sl es .full ∧ tagAt ts (j + q) = .no ∧ c = .sl es .frs ∧ tagAt (normCells d i j cs ts).2 (j + q) = .cls (.cel d i (j + q))) ∨ (c = c0 ∧ tagAt (normCells d i j cs ts).2 (j + q) = tagAt ts (j + q))) := by
  intro cs
  induction cs with
  | nil => intro j ts; exact ⟨rfl, fun _ _ => rfl, fun q c h => by simp [normCells] at h⟩
  | cons c0 cs ih =>
    intro j ts
    obtain ⟨h1, h2, h3⟩ := ih (j + 1) ts
    unfold normCells
    simp only
    split
    · rename_i _ _ es ht
      refine ⟨by simp [h1], fun q hq => ?_, fun q c hq => ?_⟩
      · rw [tagAt_set, if_neg (by omega)]
        exact h2 q (by omega)
      · cases q with
        | zero =>
          simp at hq
          subst hq
          exact ⟨_, rfl, .inl ⟨es, rfl, ht, rfl, by rw [tagAt_set]; simp⟩⟩
        | succ q =>
          simp only [List.getElem?_cons_succ] at hq
          obtain ⟨c1, g1, g2⟩ := h3 q c hq
          refine ⟨c1, g1, ?_⟩
          rw [tagAt_set, if_neg (by omega)]
          have e : j + 1 + q = j + (q + 1) := by omega
          rw [e] at g2
          exact g2
    · refine ⟨by simp [h1], fun q hq => h2 q (by omega), fun q c hq => ?_⟩
      cases q with
      | zero =>
        simp at hq
        subst hq
        exact ⟨_, rfl, .inr ⟨rfl, h2 j (by omega)⟩⟩
      | succ q =>
        simp only [List.getElem?_cons_succ] at hq
        obtain ⟨c1, g1, g2⟩ := h3 q c hq
        refine ⟨c1, g1, ?_⟩
        have e : j + 1 + q = j + (q + 1) := by omega
        rw [e] at g2
        exact g2

theorem normBlk_ok {d i : Nat} {k : Blk} (h : BlkOk ρ w d i k) : BlkOk ρ w d i (normBlk d i k) := by
  cases k with
  | cells cs ts =>
    intro b hb
    obtain ⟨h1, arr, T, h2, h3, h4⟩ := h b hb
    obtain ⟨g1, _, g3⟩ := normCells_spec d i cs 0 ts
    refine ⟨h1, arr, T, h2, by rw [g1]; exact h3, fun j c hc => ?_⟩
    obtain ⟨c0, q1, q2⟩ := g3 j c hc
    obtain ⟨a1, a0, v, a2, a3, a4, a5⟩ := h4 j c0 q1
    rw [Nat.zero_add] at q2
    rcases q2 with ⟨es, rfl, q3, rfl, q5⟩ | ⟨rfl, q3⟩
    · rw [q5]
      refine ⟨by simp [AV.rin], fun k hk => by injection hk with hk; exact hk.symm, v, a2, a3, setl_rep a4, ?_⟩
      obtain ⟨ad, cap, s, b, off, f, rfl, _, c2, _⟩ := a4.sl_inv
      intro es' o' _ ad' l' c' hv
      injection hv with v1 v2 v3
      exact .inl (by rw [← v2, ← v3]; exact c2 rfl)
    · rw [q3]
      exact ⟨a1, a0, v, a2, a3, a4, a5⟩
  | map l => exact h
  | iter s p => exact h
  | dead => exact h

theorem normFr_get (d : Nat) : ∀ (l : List Blk) (i j : Nat), (normFr d i l)[j]? = (l[j]?).map (normBlk d (i + j)) := by
  intro l
  induction l with
  | nil => intro i j; rfl
  | cons b l ih =>
    intro i j
    cases j with
    | zero => simp [normFr]
    | succ j => simp only [normFr, List.getElem?_cons_succ, ih]; congr 2; omega

theorem norm_blk (m : Mc) (d i : Nat) : m.norm.st.blk d i = (m.st.blk d i).map fun b => if d = m.D then normBlk d i b else b := by
  rw [Mc.st_blk, Mc.st_blk]
  unfold Mc.blk Mc.norm Mc.D
  simp only
  split
  · rename_i h
    rw [normFr_get, Nat.zero_add, h]
  · cases m.base.blk d i <;> rfl

theorem norm_own (m : Mc) (d i : Nat) : own ρ m.norm.st d i = own ρ m.st d i := by
  unfold own
  rw [norm_blk]
  cases m.st.blk d i with
  | none => rfl
  | some k =>
    simp only [Option.map_some]
    by_cases hd : d = m.D
    · rw [if_pos hd]
      cases k <;> rfl
    · rw [if_neg hd]

theorem normFr_len (d : Nat) : ∀ (l : List Blk) (i : Nat), (normFr d i l).length = l.length
  | [], _ => rfl
  | b :: l, i => by simp [normFr, normFr_len d l (i + 1)]

theorem norm_len (m : Mc) (d : Nat) : m.norm.st.len d = m.st.len d := by
  unfold St.len Mc.st Mc.norm
  simp only
  rcases Nat.lt_trichotomy d m.base.length with h | h | h
  · rw [List.getElem?_append_left h, List.getElem?_append_left h]
  · subst h; simp [normFr_len]
  · rw [List.getElem?_eq_none (by simp; omega), List.getElem?_eq_none (by simp; omega)]

theorem norm_sim (h : Sim G ρ m.st w) (D : Nat) : Sim G ρ m.norm.st w ∧ Ext D ρ m.st w ρ m.norm.st w := by
  refine ⟨⟨fun d i b hb => ?_, fun d i k hk => ?_, fun d i d' i' b h1 h2 => h.inj d i d' i' b (norm_own m d i ▸ h1) (norm_own m d' i' ▸ h2), ?_, h.im, h.glob⟩, ⟨Pers.refl .., rfl, rfl, rfl, Nat.le_refl _, by rw [Mc.st_length, Mc.st_length]; rfl, fun _ _ _ => rfl, fun _ _ _ => ⟨rfl, fun _ => Iff.rfl⟩, fun b ho _ => ?_, fun _ _ _ => rfl, fun d => ?_⟩⟩
  · rw [norm_blk]
    have := h.dm d i b hb
    simp only [Option.isSome_map]
    exact this
  · rw [norm_blk] at hk
    cases hb : m.st.blk d i with
    | none => simp [hb] at hk
    | some k0 =>
      simp only [hb, Option.map_some, Option.some.injEq] at hk
      subst hk
      split
      · exact normBlk_ok (h.ok d i k0 hb)
      · exact h.ok d i k0 hb
  · exact h.ow.same rfl (fun k b e m arr T _ hb => ⟨arr, T, hb, Nat.le_refl _⟩) (fun _ _ _ _ _ _ _ hi => hi) fun k b e m' hk d i hd => ⟨d, i, norm_own m d i ▸ hd⟩
  · unfold Owned at ho ⊢
    simpa only [norm_own] using ho
  · exact Nat.le_of_eq (norm_len m d).symm

theorem Ext.weaken {D D' : Nat} (h : Ext D ρ S w ρ' S' w') (hd : D' ≤ D) : Ext D' ρ S w ρ' S' w' :=
  ⟨h.pers, h.os, h.tape, h.output, h.size, h.len, fun d r hr => h.regs d r (by omega), h.keep, h.fresh, h.mbk, h.lens⟩

end
end
end Go.Ab
