import Derived.Test.YtlpffainhdnaiaaGreatDoorAbOp6
/- append. -/
namespace Go.Ab
open Go
noncomputable section

section
variable {P : Program} {G : Nat → AV} {ρ ρ' : Ren} {S : St} {w w' : World} {m : Mc}

/-- The renaming with other immutable cells, and another spare of class k. -/
def Ren.own (ρ : Ren) (im' : Nat → Nat → Prop) (k : Cls) (x : Nat × Nat × Nat) : Ren := ⟨im', ρ.mb, fun c => if c = k then some x else ρ.ow c⟩

theorem Ren.own_ne (ρ : Ren) (im' : Nat → Nat → Prop) {k c : Cls} (x : Nat × Nat × Nat) (h : c ≠ k) : (ρ.own im' k x).ow c = ρ.ow c := by simp [Ren.own, h]
theorem Ren.own_eq (ρ : Ren) (im' : Nat → Nat → Prop) (k : Cls) (x : Nat × Nat × Nat) : (ρ.own im' k x).ow k = some x := by simp [Ren.own]

theorem sim_own {D : Nat} (h : Sim G ρ S w) {k : Cls} {b e mx : Nat} {im' : Nat → Nat → Prop} (him0 : ∀ b j, ρ.im b j → im' b j)
    (hcell : ∀ b j, ρ.im b j → w'.cell? ⟨b, j, none⟩ = w.cell? ⟨b, j, none⟩) (hzf : ∀ b j, ρ.im b j → zf w b → zf w' b)
    (hk : ∀ d i cs ts, S.blk d i = some (.cells cs ts) → (ρ.mb d i).isSome = true → ∀ j, j < cs.length → (tagAt ts j).of ≠ some k)
    (hold : ∀ c, c < w.heap.size → c ≠ b → w'.heap[c]? = w.heap[c]? ∧ ∀ j, im' c j ↔ ρ.im c j)
    (hbn : ∀ d i, own ρ S d i ≠ some b) (hbc : ∀ c e' m', c ≠ k → ρ.ow c ≠ some (b, e', m'))
    (hb : e ≤ mx ∧ (∃ arr T, w'.heap[b]? = some (.cells arr T (0, 0)) ∧ mx ≤ arr.size) ∧ ∀ j, e ≤ j → ¬ im' b j)
    (him : ∀ c j, im' c j → (w'.cell? ⟨c, j, none⟩).isSome = true ∧ w'.frozen? ⟨c, j, none⟩ = false)
    (hos : w'.os = w.os) (htp : w'.tape = w.tape) (hop : w'.output = w.output) (hsz : w.heap.size ≤ w'.heap.size)
    (hbk : w.heap.size ≤ b ∨ ∃ e' m', ρ.ow k = some (b, e', m')) (hreg : ∀ d r, d < D → k ≠ .reg d r) (hrows : RowsKept w w') :
    Sim G (ρ.own im' k (b, e, mx)) S w' ∧ Ext D ρ S w (ρ.own im' k (b, e, mx)) S w' := by
  have hp : Pers ρ w (ρ.own im' k (b, e, mx)) w' := ⟨him0, hcell, hzf, fun _ _ _ h => h, hrows⟩
  have hheap : ∀ c d i, own ρ S d i = some c → w'.heap[c]? = w.heap[c]? ∧ ∀ j, im' c j ↔ ρ.im c j := fun c d i ho => hold c (h.own_size ho) fun e => hbn d i (e ▸ ho)
  refine ⟨⟨h.dm, fun d i kb hkb => ?_, h.inj, ⟨fun c b' e' m' hc => ?_, fun c c' b' e1 m1 e2 m2 h1 h2 => ?_⟩, him, fun g => (h.glob g).pers hp⟩, hp, hos, htp, hop, hsz, rfl, fun d r hd => Ren.own_ne _ _ _ fun e => hreg d r hd e.symm, fun c hc hn => ?_, fun c ho hc => ?_, fun _ _ _ => rfl, fun _ => Nat.le_refl _⟩
  · have hok := h.ok d i kb hkb
    cases kb with
    | cells cs ts =>
      intro b' hb'
      obtain ⟨h1, arr, T, h2, h3, h4⟩ := hok b' hb'
      obtain ⟨e1, e2⟩ := hheap b' d i (own_of hb' hkb (by simp))
      refine ⟨fun j hj => h1 j ((e2 j).1 hj), arr, T, e1.trans h2, h3, fun j c hc => ?_⟩
      obtain ⟨a1, a0, v, a2, a3, a4, a5⟩ := h4 j c hc
      refine ⟨a1, a0, v, a2, a3, a4.pers hp, a5.pers fun k' hk' => Ren.own_ne _ _ _ fun e => ?_⟩
      subst e
      have hbm : ρ.mb d i = some b' := hb'
      exact hk d i cs ts hkb (by rw [hbm]; rfl) j (List.getElem?_eq_some_iff.1 hc).1 hk'
    | map l =>
      intro b' hb'
      obtain ⟨h1, ents, clock, h2, h3, h4⟩ := hok b' hb'
      obtain ⟨e1, e2⟩ := hheap b' d i (own_of hb' hkb (by simp))
      exact ⟨fun j hj => h1 j ((e2 j).1 hj), ents, clock, e1.trans h2, h3, h4⟩
    | iter s p =>
      intro b' hb'
      obtain ⟨h1, h2⟩ := hok b' hb'
      obtain ⟨e1, e2⟩ := hheap b' d i (own_of hb' hkb (by simp))
      exact ⟨fun j hj => h1 j ((e2 j).1 hj), e1.trans h2⟩
    | dead => trivial
  · by_cases hck : c = k
    · subst hck
      rw [Ren.own_eq] at hc
      injection hc with hc
      injection hc with q1 q2
      injection q2 with q2 q3
      subst q1 q2 q3
      exact ⟨hb.1, hb.2.1, hb.2.2, hbn⟩
    · rw [Ren.own_ne _ _ _ hck] at hc
      obtain ⟨q1, ⟨arr, T, q2, q3⟩, q4, q5⟩ := h.ow.row c b' e' m' hc
      have hne : b' ≠ b := fun e => hbc c e' m' hck (e ▸ hc)
      obtain ⟨e1, e2⟩ := hold b' (h.ow_size hc) hne
      exact ⟨q1, ⟨arr, T, e1.trans q2, q3⟩, fun j hj hi => q4 j hj ((e2 j).1 hi), q5⟩
  · by_cases hc1 : c = k <;> by_cases hc2 : c' = k
    · exact hc1.trans hc2.symm
    · subst hc1
      rw [Ren.own_eq] at h1
      rw [Ren.own_ne _ _ _ hc2] at h2
      injection h1 with h1
      injection h1 with q1 q2
      exact absurd (q1 ▸ h2) (hbc c' _ _ hc2)
    · subst hc2
      rw [Ren.own_eq] at h2
      rw [Ren.own_ne _ _ _ hc1] at h1
      injection h2 with h2
      injection h2 with q1 q2
      exact absurd (q1 ▸ h1) (hbc c _ _ hc1)
    · rw [Ren.own_ne _ _ _ hc1] at h1
      rw [Ren.own_ne _ _ _ hc2] at h2
      exact h.ow.inj c c' b' e1 m1 e2 m2 h1 h2
  · refine hold c hc fun e => hn ?_
    subst e
    rcases hbk with h1 | ⟨e', m', h1⟩
    · omega
    · exact .inr ⟨k, e', m', h1⟩
  · rcases ho with ho | ⟨c', e', m', ho⟩
    · exact .inl ho
    · by_cases hck : c' = k
      · subst hck
        rw [Ren.own_eq] at ho
        injection ho with ho
        injection ho with q1 q2
        subst q1
        rcases hbk with h1 | ⟨e', m', h1⟩
        · omega
        · exact .inr ⟨c', e', m', h1⟩
      · rw [Ren.own_ne _ _ _ hck] at ho
        exact .inr ⟨c', e', m', ho⟩

/-- A cell loses its tag. -/
theorem sim_drop (h : Sim G ρ m.st w) {k : Cls} {m' : Mc} (hd : dropCell m k = some m') :
    Sim G ρ m'.st w ∧ Ext m.D ρ m.st w ρ m'.st w ∧ m'.base.length = m.base.length ∧ m'.D = m.D ∧
    ∀ d i cs ts, m'.st.blk d i = some (.cells cs ts) → (ρ.mb d i).isSome = true → ∀ j, j < cs.length → (tagAt ts j).of ≠ some k := by
  have hcl : ∀ d i cs ts, m.st.blk d i = some (.cells cs ts) → (ρ.mb d i).isSome = true → ∀ j, j < cs.length → ∀ c, (tagAt ts j).of = some c → c = .cel d i j := by
    intro d i cs ts hb hm j hj c hc
    obtain ⟨b, hb'⟩ := Option.isSome_iff_exists.1 hm
    obtain ⟨_, arr, T, _, _, h4⟩ := h.ok d i _ hb b hb'
    exact (h4 j _ (List.getElem?_eq_getElem hj)).2.1 c hc
  unfold dropCell at hd
  split at hd
  · injection hd with hd
    subst hd
    refine ⟨h, Ext.refl .., rfl, rfl, fun d i cs ts hb hm j hj hc => ?_⟩
    have := hcl d i cs ts hb hm j hj _ hc
    cases this
  · rename_i d0 i0 j0
    split at hd
    · rename_i cs0 ts0 hb0
      injection hd with hd
      subst hd
      have hS := (Mc.st_blk m d0 i0).trans hb0
      have hsim : Sim G ρ (m.upd d0 i0 (.cells cs0 (tsDel ts0 (· == j0)))).st w := by
        rw [Mc.st_upd]
        refine h.update (Pers.refl ρ w) d0 i0 (fun _ _ hne => St.blk_upd_other hne) (fun _ _ _ => rfl) (fun _ _ _ _ => rfl) (fun _ _ _ _ _ => ⟨rfl, fun _ => Iff.rfl⟩) (fun k hk => ?_) (fun b hb => by simp [St.blk_upd_same hS]) (fun b d i hne ho he => ?_) ?_ h.im
        · rw [St.blk_upd_same hS] at hk
          injection hk with hk
          subst hk
          intro b hb
          obtain ⟨h1, arr, T, h2, h3, h4⟩ := h.ok d0 i0 _ hS b hb
          refine ⟨h1, arr, T, h2, h3, fun j c hc => ?_⟩
          obtain ⟨a1, a0, v, a2, a3, a4, a5⟩ := h4 j c hc
          rw [tagAt_del]
          split
          · exact ⟨a1, by simp [Tag.of], v, a2, a3, a4, trivial⟩
          · exact ⟨a1, a0, v, a2, a3, a4, a5⟩
        · have := (own_blk he).1
          exact hne (h.inj _ _ _ _ _ ho (own_of this hS (by simp)))
        · refine h.ow.same rfl (fun k b e m arr T _ hb => ⟨arr, T, hb, Nat.le_refl _⟩) (fun _ _ _ _ _ _ _ hi => hi) fun k b e m hk d i ho => ?_
          by_cases hne : d = d0 ∧ i = i0
          · obtain ⟨rfl, rfl⟩ := hne
            exact ⟨d, i, own_of (own_blk ho).1 hS (by simp)⟩
          · refine ⟨d, i, ?_⟩
            rw [← ho]
            unfold own
            rw [St.blk_upd_other hne]
      refine ⟨hsim, ⟨Pers.refl _ _, rfl, rfl, rfl, Nat.le_refl _, by rw [Mc.st_upd, St.length_upd], fun _ _ _ => rfl, fun _ _ _ => ⟨rfl, fun _ => Iff.rfl⟩, fun b ho _ => ?_, fun _ _ _ => rfl, fun d' => by rw [Mc.st_upd, St.len_upd]; exact Nat.le_refl _⟩, Mc.upd_len .., Mc.upd_len .., fun d i cs ts hb hm j hj hc => ?_⟩
      · rcases ho with ⟨d, i, ho⟩ | ho
        · refine .inl ?_
          by_cases hne : d = d0 ∧ i = i0
          · obtain ⟨rfl, rfl⟩ := hne
            exact ⟨d, i, own_of (own_blk ho).1 hS (by simp)⟩
          · refine ⟨d, i, ?_⟩
            rw [← ho]
            unfold own
            rw [Mc.st_upd, St.blk_upd_other hne]
        · exact .inr ho
      · rw [Mc.st_upd] at hb
        by_cases hne : d = d0 ∧ i = i0
        · obtain ⟨rfl, rfl⟩ := hne
          rw [St.blk_upd_same hS] at hb
          injection hb with hb
          injection hb with q1 q2
          subst q1 q2
          rw [tagAt_del] at hc
          split at hc
          · cases hc
          · rename_i hjn
            have := hcl d i cs0 ts0 hS hm j hj _ hc
            injection this with _ _ q
            exact hjn (by simp [q])
        · rw [St.blk_upd_other hne] at hb
          have := hcl d i cs ts hb hm j hj _ hc
          injection this with q1 q2
          exact hne ⟨q1.symm, q2.symm⟩
    · cases hd

end
end
end Go.Ab
