import Derived.Test.YtlpffainhdnaiaaGreatDoorAbCode
/- Calls: in isolation, with the whole state; frames that come and go. -/
namespace Go.Ab
open Go
noncomputable section

/-- A call does what is said of it. -/
def CallOk (c : Cfg) (E : Ren → St → World → Ren → St → World → Prop) (g : FuncId) (as : List AV) (S : St) (r : AV) (S' : St) : Prop :=
  ∀ ρ w (vs : Array Value), vs.size = as.length → (∀ (j : Nat) v a, vs[j]? = some v → as[j]? = some a → Rep ρ w v a) → Sim c.G ρ S w →
    ((callFunc g vs).run c.P w = .ok (.enter g vs) w ∧ Calls c.P g vs w fun e w' => ∃ y ρ', e = .returned y ∧ Rep ρ' w' y r ∧ Sim c.G ρ' S' w' ∧ E ρ S w ρ' S' w') ∨
    (∃ y w' ρ', (callFunc g vs).run c.P w = .ok (.value y) w' ∧ Rep ρ' w' y r ∧ Sim c.G ρ' S' w' ∧ E ρ S w ρ' S' w')

/-- One account of a call in place of another. -/
theorem CallOk.mono {c : Cfg} {E E' : Ren → St → World → Ren → St → World → Prop} {g : FuncId} {as : List AV} {S T : St} {r r' : AV} {S' T' : St}
    (hin : ∀ ρ w, Sim c.G ρ T w → ∃ ρ0, Sim c.G ρ0 S w ∧ (∀ v a, a ∈ as → Rep ρ w v a → Rep ρ0 w v a) ∧
      ∀ y w' ρ', Rep ρ' w' y r → Sim c.G ρ' S' w' → E ρ0 S w ρ' S' w' → ∃ ρ2, Rep ρ2 w' y r' ∧ Sim c.G ρ2 T' w' ∧ E' ρ T w ρ2 T' w')
    (h : CallOk c E g as S r S') : CallOk c E' g as T r' T' := by
  intro ρ w vs hsz hvs hs
  obtain ⟨ρ0, h1, h2, h3⟩ := hin ρ w hs
  rcases h ρ0 w vs hsz (fun j v a hj ha => h2 v a (List.mem_of_getElem? ha) (hvs j v a hj ha)) h1 with ⟨g1, g2⟩ | ⟨y, w', ρ', g1, g2, g3, g4⟩
  · refine .inl ⟨g1, g2.mono ?_⟩
    rintro e w' ⟨y, ρ', rfl, q1, q2, q3⟩
    obtain ⟨ρ2, r1, r2, r3⟩ := h3 y w' ρ' q1 q2 q3
    exact ⟨y, ρ2, rfl, r1, r2, r3⟩
  · obtain ⟨ρ2, r1, r2, r3⟩ := h3 y w' ρ' g2 g3 g4
    exact .inr ⟨y, w', ρ2, g1, r1, r2, r3⟩

section
variable {c : Cfg} {ρ ρ' : Ren} {S S' : St} {w w' : World}

/-- What needs no references reads so under any renaming with the same immutable memory. -/
theorem Rep.noref {v : Value} {a : AV} (h : Rep ρ w v a) (hn : a.nref = true) (him : ∀ b j, ρ.im b j → ρ'.im b j) (hc : ∀ b j, ρ.im b j → w'.cell? ⟨b, j, none⟩ = w.cell? ⟨b, j, none⟩) (hz : ∀ b j, ρ.im b j → zf w b → zf w' b) (hs : RowsKept w w') : Rep ρ' w' v a :=
  h.restr (p := fun _ _ => false) him hc hz (fun _ _ h => by cases h) hs hn

theorem iso_ok (hg : ∀ g, (c.G g).nref = true) {g : FuncId} {as : List AV} {r : AV} {D : Nat} (has : AV.rinL (fun _ _ => false) as = true) (hr : r.nref = true) (h : CallOk c (Ext D) g as [] r []) (S : St) : CallOk c (fun ρ S w ρ' S' w' => Ext S.length ρ S w ρ' S' w' ∧ ρ'.ow = ρ.ow) g as S r S := by
  refine h.mono fun ρ w hs => ⟨⟨ρ.im, fun _ _ => none, fun _ => none⟩, ?_, fun v a ha hv => ?_, fun y w' ρ' hy hs' hx => ?_⟩
  · exact ⟨fun _ _ _ h => (nomatch h), fun d i k hk => (by simp [St.blk] at hk), fun d i d' i' b h1 _ => (by simp [own, St.blk] at h1), ⟨fun _ _ _ _ h => (nomatch h), fun _ _ _ _ _ _ _ h => (nomatch h)⟩, hs.im,
      fun g => (hs.glob g).noref (hg g) (fun _ _ h => h) (fun _ _ _ => rfl) (fun _ _ _ h => h) (Pers.refl ρ w).sz⟩
  · obtain ⟨j, hj⟩ := List.mem_iff_getElem?.1 ha
    exact hv.noref (AV.rinL_get has hj) (fun _ _ h => h) (fun _ _ _ => rfl) (fun _ _ _ h => h) (Pers.refl ρ w).sz
  · have hno : ∀ b, ¬ Owned ⟨ρ.im, fun _ _ => none, fun _ => none⟩ [] b := by
      rintro b (⟨d, i, h1⟩ | ⟨k, e, m, h1⟩)
      · simp [own, St.blk] at h1
      · cases h1
    have hkeep : ∀ b, b < w.heap.size → w'.heap[b]? = w.heap[b]? ∧ ∀ j, ρ'.im b j ↔ ρ.im b j := fun b hb => hx.keep b hb (hno b)
    have hp : Pers ρ w ⟨ρ'.im, ρ.mb, ρ.ow⟩ w' := ⟨hx.pers.im, hx.pers.cell, hx.pers.zf, fun _ _ _ h => h, hx.pers.sz⟩
    refine ⟨⟨ρ'.im, ρ.mb, ρ.ow⟩, hy.noref hr (fun _ _ h => h) (fun _ _ _ => rfl) (fun _ _ _ h => h) (Pers.refl ρ' w').sz, ⟨hs.dm, fun d i k hk => ?_, hs.inj, ?_, hs'.im, fun g => (hs.glob g).pers hp⟩, ⟨hp, hx.os, hx.tape, hx.output, hx.size, rfl, fun _ _ _ => rfl, fun b hb _ => hkeep b hb, fun b ho _ => ho, fun _ _ _ => rfl, fun _ => Nat.le_refl _⟩, rfl⟩
    · refine (hs.ok d i k hk).pers hp rfl (fun _ => rfl) fun b hnd hb => hkeep b (hs.own_size (own_of hb hk hnd))
    · exact hs.ow.same rfl (fun k b e m arr T hk hb => ⟨arr, T, by rw [(hkeep b (hs.ow_size hk)).1]; exact hb, Nat.le_refl _⟩) (fun k b e m hk j _ hi => ((hkeep b (hs.ow_size hk)).2 j).1 hi) fun k b e m hk d i ho => ⟨d, i, ho⟩

theorem blk_app {S : St} {fr : List Blk} {d i : Nat} (h : d < S.length) : St.blk (S ++ [fr]) d i = S.blk d i := by
  simp [St.blk, List.getElem?_append_left h]

theorem blk_app_last {S : St} {fr : List Blk} {i : Nat} : St.blk (S ++ [fr]) S.length i = fr[i]? := by
  simp [St.blk]

theorem blk_none {S : St} {d i : Nat} (h : S.length ≤ d) : S.blk d i = none := by
  simp [St.blk, List.getElem?_eq_none h]

theorem blk_nil {S : St} {d i : Nat} : St.blk (S ++ [[]]) d i = S.blk d i := by
  rcases Nat.lt_trichotomy d S.length with h | h | h
  · exact blk_app h
  · subst h; rw [blk_app_last, blk_none (Nat.le_refl _)]; rfl
  · rw [blk_none (by simp; omega), blk_none (by omega)]

theorem own_congr {ρ : Ren} {S T : St} {d i : Nat} (h : S.blk d i = T.blk d i) : own ρ S d i = own ρ T d i := by
  unfold own
  rw [h]

theorem OwOk.congr {G : Nat → AV} (h : Sim G ρ S w) {T : St} (hb : ∀ d i, T.blk d i = S.blk d i) : Sim G ρ T w := by
  have ho : ∀ d i, own ρ T d i = own ρ S d i := fun d i => own_congr (hb d i)
  refine ⟨fun d i b hd => by rw [hb]; exact h.dm d i b hd, fun d i k hk => h.ok d i k (hb d i ▸ hk), fun d i d' i' b h1 h2 => h.inj d i d' i' b (ho d i ▸ h1) (ho d' i' ▸ h2), ?_, h.im, h.glob⟩
  exact h.ow.same rfl (fun k b e m arr T _ hb => ⟨arr, T, hb, Nat.le_refl _⟩) (fun _ _ _ _ _ _ _ hi => hi) fun k b e m hk d i hd => ⟨d, i, ho d i ▸ hd⟩

theorem owned_congr {T : St} (hb : ∀ d i, T.blk d i = S.blk d i) {b : Nat} : Owned ρ T b ↔ Owned ρ S b := by
  unfold Owned
  simp only [own_congr (hb _ _)]

/-- The callee's frame goes. -/
theorem pop_ok (hg : ∀ g, (c.G g).nref = true) {g : FuncId} {as : List AV} {r : AV} {fr' : List Blk} (hr : AV.rin (fun d _ => decide (d < S.length)) r = true)
    (h : CallOk c (Ext S.length) g as (S ++ [[]]) r (S' ++ [fr'])) : CallOk c (Ext S.length) g as S r S' := by
  refine h.mono fun ρ w hs => ⟨ρ, OwOk.congr hs fun d i => blk_nil, fun v a _ hv => hv, fun y w' ρ' hy hs' hx => ?_⟩
  have hl : S'.length = S.length := by have := hx.len; simpa using this
  let ρ2 : Ren := ⟨ρ'.im, fun d i => if d < S.length then ρ'.mb d i else none, ρ'.ow⟩
  have hmb : ∀ d i, d < S.length → ρ2.mb d i = ρ'.mb d i := fun d i hd => by simp [ρ2, hd]
  have hblk : ∀ d i, d < S.length → St.blk (S' ++ [fr']) d i = S'.blk d i := fun d i hd => blk_app (by omega)
  have hrs : ∀ {v : Value} {a : AV}, AV.rin (fun d _ => decide (d < S.length)) a = true → Rep ρ' w' v a → Rep ρ2 w' v a := fun hn hv =>
    hv.restr (ρ := ρ') (ρ' := ρ2) (p := fun d _ => decide (d < S.length)) (fun _ _ h => h) (fun _ _ _ => rfl) (fun _ _ _ h => h) (fun d i hd => hmb d i (by simpa using hd)) (Pers.refl ρ' w').sz hn
  have hp : Pers ρ w ρ2 w' := ⟨hx.pers.im, hx.pers.cell, hx.pers.zf, fun d i b hb => by
    have hd : d < S.length := by
      obtain ⟨k, hk⟩ := Option.isSome_iff_exists.1 (hs.dm d i b hb)
      exact St.lt_of_blk hk
    rw [hmb d i hd]
    exact hx.pers.mb d i b hb, hx.pers.sz⟩
  have hown : ∀ d i b, own ρ2 S' d i = some b → own ρ' (S' ++ [fr']) d i = some b := by
    intro d i b ho
    obtain ⟨h1, k, h2, h3⟩ := own_blk ho
    have hd : d < S.length := by have := St.lt_of_blk h2; omega
    rw [hmb d i hd] at h1
    exact own_of h1 ((hblk d i hd).trans h2) h3
  refine ⟨ρ2, hrs hr hy, ⟨fun d i b hb => ?_, fun d i k hk => ?_, fun d i d' i' b h1 h2 => hs'.inj d i d' i' b (hown _ _ _ h1) (hown _ _ _ h2), ?_, hs'.im, fun g => hrs (AV.rin_of_nref (hg g)) (hs'.glob g)⟩, hp, hx.os, hx.tape, hx.output, hx.size, hl, hx.regs, fun b hb hn => hx.keep b hb (fun ho => hn ((owned_congr fun d i => blk_nil).1 ho)), fun b ho hb => ?_, fun d i hi => ?_, fun d => ?_⟩
  · by_cases hd : d < S.length
    · rw [hmb d i hd] at hb
      rw [← hblk d i hd]
      exact hs'.dm d i b hb
    · simp [ρ2, hd] at hb
  · have hd : d < S.length := by have := St.lt_of_blk hk; omega
    have hok := hs'.ok d i k ((hblk d i hd).trans hk)
    cases k with
    | cells cs ts =>
      intro b hb
      rw [hmb d i hd] at hb
      obtain ⟨h1, arr, T, h2, h3, h4⟩ := hok b hb
      refine ⟨h1, arr, T, h2, h3, fun j cc hc => ?_⟩
      obtain ⟨a1, a0, v, a2, a3, a4, a5⟩ := h4 j cc hc
      refine ⟨a1, a0, v, a2, a3, hrs (AV.rin_mono (fun d' i' hd' => ?_) _ a1) a4, a5⟩
      simp only [hyg, decide_eq_true_eq] at hd' ⊢
      omega
    | map l =>
      intro b hb
      rw [hmb d i hd] at hb
      exact hok b hb
    | iter s p =>
      intro b hb
      rw [hmb d i hd] at hb
      exact hok b hb
    | dead => trivial
  · exact hs'.ow.same rfl (fun k b e m arr T _ hb => ⟨arr, T, hb, Nat.le_refl _⟩) (fun _ _ _ _ _ _ _ hi => hi) fun k b e m hk d i ho => ⟨d, i, hown d i b ho⟩
  · refine (owned_congr fun d i => blk_nil).1 (hx.fresh b ?_ hb)
    rcases ho with ⟨d, i, ho⟩ | ho
    · exact .inl ⟨d, i, hown d i b ho⟩
    · exact .inr ho
  · have hd : d < S.length := St.lt_of_len hi
    rw [hmb d i hd]
    exact hx.mbk d i (by rw [St.len_app hd]; exact hi)
  · rcases Nat.lt_or_ge d S.length with hd | hd
    · have := hx.lens d
      rw [St.len_app hd, St.len_app (by omega)] at this
      exact this
    · rw [St.len_none hd]; exact Nat.zero_le _

theorem splitLast_spec : ∀ {S : St} {x : St × List Blk}, splitLast S = some x → S = x.1 ++ [x.2]
  | [], _, h => by cases h
  | [y], _, h => by simp [splitLast] at h; subst h; rfl
  | y :: z :: l, x, h => by
    simp only [splitLast, Option.map_eq_some_iff] at h
    obtain ⟨r, h1, rfl⟩ := h
    have := splitLast_spec h1
    simp [this]

theorem splitLast_app (S : St) (fr : List Blk) : splitLast (S ++ [fr]) = some (S, fr) := by
  induction S with
  | nil => rfl
  | cons x S ih =>
    cases S with
    | nil => rfl
    | cons y S => simp only [List.cons_append, splitLast] at ih ⊢; rw [ih]; rfl

end
end
end Go.Ab
