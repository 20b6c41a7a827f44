import Derived.Test.YtlpffainhdnaiaaGreatDoorAbDefs
/- States of our own machine, and what it means that a real world bears one. -/
namespace Go.Ab
open Go

def St.blk (S : St) (d i : Nat) : Option Blk := (S[d]?).bind fun fr => fr[i]?
def St.upd (S : St) (d i : Nat) (k : Blk) : St := S.modify d fun fr => fr.set i k
def St.push (S : St) (d : Nat) (k : Blk) : St := S.modify d fun fr => fr ++ [k]
def St.len (S : St) (d : Nat) : Nat := ((S[d]?).map List.length).getD 0

theorem St.blk_upd_same {S : St} {d i : Nat} {k k' : Blk} (h : S.blk d i = some k) : (S.upd d i k').blk d i = some k' := by
  unfold St.blk at h
  cases hd : S[d]? with
  | none => simp [hd] at h
  | some fr =>
    simp only [hd, Option.bind_some] at h
    have hi : i < fr.length := (List.getElem?_eq_some_iff.1 h).1
    simp [St.blk, St.upd, hd, hi]

theorem St.blk_upd_other {S : St} {d i d' i' : Nat} {k' : Blk} (h : ¬ (d' = d ∧ i' = i)) : (S.upd d i k').blk d' i' = S.blk d' i' := by
  unfold St.blk St.upd
  rw [List.getElem?_modify]
  by_cases hd : d = d'
  · subst hd
    have hi : i ≠ i' := fun e => h ⟨rfl, e.symm⟩
    cases hs : S[d]? with
    | none => simp
    | some fr => simp [hi]
  · simp [hd]

theorem St.lt_of_blk {S : St} {d i : Nat} {k : Blk} (h : S.blk d i = some k) : d < S.length := by
  unfold St.blk at h
  cases hd : S[d]? with
  | none => simp [hd] at h
  | some fr => exact (List.getElem?_eq_some_iff.1 hd).1

theorem St.blk_push_new {S : St} {d : Nat} {k : Blk} (h : d < S.length) : (S.push d k).blk d (S.len d) = some k := by
  simp [St.blk, St.push, St.len, List.getElem?_eq_getElem h]

theorem St.blk_len_none {S : St} {d : Nat} : S.blk d (S.len d) = none := by
  unfold St.blk St.len
  cases hs : S[d]? with
  | none => simp
  | some fr => simp

theorem St.blk_push_other {S : St} {d d' i' : Nat} {k : Blk} (h : ¬ (d' = d ∧ i' = S.len d)) : (S.push d k).blk d' i' = S.blk d' i' := by
  unfold St.blk St.push
  rw [List.getElem?_modify]
  by_cases hd : d = d'
  · subst hd
    cases hs : S[d]? with
    | none => simp
    | some fr =>
      have hi : i' ≠ fr.length := fun e => h ⟨rfl, by simp [St.len, hs, e]⟩
      simp only [if_true, Option.map_eq_map, Option.map_some, Option.bind_some]
      rcases Nat.lt_trichotomy i' fr.length with hl | hl | hl
      · rw [List.getElem?_append_left hl]
      · exact absurd hl hi
      · rw [List.getElem?_eq_none (by simp; omega), List.getElem?_eq_none (by omega)]
  · simp [hd]

theorem St.len_upd (S : St) (d i : Nat) (k : Blk) (d' : Nat) : (S.upd d i k).len d' = S.len d' := by
  unfold St.len St.upd
  rw [List.getElem?_modify]
  split
  · rename_i h
    subst h
    cases S[d]? <;> simp
  · simp
theorem St.len_push (S : St) (d : Nat) (k : Blk) (d' : Nat) : S.len d' ≤ (S.push d k).len d' := by
  unfold St.len St.push
  rw [List.getElem?_modify]
  split
  · rename_i h
    subst h
    cases S[d]? <;> simp
  · simp
theorem St.len_of_blk {S : St} {d i : Nat} {k : Blk} (h : S.blk d i = some k) : i < S.len d := by
  unfold St.blk at h
  unfold St.len
  cases hd : S[d]? with
  | none => simp [hd] at h
  | some fr =>
    simp only [hd, Option.bind_some] at h
    simpa using (List.getElem?_eq_some_iff.1 h).1

theorem St.lt_of_len {S : St} {d i : Nat} (h : i < S.len d) : d < S.length := by
  rcases Nat.lt_or_ge d S.length with hd | hd
  · exact hd
  · simp [St.len, List.getElem?_eq_none hd] at h
theorem St.len_app {S : St} {fr : List Blk} {d : Nat} (h : d < S.length) : St.len (S ++ [fr]) d = S.len d := by
  simp [St.len, List.getElem?_append_left h]
theorem St.len_none {S : St} {d : Nat} (h : S.length ≤ d) : S.len d = 0 := by
  simp [St.len, List.getElem?_eq_none h]

theorem St.length_upd (S : St) (d i : Nat) (k : Blk) : (S.upd d i k).length = S.length := by simp [St.upd]
theorem St.length_push (S : St) (d : Nat) (k : Blk) : (S.push d k).length = S.length := by simp [St.push]

/-- The real block that a block of ours owns. -/
def own (ρ : Ren) (S : St) (d i : Nat) : Option Nat :=
  match S.blk d i with
  | none | some .dead => none
  | some _ => ρ.mb d i

def Owned (ρ : Ren) (S : St) (b : Nat) : Prop := (∃ d i, own ρ S d i = some b) ∨ ∃ k e m, ρ.ow k = some (b, e, m)

/-- References go to the own frame, or below. -/
def hyg (d : Nat) : Nat → Nat → Bool := fun d' _ => decide (d' ≤ d)

def tagAt (ts : List (Nat × Tag)) (j : Nat) : Tag := (ts.lookup j).getD .no

def BlkOk (ρ : Ren) (w : World) (d i : Nat) : Blk → Prop
  | .cells cs ts => ∀ b, ρ.mb d i = some b → (∀ j, ¬ ρ.im b j) ∧ ∃ arr T, w.heap[b]? = some (.cells arr T (0, 0)) ∧ cs.length ≤ arr.size ∧
      ∀ (j : Nat) c, cs[j]? = some c → AV.rin (hyg d) c = true ∧ (∀ k, (tagAt ts j).of = some k → k = .cel d i j) ∧ ∃ v, arr[j]? = some v ∧ v.oneCell' = true ∧ Rep ρ w v c ∧ TagOk ρ v c (tagAt ts j)
  | .map l => ∀ b, ρ.mb d i = some b → (∀ j, ¬ ρ.im b j) ∧ ∃ ents clock, w.heap[b]? = some (.map ents clock) ∧ ents.size = l.length ∧
      ∀ (j : Nat) e k, ents[j]? = some e → l[j]? = some k → e.key = .string ⟨k.1.toArray⟩ ∧ e.val = .int .i64 k.2
  | .iter s p => ∀ b, ρ.mb d i = some b → (∀ j, ¬ ρ.im b j) ∧ w.heap[b]? = some (.stringIter ⟨s.toArray⟩ p)
  | .dead => True

/-- What the classes own. -/
structure OwOk (ρ : Ren) (S : St) (w : World) : Prop where
  row : ∀ k b e m, ρ.ow k = some (b, e, m) → e ≤ m ∧ (∃ arr T, w.heap[b]? = some (.cells arr T (0, 0)) ∧ m ≤ arr.size) ∧ (∀ j, e ≤ j → ¬ ρ.im b j) ∧ ∀ d i, own ρ S d i ≠ some b
  inj : ∀ k k' b e m e' m', ρ.ow k = some (b, e, m) → ρ.ow k' = some (b, e', m') → k = k'

structure Sim (G : Nat → AV) (ρ : Ren) (S : St) (w : World) : Prop where
  dm : ∀ d i b, ρ.mb d i = some b → (S.blk d i).isSome = true
  ok : ∀ d i k, S.blk d i = some k → BlkOk ρ w d i k
  inj : ∀ d i d' i' b, own ρ S d i = some b → own ρ S d' i' = some b → d = d' ∧ i = i'
  ow : OwOk ρ S w
  im : ∀ b j, ρ.im b j → (w.cell? ⟨b, j, none⟩).isSome = true ∧ w.frozen? ⟨b, j, none⟩ = false
  glob : ∀ g, Rep ρ w (.pointer (some ⟨g, 0, none⟩)) (G g)

/-- A world that came of another, by a function whose frame is D: what was immutable is, what nobody owned is as it was, and the registers' classes of the frames below stay. -/
structure Ext (D : Nat) (ρ : Ren) (S : St) (w : World) (ρ' : Ren) (S' : St) (w' : World) : Prop where
  pers : Pers ρ w ρ' w'
  os : w'.os = w.os
  tape : w'.tape = w.tape
  output : w'.output = w.output
  size : w.heap.size ≤ w'.heap.size
  len : S'.length = S.length
  regs : ∀ d r, d < D → ρ'.ow (.reg d r) = ρ.ow (.reg d r)
  keep : ∀ b, b < w.heap.size → ¬ Owned ρ S b → w'.heap[b]? = w.heap[b]? ∧ ∀ j, ρ'.im b j ↔ ρ.im b j
  fresh : ∀ b, Owned ρ' S' b → b < w.heap.size → Owned ρ S b
  mbk : ∀ d i, i < S.len d → ρ'.mb d i = ρ.mb d i
  lens : ∀ d, S.len d ≤ S'.len d

theorem Ext.refl (D : Nat) (ρ : Ren) (S : St) (w : World) : Ext D ρ S w ρ S w :=
  ⟨Pers.refl _ _, rfl, rfl, rfl, Nat.le_refl _, rfl, fun _ _ _ => rfl, fun _ _ _ => ⟨rfl, fun _ => Iff.rfl⟩, fun _ h _ => h, fun _ _ _ => rfl, fun _ => Nat.le_refl _⟩

theorem Ext.trans {D : Nat} {ρ ρ1 ρ2 : Ren} {S S1 S2 : St} {w w1 w2 : World} (h : Ext D ρ S w ρ1 S1 w1) (k : Ext D ρ1 S1 w1 ρ2 S2 w2) : Ext D ρ S w ρ2 S2 w2 :=
  ⟨h.pers.trans k.pers, k.os.trans h.os, k.tape.trans h.tape, k.output.trans h.output, Nat.le_trans h.size k.size, k.len.trans h.len,
   fun d r hd => (k.regs d r hd).trans (h.regs d r hd),
   fun b hb hn => by
     have hn1 : ¬ Owned ρ1 S1 b := fun ho => hn (h.fresh b ho hb)
     obtain ⟨a1, a2⟩ := h.keep b hb hn
     obtain ⟨b1, b2⟩ := k.keep b (Nat.lt_of_lt_of_le hb h.size) hn1
     exact ⟨b1.trans a1, fun j => (b2 j).trans (a2 j)⟩,
   fun b ho hb => h.fresh b (k.fresh b ho (Nat.lt_of_lt_of_le hb h.size)) hb,
   fun d i hi => (k.mbk d i (Nat.lt_of_lt_of_le hi (h.lens d))).trans (h.mbk d i hi),
   fun d => Nat.le_trans (h.lens d) (k.lens d)⟩

theorem own_blk {ρ : Ren} {S : St} {d i b : Nat} (h : own ρ S d i = some b) : ρ.mb d i = some b ∧ ∃ k, S.blk d i = some k ∧ k ≠ .dead := by
  unfold own at h
  split at h
  · cases h
  · cases h
  · rename_i k hk hs
    exact ⟨h, k, hs, fun e => hk (e ▸ rfl)⟩

theorem own_of {ρ : Ren} {S : St} {d i b : Nat} {k : Blk} (h : ρ.mb d i = some b) (hs : S.blk d i = some k) (hk : k ≠ .dead) : own ρ S d i = some b := by
  unfold own
  rw [hs]
  cases k <;> first | exact h | exact absurd rfl hk

theorem BlkOk.pers {ρ ρ' : Ren} {w w' : World} {d i : Nat} {k : Blk} (hp : Pers ρ w ρ' w') (hmb : ρ'.mb d i = ρ.mb d i) (hcel : ∀ j, ρ'.ow (.cel d i j) = ρ.ow (.cel d i j))
    (hh : ∀ b, k ≠ .dead → ρ.mb d i = some b → w'.heap[b]? = w.heap[b]? ∧ ∀ j, ρ'.im b j ↔ ρ.im b j) (h : BlkOk ρ w d i k) : BlkOk ρ' w' d i k := by
  cases k with
  | cells cs ts =>
    intro b hb
    rw [hmb] at hb
    obtain ⟨e1, e2⟩ := hh b (by simp) hb
    obtain ⟨h1, arr, T, h2, h3, h4⟩ := h b hb
    refine ⟨fun j hj => h1 j ((e2 j).1 hj), arr, T, e1.trans h2, h3, fun j c hc => ?_⟩
    obtain ⟨a1, a0, v, a2, a3, a4, a5⟩ := h4 j c hc
    exact ⟨a1, a0, v, a2, a3, a4.pers hp, a5.pers fun k hk => by rw [a0 k hk]; exact hcel j⟩
  | map l =>
    intro b hb
    rw [hmb] at hb
    obtain ⟨e1, e2⟩ := hh b (by simp) hb
    obtain ⟨h1, ents, clock, h2, h3, h4⟩ := h b hb
    exact ⟨fun j hj => h1 j ((e2 j).1 hj), ents, clock, e1.trans h2, h3, h4⟩
  | iter s p =>
    intro b hb
    rw [hmb] at hb
    obtain ⟨e1, e2⟩ := hh b (by simp) hb
    obtain ⟨h1, h2⟩ := h b hb
    exact ⟨fun j hj => h1 j ((e2 j).1 hj), e1.trans h2⟩
  | dead => trivial

/-- One block (dt, it) turned, the classes may have, and perhaps new real blocks came: the state is borne again. -/
theorem Sim.update {G : Nat → AV} {ρ ρ' : Ren} {S S' : St} {w w' : World} (h : Sim G ρ S w) (hp : Pers ρ w ρ' w') (dt it : Nat)
    (hS : ∀ d i, ¬ (d = dt ∧ i = it) → S'.blk d i = S.blk d i)
    (hm : ∀ d i, ¬ (d = dt ∧ i = it) → ρ'.mb d i = ρ.mb d i)
    (hcel : ∀ d i j, ¬ (d = dt ∧ i = it) → ρ'.ow (.cel d i j) = ρ.ow (.cel d i j))
    (hheap : ∀ b d i, ¬ (d = dt ∧ i = it) → own ρ S d i = some b → w'.heap[b]? = w.heap[b]? ∧ ∀ j, ρ'.im b j ↔ ρ.im b j)
    (hk : ∀ k, S'.blk dt it = some k → BlkOk ρ' w' dt it k)
    (hdm : ∀ b, ρ'.mb dt it = some b → (S'.blk dt it).isSome = true)
    (hinj : ∀ b d i, ¬ (d = dt ∧ i = it) → own ρ S d i = some b → own ρ' S' dt it ≠ some b)
    (how : OwOk ρ' S' w')
    (him : ∀ b j, ρ'.im b j → (w'.cell? ⟨b, j, none⟩).isSome = true ∧ w'.frozen? ⟨b, j, none⟩ = false) : Sim G ρ' S' w' := by
  have hown : ∀ d i, ¬ (d = dt ∧ i = it) → own ρ' S' d i = own ρ S d i := by
    intro d i hne
    unfold own
    rw [hS d i hne, hm d i hne]
  refine ⟨fun d i b hb => ?_, fun d i k hk' => ?_, fun d i d' i' b h1 h2 => ?_, how, him, fun g => (h.glob g).pers hp⟩
  · by_cases hne : d = dt ∧ i = it
    · obtain ⟨rfl, rfl⟩ := hne; exact hdm b hb
    · rw [hS d i hne]; exact h.dm d i b ((hm d i hne) ▸ hb)
  · by_cases hne : d = dt ∧ i = it
    · obtain ⟨rfl, rfl⟩ := hne; exact hk k hk'
    · have hk'' := hk'
      rw [hS d i hne] at hk'
      exact (h.ok d i k hk').pers hp (hm d i hne) (fun j => hcel d i j hne) fun b hnd hb => hheap b d i hne (own_of hb hk' hnd)
  · by_cases hne : d = dt ∧ i = it <;> by_cases hne' : d' = dt ∧ i' = it
    · exact ⟨hne.1.trans hne'.1.symm, hne.2.trans hne'.2.symm⟩
    · obtain ⟨rfl, rfl⟩ := hne
      rw [hown d' i' hne'] at h2
      exact absurd h1 (hinj b d' i' hne' h2)
    · obtain ⟨rfl, rfl⟩ := hne'
      rw [hown d i hne] at h1
      exact absurd h2 (hinj b d i hne h1)
    · rw [hown d i hne] at h1
      rw [hown d' i' hne'] at h2
      exact h.inj d i d' i' b h1 h2

/-- What is owned lies in the heap. -/
theorem Sim.own_lt {G : Nat → AV} {ρ : Ren} {S : St} {w : World} (h : Sim G ρ S w) {d i b : Nat} (ho : own ρ S d i = some b) : (∃ o, w.heap[b]? = some o) ∧ ∀ j, ¬ ρ.im b j := by
  obtain ⟨hm, k, hk, hnd⟩ := own_blk ho
  have hok := h.ok d i k hk
  cases k with
  | cells cs ts => obtain ⟨h1, arr, T, h2, _⟩ := hok b hm; exact ⟨⟨_, h2⟩, h1⟩
  | map l => obtain ⟨h1, e, c, h2, _⟩ := hok b hm; exact ⟨⟨_, h2⟩, h1⟩
  | iter s p => obtain ⟨h1, h2⟩ := hok b hm; exact ⟨⟨_, h2⟩, h1⟩
  | dead => exact absurd rfl hnd

theorem Sim.own_size {G : Nat → AV} {ρ : Ren} {S : St} {w : World} (h : Sim G ρ S w) {d i b : Nat} (ho : own ρ S d i = some b) : b < w.heap.size := by
  obtain ⟨⟨o, ho'⟩, _⟩ := h.own_lt ho
  exact (Array.getElem?_eq_some_iff.1 ho').1

theorem Sim.ow_size {G : Nat → AV} {ρ : Ren} {S : St} {w : World} (h : Sim G ρ S w) {k : Cls} {b e m : Nat} (ho : ρ.ow k = some (b, e, m)) : b < w.heap.size := by
  obtain ⟨_, ⟨arr, T, h1, _⟩, _⟩ := h.ow.row k b e m ho
  exact (Array.getElem?_eq_some_iff.1 h1).1

theorem Sim.owned_size {G : Nat → AV} {ρ : Ren} {S : St} {w : World} (h : Sim G ρ S w) {b : Nat} (ho : Owned ρ S b) : b < w.heap.size := by
  rcases ho with ⟨d, i, ho⟩ | ⟨k, e, m, ho⟩
  · exact h.own_size ho
  · exact h.ow_size ho

theorem Sim.im_lt {G : Nat → AV} {ρ : Ren} {S : St} {w : World} (h : Sim G ρ S w) {b j : Nat} (hi : ρ.im b j) : b < w.heap.size := by
  have h1 := (h.im b j hi).1
  cases hc : w.cell? ⟨b, j, none⟩ with
  | none => simp [hc] at h1
  | some v => exact World.block_lt_of_cell? w _ hc

/-- Nothing of the classes turned. -/
theorem OwOk.same {ρ ρ' : Ren} {S S' : St} {w w' : World} (h : OwOk ρ S w) (he : ρ'.ow = ρ.ow)
    (hr : ∀ k b e m arr T, ρ.ow k = some (b, e, m) → w.heap[b]? = some (.cells arr T (0, 0)) → ∃ arr' T', w'.heap[b]? = some (.cells arr' T' (0, 0)) ∧ arr.size ≤ arr'.size)
    (hi : ∀ k b e m, ρ.ow k = some (b, e, m) → ∀ j, e ≤ j → ρ'.im b j → ρ.im b j)
    (ho : ∀ k b e m, ρ.ow k = some (b, e, m) → ∀ d i, own ρ' S' d i = some b → ∃ d' i', own ρ S d' i' = some b) : OwOk ρ' S' w' := by
  refine ⟨fun k b e m hk => ?_, fun k k' b e m e' m' h1 h2 => h.inj k k' b e m e' m' (he ▸ h1) (he ▸ h2)⟩
  rw [he] at hk
  obtain ⟨h1, ⟨arr, T, h2, h3⟩, h4, h5⟩ := h.row k b e m hk
  obtain ⟨arr', T', h6, h7⟩ := hr k b e m arr T hk h2
  refine ⟨h1, ⟨arr', T', h6, Nat.le_trans h3 h7⟩, fun j hj hij => h4 j hj (hi k b e m hk j hj hij), fun d i hd => ?_⟩
  obtain ⟨d', i', h8⟩ := ho k b e m hk d i hd
  exact h5 d' i' h8

end Go.Ab
