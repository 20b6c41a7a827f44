import Derived.Test.YtlpffainhdnaiaaGreatDoorAbRun
/- New blocks: of our own machine's (cells, a map, an iterator), and immutable rows. -/
namespace Go.Ab
open Go

theorem heap_alloc_lt {w : World} {o : Obj} {b : Nat} (h : b < w.heap.size) : (w.alloc o).heap[b]? = w.heap[b]? := by
  show (w.heap.push o)[b]? = _
  rw [Array.getElem?_push, if_neg (by omega)]

theorem rows_alloc (w : World) (o : Obj) : RowsKept w (w.alloc o) := fun b arr T fz h => ⟨arr, fz, by rw [heap_alloc_lt (Array.getElem?_eq_some_iff.1 h).1]; exact h, Nat.le_refl _⟩

theorem rows_heap {w w' : World} (h : w'.heap = w.heap) : RowsKept w w' := fun b arr T fz hb => ⟨arr, fz, by rw [h]; exact hb, Nat.le_refl _⟩

theorem pers_alloc {ρ : Ren} {w : World} (o : Obj) (him : ∀ b j, ρ.im b j → b < w.heap.size) : Pers ρ w ρ (w.alloc o) :=
  ⟨fun _ _ h => h, fun b j h => World.cell?_alloc_lt w o ⟨b, j, none⟩ (him b j h),
   fun b j h ⟨arr, T, hz⟩ => ⟨arr, T, by rw [heap_alloc_lt (him b j h)]; exact hz⟩,
   fun _ _ _ h => h, rows_alloc w o⟩

theorem heap_alloc_new' (w : World) (o : Obj) : (w.alloc o).heap[w.heap.size]? = some o := by
  show (w.heap.push o)[w.heap.size]? = _
  simp

theorem frozen_of_heap {w w' : World} {b j : Nat} (h : w'.heap[b]? = w.heap[b]?) : w'.frozen? ⟨b, j, none⟩ = w.frozen? ⟨b, j, none⟩ := by
  simp [World.frozen?, h]

theorem cell_of_heap {w w' : World} {b j : Nat} (h : w'.heap[b]? = w.heap[b]?) : w'.cell? ⟨b, j, none⟩ = w.cell? ⟨b, j, none⟩ := by
  simp [World.cell?, h]

/-- The renaming with one block more. -/
def Ren.add (ρ : Ren) (d i b : Nat) : Ren := { ρ with mb := fun d' i' => if d' = d ∧ i' = i then some b else ρ.mb d' i' }

theorem Ren.add_same (ρ : Ren) (d i b : Nat) : (ρ.add d i b).mb d i = some b := by simp [Ren.add]
theorem Ren.add_other (ρ : Ren) {d i b d' i' : Nat} (h : ¬ (d' = d ∧ i' = i)) : (ρ.add d i b).mb d' i' = ρ.mb d' i' := by simp [Ren.add, h]

/-- An unbound block of ours is bound to a new real one, and has its content. -/
theorem sim_bind {G : Nat → AV} {ρ : Ren} {S S' : St} {w : World} {d i : Nat} (h : Sim G ρ S w) (hnone : ρ.mb d i = none) (k : Blk) (o : Obj)
    (hS : ∀ d' i', ¬ (d' = d ∧ i' = i) → S'.blk d' i' = S.blk d' i') (hnew : S'.blk d i = some k) (hlen : S'.length = S.length) (hlens : ∀ d', S.len d' ≤ S'.len d')
    (hk : ∀ ρ' w', Pers ρ w ρ' w' → (∀ j, ¬ ρ'.im w.heap.size j) → ρ'.mb d i = some w.heap.size → ρ'.ow = ρ.ow → w'.heap[w.heap.size]? = some o → BlkOk ρ' w' d i k) :
    Sim G (ρ.add d i w.heap.size) S' (w.alloc o) ∧ ∀ (D0 : Nat) (ρ0 : Ren) (S0 : St) (w0 : World), S0.len d ≤ i → Ext D0 ρ0 S0 w0 ρ S w → Ext D0 ρ0 S0 w0 (ρ.add d i w.heap.size) S' (w.alloc o) := by
  have hp : Pers ρ w (ρ.add d i w.heap.size) (w.alloc o) := by
    have hp0 := pers_alloc (ρ := ρ) (w := w) o (fun b j hi => h.im_lt hi)
    refine ⟨hp0.im, hp0.cell, hp0.zf, fun d' i' b hb => ?_, rows_alloc w o⟩
    by_cases he : d' = d ∧ i' = i
    · obtain ⟨rfl, rfl⟩ := he; rw [hnone] at hb; cases hb
    · rw [Ren.add_other ρ he]; exact hb
  have hnim : ∀ j, ¬ ρ.im w.heap.size j := fun j hi => by have := h.im_lt hi; omega
  have hownb : ∀ d' i' b, own (ρ.add d i w.heap.size) S' d' i' = some b → b = w.heap.size ∨ own ρ S d' i' = some b := by
    intro d' i' b ho
    by_cases he : d' = d ∧ i' = i
    · obtain ⟨rfl, rfl⟩ := he
      have := (own_blk ho).1
      rw [Ren.add_same] at this
      injection this with this
      exact .inl this.symm
    · refine .inr ?_
      rw [← ho]
      unfold own
      rw [hS d' i' he, Ren.add_other ρ he]
  refine ⟨h.update hp d i hS (fun d' i' hne => Ren.add_other ρ hne) (fun _ _ _ _ => rfl) (fun b d' i' _ ho => ⟨heap_alloc_lt (h.own_size ho), fun j => Iff.rfl⟩) (fun k' hk' => ?_) (fun b _ => ?_) (fun b d' i' _ ho he => ?_) ?_ (fun b j hi => ?_), fun D0 ρ0 S0 w0 hi0 hx => ⟨hx.pers.trans hp, hx.os, hx.tape, hx.output, Nat.le_trans hx.size (by simp), hlen.trans hx.len, fun d' r hd' => hx.regs d' r hd', fun b hb hno => ?_, fun b ho hb => ?_, fun d' i' hi' => ?_, fun d' => Nat.le_trans (hx.lens d') (hlens d')⟩⟩
  · rw [hnew] at hk'
    injection hk' with hk'
    subst hk'
    exact hk _ _ hp hnim (Ren.add_same ..) rfl (heap_alloc_new' w o)
  · simp [hnew]
  · have := h.own_size ho
    have he := (own_blk he).1
    rw [Ren.add_same] at he
    injection he with he
    omega
  · refine h.ow.same rfl (fun k b e m arr T hk hb => ⟨arr, T, by rw [heap_alloc_lt (h.ow_size hk)]; exact hb, Nat.le_refl _⟩) (fun _ _ _ _ _ _ _ hi => hi) fun k b e m hk d' i' ho => ?_
    rcases hownb d' i' b ho with e1 | e1
    · have := h.ow_size hk; omega
    · exact ⟨d', i', e1⟩
  · obtain ⟨h1, h2⟩ := h.im b j hi
    have hb := h.im_lt hi
    rw [cell_of_heap (heap_alloc_lt hb), frozen_of_heap (heap_alloc_lt hb)]
    exact ⟨h1, h2⟩
  · have hb' := Nat.lt_of_lt_of_le hb hx.size
    obtain ⟨a1, a2⟩ := hx.keep b hb hno
    exact ⟨(heap_alloc_lt hb').trans a1, a2⟩
  · have hb' := Nat.lt_of_lt_of_le hb hx.size
    refine hx.fresh b ?_ hb
    rcases ho with ⟨d', i', ho⟩ | ho
    · rcases hownb d' i' b ho with e1 | e1
      · omega
      · exact .inl ⟨d', i', e1⟩
    · exact .inr ho
  · have hne : ¬ (d' = d ∧ i' = i) := by
      rintro ⟨rfl, rfl⟩
      omega
    rw [Ren.add_other ρ hne]
    exact hx.mbk d' i' hi'

theorem sim_push {G : Nat → AV} {ρ : Ren} {S : St} {w : World} {d D : Nat} (h : Sim G ρ S w) (hd : d < S.length) (k : Blk) (o : Obj)
    (hk : ∀ ρ' w', Pers ρ w ρ' w' → (∀ j, ¬ ρ'.im w.heap.size j) → ρ'.mb d (S.len d) = some w.heap.size → ρ'.ow = ρ.ow → w'.heap[w.heap.size]? = some o → BlkOk ρ' w' d (S.len d) k) :
    Sim G (ρ.add d (S.len d) w.heap.size) (S.push d k) (w.alloc o) ∧ Ext D ρ S w (ρ.add d (S.len d) w.heap.size) (S.push d k) (w.alloc o) :=
  have hb := sim_bind h (by
    cases hm : ρ.mb d (S.len d) with
    | none => rfl
    | some b => have := h.dm d _ b hm; rw [St.blk_len_none] at this; cases this) k o (fun _ _ hne => St.blk_push_other hne) (St.blk_push_new hd) (St.length_push ..) (St.len_push S d k) hk
  ⟨hb.1, hb.2 D ρ S w (Nat.le_refl _) (Ext.refl ..)⟩

theorem blk_cells_new {ρ ρ' : Ren} {w w' : World} {d i b0 : Nat} {cs : List AV} {arr : Array Value} {T : TypeId} (hsz : cs.length ≤ arr.size)
    (hc : ∀ (j : Nat) c, cs[j]? = some c → AV.rin (hyg d) c = true ∧ ∃ v, arr[j]? = some v ∧ v.oneCell' = true ∧ Rep ρ w v c)
    (hp : Pers ρ w ρ' w') (hn : ∀ j, ¬ ρ'.im b0 j) (hm : ρ'.mb d i = some b0) (hh : w'.heap[b0]? = some (.cells arr T (0, 0))) : BlkOk ρ' w' d i (.cells cs []) := by
  intro b hb
  rw [hm] at hb
  injection hb with hb
  subst hb
  exact ⟨hn, arr, T, hh, hsz, fun j c hj => by
    obtain ⟨h1, v, h2, h3, h4⟩ := hc j c hj
    exact ⟨h1, by simp [tagAt, Tag.of], v, h2, h3, h4.pers hp, trivial⟩⟩

theorem sim_alloc {G : Nat → AV} {ρ : Ren} {S : St} {w : World} {d D : Nat} (h : Sim G ρ S w) (hd : d < S.length) (cs : List AV) (arr : Array Value) (T : TypeId) (hsz : cs.length ≤ arr.size)
    (hc : ∀ (j : Nat) c, cs[j]? = some c → AV.rin (hyg d) c = true ∧ ∃ v, arr[j]? = some v ∧ v.oneCell' = true ∧ Rep ρ w v c) :
    Sim G (ρ.add d (S.len d) w.heap.size) (S.push d (.cells cs [])) (w.alloc (.cells arr T)) ∧ Ext D ρ S w (ρ.add d (S.len d) w.heap.size) (S.push d (.cells cs [])) (w.alloc (.cells arr T)) :=
  sim_push h hd _ _ fun _ _ hp hn hm _ hh => blk_cells_new hsz hc hp hn hm hh

/-- The renaming with cells of a new row immutable. -/
def Ren.addIm (ρ : Ren) (b n : Nat) : Ren := { ρ with im := fun b' j => ρ.im b' j ∨ (b' = b ∧ j < n) }

theorem sim_addIm {G : Nat → AV} {ρ : Ren} {S : St} {w : World} {D : Nat} (h : Sim G ρ S w) (arr : Array Value) (T : TypeId) (n : Nat) (hn : n ≤ arr.size) :
    Sim G (ρ.addIm w.heap.size n) S (w.alloc (.cells arr T)) ∧ Ext D ρ S w (ρ.addIm w.heap.size n) S (w.alloc (.cells arr T)) := by
  have hp : Pers ρ w (ρ.addIm w.heap.size n) (w.alloc (.cells arr T)) := by
    have hp0 := pers_alloc (ρ := ρ) (w := w) (.cells arr T) (fun b j hi => h.im_lt hi)
    exact ⟨fun b j hi => Or.inl hi, hp0.cell, hp0.zf, hp0.mb, hp0.sz⟩
  have hbn : S.blk S.length 0 = none := by simp [St.blk]
  have himo : ∀ b, b < w.heap.size → ∀ j, (ρ.addIm w.heap.size n).im b j ↔ ρ.im b j := fun b hb j => ⟨fun hi => hi.resolve_right fun e => by omega, Or.inl⟩
  refine ⟨h.update hp S.length 0 (fun _ _ _ => rfl) (fun _ _ _ => rfl) (fun _ _ _ _ => rfl) (fun b d' i' _ ho => ⟨heap_alloc_lt (h.own_size ho), himo b (h.own_size ho)⟩) (fun k' hk' => ?_) (fun b hb => h.dm _ _ _ hb) (fun b d' i' _ ho he => ?_) ?_ (fun b j hi => ?_), hp, rfl, rfl, rfl, by simp, rfl, fun _ _ _ => rfl, fun b hb _ => ⟨heap_alloc_lt hb, himo b hb⟩, fun b ho _ => ho, fun _ _ _ => rfl, fun _ => Nat.le_refl _⟩
  · rw [hbn] at hk'; cases hk'
  · unfold own at he; rw [hbn] at he; cases he
  · exact h.ow.same rfl (fun k b e m arr T hk hb => ⟨arr, T, by rw [heap_alloc_lt (h.ow_size hk)]; exact hb, Nat.le_refl _⟩) (fun k b e m hk j _ hi => (himo b (h.ow_size hk) j).1 hi) fun k b e m hk d' i' ho => ⟨d', i', ho⟩
  · rcases hi with hi | ⟨rfl, hj⟩
    · obtain ⟨h1, h2⟩ := h.im b j hi
      have hb := h.im_lt hi
      rw [cell_of_heap (heap_alloc_lt hb), frozen_of_heap (heap_alloc_lt hb)]
      exact ⟨h1, h2⟩
    · rw [cell_of_row (heap_alloc_new' w _), frozen_of_row (heap_alloc_new' w _)]
      simp
      omega

/-- The heap is as it was. -/
theorem sim_heap {G : Nat → AV} {ρ : Ren} {S : St} {w w' : World} (h : Sim G ρ S w) (hh : w'.heap = w.heap) : Sim G ρ S w' := by
  have hp : Pers ρ w ρ w' := ⟨fun _ _ h => h, fun b j _ => cell_of_heap (by rw [hh]), fun b j _ ⟨arr, T, z⟩ => ⟨arr, T, by rw [hh]; exact z⟩, fun _ _ _ h => h, rows_heap hh⟩
  have hbn : S.blk S.length 0 = none := by simp [St.blk]
  refine h.update hp S.length 0 (fun _ _ _ => rfl) (fun _ _ _ => rfl) (fun _ _ _ _ => rfl) (fun b d' i' _ ho => ⟨by rw [hh], fun _ => Iff.rfl⟩) (fun k' hk' => ?_) (fun b hb => h.dm _ _ _ hb) (fun b d' i' _ ho he => ?_) ?_ (fun b j hi => ?_)
  · rw [hbn] at hk'; cases hk'
  · unfold own at he; rw [hbn] at he; cases he
  · exact h.ow.same rfl (fun k b e m arr T _ hb => ⟨arr, T, by rw [hh]; exact hb, Nat.le_refl _⟩) (fun _ _ _ _ _ _ _ hi => hi) fun k b e m hk d' i' ho => ⟨d', i', ho⟩
  · rw [cell_of_heap (w := w) (by rw [hh]), frozen_of_heap (w := w) (by rw [hh])]; exact h.im b j hi

theorem pers_drew (ρ : Ren) (w : World) : Pers ρ w ρ w.drew := ⟨fun _ _ h => h, fun _ _ _ => rfl, fun _ _ _ h => h, fun _ _ _ h => h, rows_heap rfl⟩

theorem ext_drew (D : Nat) (ρ : Ren) (S : St) (w : World) : Ext D ρ S w ρ S w.drew := ⟨pers_drew ρ w, rfl, rfl, rfl, Nat.le_refl _, rfl, fun _ _ _ => rfl, fun _ _ _ => ⟨rfl, fun _ => Iff.rfl⟩, fun _ h _ => h, fun _ _ _ => rfl, fun _ => Nat.le_refl _⟩

end Go.Ab
