import Derived.Test.YtlpffainhdnaiaaGreatDoorAbOp2
/- Stores. -/
namespace Go.Ab
open Go
noncomputable section

section
variable {P : Program} {G : Nat → AV} {ρ ρ' : Ren} {S : St} {w w' : World} {m : Mc}

theorem Mc.upd_len (m : Mc) (d i : Nat) (k : Blk) : (m.upd d i k).base.length = m.base.length := by
  unfold Mc.upd
  split
  · rfl
  · exact St.length_upd ..

theorem TagOk.re {k k' : Cls} {v : Value} {a : AV} {t : Tag} (h : TagOk ρ v a t) (ht : t.of = some k) (hw : ρ'.ow k' = ρ.ow k) : TagOk ρ' v a (t.re k') := by
  cases t with
  | no => trivial
  | cls c =>
    injection ht with ht
    subst ht
    intro es o ha ad l c' hv
    rcases h es o ha ad l c' hv with h | ⟨h1, b, off, s, h2, h3, h4⟩
    · exact .inl h
    · exact .inr ⟨h1, b, off, s, h2, h3, hw.trans h4⟩
  | cap c s =>
    injection ht with ht
    subst ht
    intro es o ha ad l c' hv
    rcases h es o ha ad l c' hv with h | ⟨b, off, h2, h3, h4⟩
    · exact .inl h
    · exact .inr ⟨b, off, h2, h3, hw.trans h4⟩

theorem Tag.re_of {k k' : Cls} {t : Tag} (h : t.of = some k) : (t.re k').of = some k' := by cases t <;> first | rfl | cases h

theorem okCell_of {a : AV} (h : a.okVal = true) (hg : a.isAgg = false) : a.okCell = true := by
  cases a <;> first | exact h | cases hg

theorem cells_of {a : AV} (hg : a.isAgg = false) : a.cells = [a] := by
  cases a <;> first | rfl | cases hg

theorem vcells_of {v : Value} (h : v.oneCell' = true) : v.cells = #[v] := by
  cases v <;> first | rfl | cases h

theorem store_run {T : TypeId} {L : Lay} (hL : layOf P T = some L) {b off : Nat} {v : Value} (hsz : v.cells.size = L.size) (h1 : ∀ u ∈ v.cells.toList, u.oneCell' = true) {arr : Array Value} {T' : TypeId} (hh : w.heap[b]? = some (.cells arr T' (0, 0))) (hle : off + v.cells.toList.length ≤ arr.size) :
    (Instr.storeAt T (.pointer (some ⟨b, off, none⟩)) v).run P w = .ok () (World.setB w b (.cells (laid arr off v.cells.toList) T' (0, 0))) := by
  have hs := run_storeCells (P := P) off v.cells.toList w arr 0 hh (by simpa using hle) h1
  rw [Nat.add_zero] at hs
  simp [Instr.storeAt, Instr.sureAddr, storeVar, lay_size hL, hsz, hs]

theorem store_sound (hs : Sim G ρ m.st w) {tmps : Array Value} {e : Env} (he : EnvOk ρ w m.D tmps e) {T : TypeId} {x v : Value} {xa va : AV} {vt : Tag} (hx : Rep ρ w x xa) (hv : Rep ρ w v va)
    (ht : TagOk ρ v va vt) (htf : ∀ d q, vt.of = some (.reg d q) → d = m.D) {dr : Dr} {m' : Mc} (h : aStore P m T xa va vt = some (dr, m')) :
    ∃ w' ρ', (Instr.storeAt T x v).run P w = .ok () w' ∧ Sim G ρ' m'.st w' ∧ Ext m.D ρ m.st w ρ' m'.st w' ∧ EnvOk ρ' w' m.D tmps (e.dr dr) ∧ m'.base.length = m.base.length := by
  unfold aStore at h
  split at h
  case h_2 => cases h
  rename_i L d i off hL
  split at h
  case h_2 => cases h
  rename_i cs ts hb
  split at h
  case isFalse => cases h
  rename_i hc
  simp only [Bool.and_eq_true, Bool.or_eq_true, beq_iff_eq, decide_eq_true_eq] at hc
  obtain ⟨⟨⟨hok, hlen⟩, hle⟩, hhy⟩ := hc
  obtain ⟨b, hmb, rfl⟩ := hx.mp_inv
  have hS := (Mc.st_blk m d i).trans hb
  obtain ⟨c1, c2, c3⟩ := hv.cells_inv hok
  have hhyg : AV.rin (hyg d) va = true := by
    rcases hhy with e1 | e1
    · subst e1; exact hv.hyg hs
    · exact e1
  have hhygL : AV.rinL (hyg d) va.cells = true := by
    cases va <;> first | (simp only [AV.cells, AV.rinL, Bool.and_true]; exact hhyg) | (simpa [AV.cells, AV.rin] using hhyg)
  have h1m : ∀ u ∈ v.cells.toList, u.oneCell' = true := by
    intro u hu
    rw [Array.mem_toList_iff, Array.mem_iff_getElem?] at hu
    obtain ⟨j, hj⟩ := hu
    exact c2 j u hj
  have hll : v.cells.toList.length = va.cells.length := by simpa using c1
  -- the common part
  have main : ∀ (ts' : List (Nat × Tag)) (f : Cls → Option (Nat × Nat × Nat)), Moved ρ f → (∀ d' i' j, ¬ (d' = d ∧ i' = i) → f (.cel d' i' j) = ρ.ow (.cel d' i' j)) → (∀ d' r, d' < m.D → f (.reg d' r) = ρ.ow (.reg d' r)) →
      (∀ j, ¬ (off ≤ j ∧ j < off + va.cells.length) → tagAt ts' j = .no ∨ (tagAt ts' j = tagAt ts j ∧ f (.cel d i j) = ρ.ow (.cel d i j))) →
      (∀ (j : Nat) y u, v.cells.toList[j]? = some y → va.cells[j]? = some u → (∀ k, (tagAt ts' (off + j)).of = some k → k = .cel d i (off + j)) ∧ TagOk { ρ with ow := f } y u (tagAt ts' (off + j))) →
      ∃ w', (Instr.storeAt T (.pointer (some ⟨b, off, none⟩)) v).run P w = .ok () w' ∧ Sim G { ρ with ow := f } (m.upd d i (.cells (splice cs off va.cells) ts')).st w' ∧ Ext m.D ρ m.st w { ρ with ow := f } (m.upd d i (.cells (splice cs off va.cells) ts')).st w' := by
    intro ts' f hf hcel hreg hout hin
    obtain ⟨arr, T', a1, a2, a3, a4⟩ := sim_store (D := m.D) hs hS hmb off v.cells.toList va.cells hll (by omega) h1m hhygL (fun j y u hj hu => c3 j y u (by simpa using hj) hu) (splice cs off va.cells) ts' (splice_length ..)
      (fun j => splice_get cs off va.cells j (by omega)) hf hcel hreg hout hin
    refine ⟨_, store_run hL (by omega) h1m a1 (by omega), ?_, ?_⟩
    · rw [Mc.st_upd]; exact a3
    · rw [Mc.st_upd]; exact a4
  have same : ∀ ts', (∀ j, ¬ (off ≤ j ∧ j < off + va.cells.length) → tagAt ts' j = tagAt ts j) → (∀ j, off ≤ j → j < off + va.cells.length → tagAt ts' j = .no) →
      ∃ w' ρ', (Instr.storeAt T (.pointer (some ⟨b, off, none⟩)) v).run P w = .ok () w' ∧ Sim G ρ' (m.upd d i (.cells (splice cs off va.cells) ts')).st w' ∧ Ext m.D ρ m.st w ρ' (m.upd d i (.cells (splice cs off va.cells) ts')).st w' ∧ EnvOk ρ' w' m.D tmps e ∧ (m.upd d i (.cells (splice cs off va.cells) ts')).base.length = m.base.length := by
    intro ts' t1 t2
    obtain ⟨w', r1, r2, r3⟩ := main ts' ρ.ow (Moved.id ρ) (fun _ _ _ _ => rfl) (fun _ _ _ => rfl) (fun j hj => .inr ⟨t1 j hj, rfl⟩) (fun j y u _ hu => by
      have hlt := (List.getElem?_eq_some_iff.1 hu).1
      rw [t2 (off + j) (by omega) (by omega)]
      exact ⟨by simp [Tag.of], trivial⟩)
    exact ⟨w', _, r1, r2, r3, he.pers r3.pers (fun _ _ _ _ _ _ => rfl), Mc.upd_len ..⟩
  split at h
  · injection h with h
    injection h with e1 e2
    subst e1 e2
    exact same _ (fun j hj => by rw [tagAt_del, if_neg (by simp; omega)]) (fun j h1 h2 => by rw [tagAt_del, if_pos (by simp; omega)])
  · rename_i hag
    simp only [Bool.or_eq_true, not_or, Bool.not_eq_true] at hag
    obtain ⟨hag, hna⟩ := hag
    have hone : L.size = 1 := lay_one hL hag
    have hlen1 : va.cells.length = 1 := by omega
    have drop1 : ∃ w' ρ', (Instr.storeAt T (.pointer (some ⟨b, off, none⟩)) v).run P w = .ok () w' ∧ Sim G ρ' (m.upd d i (.cells (splice cs off va.cells) (tsSet ts off .no))).st w' ∧ Ext m.D ρ m.st w ρ' (m.upd d i (.cells (splice cs off va.cells) (tsSet ts off .no))).st w' ∧ EnvOk ρ' w' m.D tmps e ∧ (m.upd d i (.cells (splice cs off va.cells) (tsSet ts off .no))).base.length = m.base.length :=
      same _ (fun j hj => by rw [tagAt_set, if_neg (by omega)]) (fun j h1 h2 => by rw [tagAt_set, if_pos (by omega)])
    have cellv : ∀ (j : Nat) y u, v.cells.toList[j]? = some y → va.cells[j]? = some u → vt ≠ .no → j = 0 ∧ ∀ ρ1 t1, TagOk ρ1 v va t1 → TagOk ρ1 y u t1 := by
      intro j y u hj hu hvt
      have hj0 : j = 0 := by have := (List.getElem?_eq_some_iff.1 hu).1; omega
      subst hj0
      refine ⟨rfl, fun ρ1 t1 h1 => ?_⟩
      rw [cells_of hna] at hu
      injection hu with hu
      subst hu
      rw [vcells_of (hv.one (okCell_of hok hna))] at hj
      injection hj with hj
      subst hj
      exact h1
    split at h
    · rename_i r q hof
      injection h with h
      injection h with e1 e2
      subst e1 e2
      have hrD := htf r q hof
      have hvt : vt ≠ .no := by intro e0; rw [e0] at hof; cases hof
      obtain ⟨w', r1, r2, r3⟩ := main (tsSet ts off (vt.re (.cel d i off))) (mvOw ρ (.reg r q) (.cel d i off)) (Moved.mv ..)
        (fun d' i' j hne => by
          unfold mvOw
          rw [if_neg (by intro e0; injection e0 with e1 e2; exact hne ⟨e1, e2⟩), if_neg (by intro e0; cases e0)])
        (fun d' r' hd => by
          unfold mvOw
          rw [if_neg (by intro e0; cases e0), if_neg (by intro e0; injection e0 with e1 e2; omega)])
        (fun j hj => by
          rw [tagAt_set, if_neg (by omega)]
          refine .inr ⟨rfl, ?_⟩
          unfold mvOw
          rw [if_neg (by intro e0; injection e0 with e1 e2 e3; omega), if_neg (by intro e0; cases e0)])
        (fun j y u hj hu => by
          obtain ⟨rfl, hT⟩ := cellv j y u hj hu hvt
          rw [Nat.add_zero, tagAt_set, if_pos rfl]
          refine ⟨fun k hk => ?_, hT _ _ (ht.re hof ?_)⟩
          · rw [Tag.re_of hof] at hk
            injection hk with hk
            exact hk.symm
          · show mvOw ρ _ _ _ = _
            unfold mvOw
            rw [if_pos rfl])
      refine ⟨w', _, r1, r2, r3, he.drop2 (.reg r q) (.cel d i off) r3.pers (fun c hc1 hc2 => ?_), Mc.upd_len ..⟩
      show mvOw ρ _ _ _ = _
      unfold mvOw
      rw [if_neg hc2, if_neg hc1]
    · rename_i d' i' off' hof
      split at h
      · rename_i heq
        obtain ⟨rfl, rfl, rfl⟩ := heq
        injection h with h
        injection h with e1 e2
        subst e1 e2
        have hvt : vt ≠ .no := by intro e0; rw [e0] at hof; cases hof
        obtain ⟨w', r1, r2, r3⟩ := main (tsSet ts off' vt) ρ.ow (Moved.id ρ) (fun _ _ _ _ => rfl) (fun _ _ _ => rfl)
          (fun j hj => by rw [tagAt_set, if_neg (by omega)]; exact .inr ⟨rfl, rfl⟩)
          (fun j y u hj hu => by
            obtain ⟨rfl, hT⟩ := cellv j y u hj hu hvt
            rw [Nat.add_zero, tagAt_set, if_pos rfl]
            exact ⟨fun k hk => by rw [hof] at hk; injection hk with hk; exact hk.symm, hT _ _ (ht.pers fun _ _ => rfl)⟩)
        exact ⟨w', _, r1, r2, r3, he.pers r3.pers (fun _ _ _ _ _ _ => rfl), Mc.upd_len ..⟩
      · injection h with h
        injection h with e1 e2
        subst e1 e2
        exact drop1
    · injection h with h
      injection h with e1 e2
      subst e1 e2
      exact drop1

end
end
end Go.Ab
