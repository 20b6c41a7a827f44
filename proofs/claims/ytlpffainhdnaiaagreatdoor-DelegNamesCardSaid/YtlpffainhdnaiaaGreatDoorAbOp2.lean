import Derived.Test.YtlpffainhdnaiaaGreatDoorAbOp1
/- Literals' slices, new variables, loads and stores. -/
namespace Go.Ab
open Go
noncomputable section

section
variable {P : Program} {G : Nat → AV} {ρ ρ' : Ren} {S : St} {w w' : World} {m : Mc}

theorem rep_mp_new {d i b : Nat} {ρ : Ren} {w : World} : Rep (ρ.add d i b) w (.pointer (some ⟨b, 0, none⟩)) (.mp d i 0) := .mp 0 (Ren.add_same ρ d i b)

theorem cells_hyg (hs : Sim G ρ m.st w) {A : Array Value} {cs : List AV} (h : Cells ρ w A cs) :
    ∀ (j : Nat) c, cs[j]? = some c → AV.rin (hyg m.D) c = true ∧ ∃ v, A[j]? = some v ∧ v.oneCell' = true ∧ Rep ρ w v c := by
  intro j c hj
  have hlt : j < A.size := by rw [h.1]; exact (List.getElem?_eq_some_iff.1 hj).1
  have hr := h.2.2 j A[j] c (Array.getElem?_eq_getElem hlt) hj
  exact ⟨hr.hyg hs, A[j], Array.getElem?_eq_getElem hlt, h.2.1 j _ (Array.getElem?_eq_getElem hlt), hr⟩

theorem new_cells (hs : Sim G ρ m.st w) {A : Array Value} {cs : List AV} (h : Cells ρ w A cs) (T : TypeId) :
    ∃ ρ', Rep ρ' (w.alloc (.cells A T)) (.pointer (some ⟨w.heap.size, 0, none⟩)) (.mp m.D m.fr.length 0) ∧ Sim G ρ' (m.push (.cells cs [])).st (w.alloc (.cells A T)) ∧
      Ext m.D ρ m.st w ρ' (m.push (.cells cs [])).st (w.alloc (.cells A T)) ∧ ρ'.ow = ρ.ow := by
  have hd : m.D < m.st.length := by rw [Mc.st_length]; exact Nat.lt_succ_self _
  obtain ⟨h1, h2⟩ := sim_alloc (d := m.D) (D := m.D) hs hd cs A T (by rw [h.1]; exact Nat.le_refl _) (cells_hyg hs h)
  rw [← Mc.st_push, Mc.st_len] at h1 h2
  exact ⟨_, rep_mp_new, h1, h2, rfl⟩

theorem alloc_sound (hs : Sim G ρ m.st w) {T : TypeId} {v : AV} {m' : Mc} (h : aAlloc P m T = some (v, m')) : Step P G m.D ρ m.st w (Instr.alloc T true (.tuple #[])) v m'.st := by
  unfold aAlloc at h
  split at h
  · rename_i L hL
    injection h with h
    injection h with e1 e2
    subst e1 e2
    obtain ⟨z, h1, h2, h3, h4⟩ := lay_zero (w := w) hL
    obtain ⟨ρ', r1, r2, r3, r4⟩ := new_cells hs (cells_av1 (ρ := ρ) (w := w) h3) T
    rw [← h4] at r2 r3
    refine ⟨_, _, ρ', ?_, r1, r2, r3, r4⟩
    simp [Instr.alloc, newVar, newRow, h1]
  · cases h

theorem box_sound (hs : Sim G ρ m.st w) {T : TypeId} {x : Value} {a v : AV} (hx : Rep ρ w x a) {m' : Mc} (h : aBox m a = some (v, m')) : Step P G m.D ρ m.st w (Instr.box T x) v m'.st := by
  unfold aBox at h
  split at h
  · rename_i hok
    injection h with h
    injection h with e1 e2
    subst e1 e2
    obtain ⟨c1, c2, c3⟩ := hx.cells_inv hok
    obtain ⟨ρ', r1, r2, r3, r4⟩ := new_cells hs (A := x.cells) (cs := a.cells) ⟨c1, c2, c3⟩ T
    refine ⟨_, _, ρ', ?_, r1, r2, r3, r4⟩
    simp [Instr.box, newVar, newRow]
  · cases h

theorem TagOk.here {v : Value} {a : AV} {d i off : Nat} {t : Tag} (h : TagOk ρ v a t) : TagOk ρ v a (Tag.here d i off t) := by
  unfold Tag.here
  split
  · exact h
  · trivial

theorem Tag.here_of {d i off : Nat} {t : Tag} {k : Cls} (h : (Tag.here d i off t).of = some k) : k = .cel d i off := by
  unfold Tag.here at h
  split at h
  · rename_i hh
    rw [hh] at h
    injection h with h
    exact h.symm
  · cases h

theorem load_sound (hs : Sim G ρ m.st w) {T : TypeId} {x : Value} {a : AV} (hx : Rep ρ w x a) {t : Tag} {v : AV} (h : aLoad P m T a = some (t, v)) :
    ∃ y, (Instr.loadAt T x).run P w = .ok y w ∧ Rep ρ w y v ∧ TagOk ρ y v t ∧ ∀ d q, t.of = some (.reg d q) → d = m.D := by
  unfold aLoad at h
  split at h
  · rename_i L d i off hL
    split at h
    · rename_i cs ts hb
      split at h
      · rename_i hle
        obtain ⟨b, hmb, rfl⟩ := hx.mp_inv
        have hok := hs.ok d i _ ((Mc.st_blk m d i).trans hb)
        obtain ⟨_, arr, T', hh, hsz, hc⟩ := hok b hmb
        have hcell : ∀ j, j < L.size → w.cell? ⟨b, off + j, none⟩ = some (arr.getD (off + j) .nilFunc) := by
          intro j hj
          rw [cell_of_row hh]
          simp [Array.getD_eq_getD_getElem?, Array.getElem?_eq_getElem (show off + j < arr.size by omega)]
        split at h
        · rename_i hag
          injection h with h
          injection h with e1 e2
          subst e1 e2
          refine ⟨.agg ((List.range L.size).map fun j => arr.getD (off + j) .nilFunc).toArray, ?_, ?_, trivial, by simp [Tag.of]⟩
          · simp [Instr.loadAt, Instr.sureAddr, loadVar, lay_agg hL, hag, lay_size hL, run_loadCells _ _ hcell]
          · have hrd : ∀ (j : Nat) v, (((List.range L.size).map fun j => arr.getD (off + j) .nilFunc).toArray)[j]? = some v → j < L.size ∧ arr[off + j]? = some v := by
              intro j v hj
              simp only [List.getElem?_toArray, List.getElem?_map] at hj
              cases hr : (List.range L.size)[j]? with
              | none => simp [hr] at hj
              | some q =>
                have hq := List.getElem?_eq_some_iff.1 hr
                obtain ⟨hq1, hq2⟩ := hq
                simp at hq1 hq2
                subst hq2
                simp [hr, Array.getD_eq_getD_getElem?, Array.getElem?_eq_getElem (show off + j < arr.size by omega)] at hj
                exact ⟨hq1, by rw [Array.getElem?_eq_getElem (show off + j < arr.size by omega), hj]⟩
            have hcs : ∀ (j : Nat) c, ((cs.drop off).take L.size)[j]? = some c → cs[off + j]? = some c := by
              intro j c hj
              rw [List.getElem?_take] at hj
              split at hj
              · rwa [List.getElem?_drop] at hj
              · cases hj
            refine .agg _ _ (by simp; omega) (fun j v hj => ?_) fun j v c hj hcj => ?_
            · obtain ⟨q1, q2⟩ := hrd j v hj
              obtain ⟨c, hc'⟩ : ∃ c, cs[off + j]? = some c := ⟨_, List.getElem?_eq_getElem (by omega)⟩
              obtain ⟨_, _, u, u1, u2, _⟩ := hc (off + j) c hc'
              rw [q2] at u1
              injection u1 with u1
              exact u1 ▸ u2
            · obtain ⟨q1, q2⟩ := hrd j v hj
              obtain ⟨_, _, u, u1, _, u3, _⟩ := hc (off + j) c (hcs j c hcj)
              rw [q2] at u1
              injection u1 with u1
              exact u1 ▸ u3
        · rename_i hag
          have h1 := lay_one hL (by simpa using hag)
          cases hcc : cs[off]? with
          | none => simp [hcc] at h
          | some c =>
            simp [hcc] at h
            obtain ⟨rfl, rfl⟩ := h
            obtain ⟨_, q0, u, u1, u2, u3, u4⟩ := hc off c hcc
            refine ⟨u, ?_, u3, u4.here, fun d' q hq => by have := Tag.here_of hq; cases this⟩
            have hcl : w.cell? ⟨b, off, none⟩ = some u := (cell_of_row hh off).trans u1
            simp [Instr.loadAt, Instr.sureAddr, loadVar, lay_agg hL, hag, hcl]
      · cases h
    · cases h
  · rename_i L cs o hL
    split at h
    · rename_i hle
      cases hv : mkVal L.agg (cs.take L.size) with
      | none => simp [hv] at h
      | some c =>
        simp [hv] at h
        obtain ⟨rfl, rfl⟩ := h
        obtain ⟨b, off, f, rfl, h1, h2⟩ := hx.ip_inv
        have hcell : ∀ j, j < L.size → w.cell? ⟨b, off + j, none⟩ = some (f j) := fun j hj => (h1 j _ (List.getElem?_eq_getElem (show j < cs.length by omega))).2.1
        unfold mkVal at hv
        split at hv
        · rename_i hag
          injection hv with hv
          subst hv
          refine ⟨.agg ((List.range L.size).map f).toArray, ?_, ?_, trivial, by simp [Tag.of]⟩
          · simp [Instr.loadAt, Instr.sureAddr, loadVar, lay_agg hL, hag, lay_size hL, run_loadCells _ _ hcell]
          · have hrd : ∀ (j : Nat) v, (((List.range L.size).map f).toArray)[j]? = some v → j < L.size ∧ v = f j := by
              intro j v hj
              simp only [List.getElem?_toArray, List.getElem?_map] at hj
              cases hr : (List.range L.size)[j]? with
              | none => simp [hr] at hj
              | some q =>
                obtain ⟨hq1, hq2⟩ := List.getElem?_eq_some_iff.1 hr
                simp at hq1 hq2
                subst hq2
                simp [hr] at hj
                exact ⟨hq1, hj.symm⟩
            refine .agg _ _ (by simp; omega) (fun j v hj => ?_) fun j v c hj hcj => ?_
            · obtain ⟨q1, rfl⟩ := hrd j v hj
              exact (h1 j _ (List.getElem?_eq_getElem (show j < cs.length by omega))).2.2.2.1
            · obtain ⟨q1, rfl⟩ := hrd j v hj
              rw [List.getElem?_take, if_pos q1] at hcj
              exact h2 j c hcj
        · rename_i hag
          have hs1 := lay_one hL (by simpa using hag)
          rw [hs1] at hv
          have hv' : cs[0]? = some c := by simpa [List.getElem?_take] using hv
          have hcl := (h1 0 c hv').2.1
          refine ⟨f 0, ?_, h2 0 c hv', trivial, by simp [Tag.of]⟩
          rw [Nat.add_zero] at hcl
          simp [Instr.loadAt, Instr.sureAddr, loadVar, lay_agg hL, hag, hcl]
    · cases h
  · cases h

end
end
end Go.Ab
