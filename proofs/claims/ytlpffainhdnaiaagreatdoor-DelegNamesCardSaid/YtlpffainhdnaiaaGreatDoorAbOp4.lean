import Derived.Test.YtlpffainhdnaiaaGreatDoorAbOp3
/- Literals' slices, maps, iterators, bytes. -/
namespace Go.Ab
open Go
noncomputable section

section
variable {P : Program} {G : Nat → AV} {ρ ρ' : Ren} {S : St} {w w' : World} {m : Mc}

theorem flatten_get (n : Nat) (l : List AV) (j : Nat) (c : AV) (h : (reps n l)[j]? = some c) : l[j % l.length]? = some c ∧ j < n * l.length := by
  induction n generalizing j with
  | zero => simp [reps] at h
  | succ n ih =>
    have e : reps (n + 1) l = l ++ reps n l := by simp [reps, List.replicate_succ]
    rw [e] at h
    rcases Nat.lt_or_ge j l.length with hl | hl
    · rw [List.getElem?_append_left hl] at h
      rw [Nat.mod_eq_of_lt hl, Nat.add_mul]
      exact ⟨h, by omega⟩
    · rw [List.getElem?_append_right hl] at h
      obtain ⟨h1, h2⟩ := ih _ h
      rw [← Nat.mod_eq_sub_mod hl] at h1
      rw [Nat.add_mul]
      exact ⟨h1, by omega⟩

theorem reps_length (n : Nat) (l : List AV) : (reps n l).length = n * l.length := by
  induction n with
  | zero => simp [reps]
  | succ n ih =>
    have e : reps (n + 1) l = l ++ reps n l := by simp [reps, List.replicate_succ]
    rw [e, List.length_append, ih, Nat.add_mul]
    omega

/-- Zero cells in rows. -/
theorem cells_reps {zero : Array Value} {zs : List AV} (h : Cells ρ w zero zs) (n : Nat) : Cells ρ w ((Array.range (n * zero.size)).map (zero[· % zero.size]!)) (reps n zs) := by
  obtain ⟨h1, h2, h3⟩ := h
  have hg : ∀ (j : Nat) v, ((Array.range (n * zero.size)).map (zero[· % zero.size]!))[j]? = some v → zero[j % zero.size]? = some v := by
    intro j v hj
    rw [Array.getElem?_map] at hj
    cases hr : (Array.range (n * zero.size))[j]? with
    | none => simp [hr] at hj
    | some q =>
      obtain ⟨hq1, hq2⟩ := Array.getElem?_eq_some_iff.1 hr
      simp at hq1 hq2
      subst hq2
      simp only [hr, Option.map_some, Option.some.injEq] at hj
      have hpos : 0 < zero.size := by
        rcases Nat.eq_zero_or_pos zero.size with h0 | h0
        · rw [h0] at hq1; simp at hq1
        · exact h0
      have hlt := Nat.mod_lt j hpos
      rw [Array.getElem?_eq_getElem hlt]
      rw [getElem!_pos zero (j % zero.size) hlt] at hj
      rw [hj]
  refine ⟨by simp [reps_length, h1], fun j v hj => h2 _ v (hg j v hj), fun j v c hj hc => ?_⟩
  obtain ⟨q1, q2⟩ := flatten_get n zs j c hc
  rw [← h1] at q1
  exact h3 _ v c (hg j v hj) q1

theorem buildSlice_sound (hs : Sim G ρ m.st w) {t : TypeId} {ρo : Operand → Value} {av : Operand → AV} (hR : ∀ x, Rep ρ w (ρo x) (av x)) {len : Nat} {parts : Array (Nat × Operand)} {v : AV} (h : aBuildSlice P t len (parts.toList.map fun p => (p.1, av p.2)) = some v) :
    Step P G m.D ρ m.st w (Instr.buildSlice t len (parts.map fun (i, x) => (i, ρo x))) v m.st := by
  unfold aBuildSlice at h
  split at h
  case h_2 => cases h
  rename_i L hel
  obtain ⟨e, hu, hL⟩ := eltOf_slice hel
  split at h
  · cases h
  · rename_i hbig
    split at h
    case h_2 => cases h
    rename_i cs' hf
    split at h
    case isFalse => cases h
    rename_i hnr
    injection h with h
    subst h
    obtain ⟨z, h1, h2, h3, h4⟩ := lay_zero (w := w) hL
    have hz : Cells ρ w z.cells L.zero := by rw [h4]; exact cells_av1 h3
    have hrow : ∃ zero : Array Value, zero = (if len * L.size = 0 then #[] else z.cells) ∧ Cells ρ w ((Array.range (len * L.size)).map (zero[· % zero.size]!)) (reps len L.zero) := by
      by_cases h0 : len * L.size = 0
      · refine ⟨#[], by rw [if_pos h0], ?_⟩
        rw [h0]
        have e0 : reps len L.zero = [] := by
          apply List.eq_nil_of_length_eq_zero
          rw [reps_length, lay_zlen hL, h0]
        rw [e0]
        exact ⟨by simp, by simp, by simp⟩
      · refine ⟨z.cells, by rw [if_neg h0], ?_⟩
        rw [← h2]
        exact cells_reps hz len
    obtain ⟨zero, r1, r2⟩ := hrow
    have hparts : (parts.map fun (i, x) => (i, ρo x)).toList = parts.toList.map fun p => (p.1, ρo p.2) := by simp
    obtain ⟨A', f1, f2⟩ := fill_run (fun i => rfl) hR parts.toList _ _ cs' r2 hf
    obtain ⟨a1, a2, a3⟩ := f2
    have hcl : cs'.length = len * L.size := by
      have : ∀ (l : List (Nat × AV)) (cs cs' : List AV), aFill (fun i => some (i * L.size, L.size)) cs l = some cs' → cs'.length = cs.length := by
        intro l
        induction l with
        | nil => intro cs cs' h; simp [aFill] at h; rw [h]
        | cons p l ih =>
          intro cs cs' h
          simp only [aFill] at h
          split at h
          · rw [ih _ _ h, splice_length]
          · cases h
      rw [this _ _ _ hf, reps_length, lay_zlen hL]
    obtain ⟨s1, s2⟩ := sim_addIm (D := m.D) hs A' e A'.size (Nat.le_refl _)
    refine ⟨.slice (some ⟨w.heap.size, 0, none⟩) len len, _, _, ?_, ?_, s1, s2, rfl⟩
    · have hbig' : ¬ (len * L.size > 2 ^ 24) := by omega
      have hfill : Instr.fill (fun i => some (i * L.size, L.size)) ((Array.range (len * L.size)).map (zero[· % zero.size]!)) (parts.toList.map fun p => (p.1, ρo p.2)) = some A' := f1
      unfold Instr.buildSlice
      simp only [Sem.run_bind, run_underlying hu, Result.andThen_ok, lay_size hL, hbig', if_false]
      by_cases h0 : len * L.size = 0
      · rw [if_pos h0] at r1
        subst r1
        rw [if_pos h0]
        simp only [Sem.run_bind, Sem.run_pure, Result.andThen_ok, hparts, hfill, newRow]
        simp
      · rw [if_neg h0] at r1
        subst r1
        rw [if_neg h0]
        simp only [Sem.run_bind, Sem.run_pure, Result.andThen_ok, h1, hparts, hfill, newRow]
        simp
    · have hn : ∀ {j : Nat} {c : AV}, cs'[j]? = some c → c.nref = true := fun hj => AV.rinL_get hnr hj
      have key := sl_of_row (ρ := ρ.addIm w.heap.size A'.size) (w := w.alloc (.cells A' e)) (b := w.heap.size) (off := 0) (s := L.size) (cap := len) (es := chunks L.size len (cs'.map AV.setl)) (o := .full)
        (by rw [chunks_length]; exact Nat.le_refl _) (fun _ => by rw [chunks_length]) (fun x hx => by
          obtain ⟨i, hi⟩ := List.mem_iff_getElem?.1 hx
          obtain ⟨q1, rfl⟩ := chunks_get _ _ _ _ _ hi
          have : (i + 1) * L.size ≤ len * L.size := Nat.mul_le_mul_right _ q1
          rw [Nat.add_mul] at this
          simp [hcl]
          omega) ⟨A', e, heap_alloc_new' w _⟩ (fun i x j c hi hj => by
          obtain ⟨q1, rfl⟩ := chunks_get _ _ _ _ _ hi
          rw [List.getElem?_take] at hj
          split at hj
          case isFalse => cases hj
          rename_i hjs
          rw [List.getElem?_drop, List.getElem?_map] at hj
          cases hcc : cs'[i * L.size + j]? with
          | none => simp [hcc] at hj
          | some c0 =>
            simp [hcc] at hj
            subst hj
            have hlt : i * L.size + j < A'.size := by rw [a1]; exact (List.getElem?_eq_some_iff.1 hcc).1
            have hv := Array.getElem?_eq_getElem hlt
            refine ⟨.inr ⟨rfl, by omega⟩, A'[i * L.size + j], ?_, setl_nref (hn hcc), a2 _ _ hv, (setl_rep (a3 _ _ _ hv hcc)).pers s2.pers⟩
            rw [cell_of_row (heap_alloc_new' w _), Nat.zero_add]
            exact hv)
      rw [chunks_length] at key
      exact key

theorem makeMap_sound (hs : Sim G ρ m.st w) {t : TypeId} : Step P G m.D ρ m.st w (Instr.makeMap t none) (.map m.D m.fr.length) (m.push (.map [])).st := by
  have hd : m.D < m.st.length := by rw [Mc.st_length]; exact Nat.lt_succ_self _
  obtain ⟨h1, h2⟩ := sim_push (d := m.D) (D := m.D) hs hd (.map []) (.map #[] 0) (fun ρ' w' _ hn hm _ hh b hb => by
    rw [hm] at hb
    injection hb with hb
    subst hb
    exact ⟨hn, #[], 0, hh, rfl, by simp⟩)
  rw [← Mc.st_push, Mc.st_len] at h1 h2
  exact ⟨_, _, _, by simp [Instr.makeMap], .map (Ren.add_same ..), h1, h2, rfl⟩

theorem range_sound (hs : Sim G ρ m.st w) {t : TypeId} {x : Value} {a v : AV} (hx : Rep ρ w x a) {m' : Mc} (h : aRange P m t a = some (v, m')) : Step P G m.D ρ m.st w (Instr.range t x) v m'.st := by
  unfold aRange at h
  split at h
  · rename_i s hu
    injection h with h
    injection h with e1 e2
    subst e1 e2
    have e := hx.str_inv
    subst e
    have hd : m.D < m.st.length := by rw [Mc.st_length]; exact Nat.lt_succ_self _
    obtain ⟨h1, h2⟩ := sim_push (d := m.D) (D := m.D) hs hd (.iter s 0) (.stringIter ⟨s.toArray⟩ 0) (fun ρ' w' _ hn hm _ hh b hb => by
      rw [hm] at hb
      injection hb with hb
      subst hb
      exact ⟨hn, hh⟩)
    rw [← Mc.st_push, Mc.st_len] at h1 h2
    exact ⟨_, _, _, by simp [Instr.range, run_underlying hu], .itr (Ren.add_same ..), h1, h2, rfl⟩
  · cases h

theorem run_getIter {b : Nat} {s : ByteArray} {p : Nat} (h : w.heap[b]? = some (.stringIter s p)) : (getObj b).run P w = .ok (.stringIter s p) w := by simp [getObj, Sem.run, h]
theorem run_setIter {b : Nat} {s : ByteArray} {p : Nat} {o' : Obj} (h : w.heap[b]? = some (.stringIter s p)) : (setObj b o').run P w = .ok () (World.setB w b o') := by
  simp [setObj, Sem.run, h, World.setB]

theorem next_sound (hs : Sim G ρ m.st w) {ty : TypeId} {x : Value} {a v : AV} (hx : Rep ρ w x a) {m' : Mc} (h : aNext m a = some (v, m')) : Step P G m.D ρ m.st w (Instr.next x true ty) v m'.st := by
  unfold aNext at h
  split at h
  · rename_i d i
    split at h
    · rename_i s p hb
      obtain ⟨b, hmb, rfl⟩ := hx.itr_inv
      have hS := (Mc.st_blk m d i).trans hb
      obtain ⟨hni, hh⟩ := hs.ok d i _ hS b hmb
      split at h
      · rename_i hlt
        injection h with h
        injection h with e1 e2
        subst e1 e2
        obtain ⟨h1, h2⟩ := sim_upd (D := m.D) hs hS (by simp) hmb (.iter s (p + (Utf8.decode ⟨s.toArray⟩ p).2)) (.stringIter ⟨s.toArray⟩ (p + (Utf8.decode ⟨s.toArray⟩ p).2)) (fun arr T fz hr => by rw [hh] at hr; injection hr with hr; cases hr) (Moved.id ρ) (fun _ _ _ _ => rfl) (fun _ _ _ => rfl) (fun w' _ hw' b' hb' => by
          simp only [hmb] at hb'
          injection hb' with hb'
          subst hb'
          exact ⟨hni, hw'⟩)
        rw [← Mc.st_upd] at h1 h2
        refine ⟨.tuple #[.bool true, goInt p, .int .i32 (Utf8.decode ⟨s.toArray⟩ p).1], _, _, ?_, ?_, h1, h2, rfl⟩
        · simp only [Instr.next, Sem.run_bind, run_getIter hh, Result.andThen_ok, size_mk, hlt, if_true, run_setIter hh, Sem.run_pure]
        · refine .tup _ _ rfl fun j v c hj hc => ?_
          match j, hj, hc with
          | 0, hj, hc => simp at hj hc; subst hj hc; exact .bool _
          | 1, hj, hc => simp at hj hc; subst hj hc; exact .int _ _
          | 2, hj, hc => simp at hj hc; subst hj hc; exact .int _ _
          | j + 3, hj, hc => simp at hj
      · rename_i hlt
        injection h with h
        injection h with e1 e2
        subst e1 e2
        refine ⟨.tuple #[.bool false], w, ρ, ?_, ?_, hs, Ext.refl .., rfl⟩
        · simp only [Instr.next, Sem.run_bind, run_getIter hh, Result.andThen_ok, size_mk, hlt, if_false, Sem.run_pure]
        · refine .tup _ _ rfl fun j v c hj hc => ?_
          match j, hj, hc with
          | 0, hj, hc => simp at hj hc; subst hj hc; exact .bool _
          | j + 1, hj, hc => simp at hj
    · cases h
  · cases h

end
end
end Go.Ab
