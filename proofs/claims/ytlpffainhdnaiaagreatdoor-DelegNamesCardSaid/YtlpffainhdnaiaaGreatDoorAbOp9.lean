import Derived.Test.YtlpffainhdnaiaaGreatDoorAbOp8
/- Made slices, bytes, copies; and all operations that are no calls. -/
namespace Go.Ab
open Go
noncomputable section

section
variable {P : Program} {G : Nat → AV} {ρ ρ' : Ren} {S : St} {w w' : World} {m : Mc}

theorem convMs_sound (hs : Sim G ρ m.st w) {s d : TypeId} {x : Value} {a v : AV} (hx : Rep ρ w x a) (h : aConvMs P m s d a = some v) : ∃ y, (convert s d x).run P w = .ok y w ∧ Rep ρ w y v := by
  unfold aConvMs at h
  split at h
  case h_2 => cases h
  rename_i e dd i off len c h1 h2
  split at h
  case h_2 => cases h
  rename_i cs ts hu hb
  split at h
  case isFalse => cases h
  rename_i hle
  obtain ⟨bs, hbb, rfl⟩ := Option.map_eq_some_iff.1 h
  · obtain ⟨b, kc, hmb, rfl, _⟩ := hx.ms_inv
    obtain ⟨_, arr, T', hh, hsz, hc⟩ := hs.ok dd i _ ((Mc.st_blk m dd i).trans hb) b hmb
    obtain ⟨ns, n1, rfl⟩ := bytesOf_get _ bs hbb
    have hlen : ns.length = len := by
      have := congrArg List.length n1
      simp at this
      omega
    refine ⟨_, ?_, .str _⟩
    have hl : (loadCells ⟨b, off, none⟩ len).run P w = .ok (ns.map (Value.int .u8)).toArray w := by
      have hcell : ∀ j, j < len → w.cell? ⟨b, off + j, none⟩ = some (.int .u8 (ns.getD j 0)) := by
        intro j hj
        have hcc : cs[off + j]? = some (.int .u8 (ns.getD j 0)) := by
          have h3 := congrArg (fun l => l[j]?) n1
          simp [hj, List.getElem?_drop, List.getElem?_eq_getElem (show off + j < cs.length by omega), List.getElem?_eq_getElem (show j < ns.length by omega)] at h3
          simp [List.getElem?_eq_getElem (show off + j < cs.length by omega), List.getElem?_eq_getElem (show j < ns.length by omega), h3]
        obtain ⟨_, _, u, u1, _, u3, _⟩ := hc (off + j) _ hcc
        have := u3.int_inv
        subst this
        rw [cell_of_row hh]
        exact u1
      rw [run_loadCells _ _ hcell]
      congr 2
      apply List.ext_getElem
      · simp [hlen]
      · intro j q1 q2; simp at q1 q2; simp [q2]
    have hr : (convert s d (.slice (some ⟨b, off, none⟩) len kc)).run P w = (Conv.bytesToString (.slice (some ⟨b, off, none⟩) len kc)).run P w := by
      simp [convert, run_underlying h1, run_underlying h2, run_underlying hu]
    rw [hr, run_bytesToString w _ len kc ns hl]
    have := foldl_push ns []
    simp only [List.nil_append] at this
    rw [← this]
    simp [ByteArray.empty, ByteArray.emptyWithCapacity]; try rfl

theorem bytesCells_get {s : List UInt8} {j : Nat} {u : AV} (h : (bytesCells s)[j]? = some u) : ∃ b, s[j]? = some b ∧ u = .int .u8 b.toNat := by
  unfold bytesCells at h
  rw [List.getElem?_map] at h
  cases hb : s[j]? with
  | none => simp [hb] at h
  | some b => simp [hb] at h; exact ⟨b, rfl, h.symm⟩

theorem copy_sound (hs : Sim G ρ m.st w) {T U ty : TypeId} {x y : Value} {xa ya v : AV} (hx : Rep ρ w x xa) (hy : Rep ρ w y ya) {m' : Mc} (h : aCopy P m T xa ya = some (v, m')) : Step P G m.D ρ m.st w (Builtin.copy_ #[T, U] ty #[x, y]) v m'.st ∧ m'.base.length = m.base.length := by
  unfold aCopy at h
  split at h
  case h_2 => cases h
  rename_i L d i off len c s hel
  obtain ⟨el, hu, hL⟩ := eltOf_slice hel
  split at h
  case h_2 => cases h
  rename_i cs hb
  split at h
  case isFalse => cases h
  rename_i hc
  obtain ⟨hs1, hle⟩ := hc
  injection h with h
  injection h with e1 e2
  subst e1 e2
  have e3 := hy.str_inv
  subst e3
  obtain ⟨b, _, hmb, rfl, _⟩ := hx.ms_inv
  have hS := (Mc.st_blk m d i).trans hb
  let vs : List Value := (s.take len).map fun b => Value.int .u8 b.toNat
  have hvs : vs.length = ((bytesCells s).take len).length := by simp [vs, bytesCells]
  have hul : ((bytesCells s).take len).length = min len s.length := by simp [bytesCells]
  obtain ⟨arr, T', a1, a2, a3, a4⟩ := sim_store (D := m.D) hs hS hmb off vs ((bytesCells s).take len) hvs (by rw [hul]; omega) (fun v hv => by
      simp only [vs, List.mem_map] at hv
      obtain ⟨q, _, rfl⟩ := hv
      rfl) (AV.rinL_of fun j c hj => by
      rw [List.getElem?_take] at hj
      split at hj
      · obtain ⟨q, _, rfl⟩ := bytesCells_get hj; rfl
      · cases hj) (fun j v u hv hu => by
      rw [List.getElem?_take] at hu
      split at hu
      · rename_i hjl
        obtain ⟨q, hq, rfl⟩ := bytesCells_get hu
        simp only [vs, List.getElem?_map, List.getElem?_take, hjl, if_true, hq, Option.map_some, Option.some.injEq] at hv
        subst hv
        exact .int _ _
      · cases hu) (splice cs off ((bytesCells s).take len)) [] (splice_length ..) (fun j => splice_get cs off _ j (by rw [hul]; omega)) (Moved.id ρ) (fun _ _ _ _ => rfl) (fun _ _ _ => rfl) (fun j _ => .inl (by simp [tagAt])) (fun j v u _ _ => ⟨by simp [tagAt, Tag.of], by simp [tagAt, TagOk]⟩)
  rw [← Mc.st_upd] at a3 a4
  refine ⟨⟨goInt ((min s.length len : Nat) : Int), _, _, ?_, .int _ _, a3, a4, rfl⟩, Mc.upd_len ..⟩
  have hstore := run_storeCells (P := P) off vs w arr 0 a1 (by simpa using a2) (fun v hv => by
      simp only [vs, List.mem_map] at hv
      obtain ⟨q, _, rfl⟩ := hv
      rfl)
  rw [Nat.add_zero] at hstore
  have hcells : (Builtin.firstCells L.size (Nat.min s.length len) (.string ⟨s.toArray⟩)).run P w = .ok vs.toArray w := by
    have : ((ByteArray.mk s.toArray).extract 0 (Nat.min s.length len)) = ByteArray.mk (s.take len).toArray := by
      rw [extract_mk]
      simp
      exact Nat.min_comm _ _
    simp [Builtin.firstCells, this, vs]
  have hst : (storeCells ⟨b, off, none⟩ vs).run P w = .ok () (World.setB w b (.cells (laid arr off vs) T' (0, 0))) := hstore
  have hcells' : (Builtin.firstCells L.size (min s.length len) (.string ⟨s.toArray⟩)).run P w = .ok vs.toArray w := hcells
  simp [Builtin.copy_, run_underlying hu, lay_size hL, Builtin.lenOf, size_mk, hcells, hst]; try rfl

theorem make_row {T el : TypeId} {L : Lay} {k1 k2 : IntKind} {n cc : Nat} (hu : P.underlying T = some (.slice el)) (hL : layOf P el = some L) (h2 : n ≤ cc) (h3 : (cc : Int) * L.bytes ≤ 70368744177664) (h4 : (cc : Int) ≤ 4611686018427387904) (h5 : L.zero.length = L.size) :
    ∃ A : Array Value, Cells ρ w A (reps cc L.zero) ∧ A.size = cc * L.size ∧ (Instr.makeSlice T (.int k1 n) (.int k2 cc)).run P w = .ok (.slice (some ⟨w.heap.size, 0, none⟩) n cc) (w.alloc (.cells A el)) := by
  obtain ⟨z, z1, z2, z3, z4⟩ := lay_zero (w := w) hL
  obtain ⟨info, i1, i2, i3, i4⟩ := lay_info (w := w) hL
  have hz : Cells ρ w z.cells L.zero := by rw [z4]; exact cells_av1 z3
  have hwr : ∀ q : Nat, q ≤ 4611686018427387904 → IntKind.i64.wrap (q : Int) = q := by
    intro q hq
    rw [IntKind.wrap_i64]
    omega
  have hc0 : ¬ ((cc : Int) < 0) := by omega
  have hn0 : ¬ ((n : Int) < 0) := by omega
  have hnc : ¬ ((cc : Int) < n) := by omega
  have hby : ¬ (281474976710656 < (info.bytes : Int) * cc) := by
    rw [i3, Int.mul_comm]
    omega
  have hwn := hwr n (by omega)
  have hwc := hwr cc (by omega)
  by_cases h0 : cc * L.size = 0
  · refine ⟨#[], ?_, by rw [h0]; rfl, ?_⟩
    · have e0 : reps cc L.zero = [] := by
        apply List.eq_nil_of_length_eq_zero
        rw [reps_length, h5, h0]
      rw [e0]
      exact ⟨by simp, by simp, by simp⟩
    · simp [Instr.makeSlice, run_underlying hu, asInt, asIntOf, i4, hwn, hwc, hc0, hn0, hnc, hby, lay_size hL, h0, newRow]
      congr 2
      simp
  · refine ⟨(Array.range (cc * z.cells.size)).map (z.cells[· % z.cells.size]!), cells_reps hz cc, by simp [z2], ?_⟩
    simp [Instr.makeSlice, run_underlying hu, asInt, asIntOf, i4, hwn, hwc, hc0, hn0, hnc, hby, lay_size hL, h0, z1, newRow, z2]

theorem makeSlice_sound (hs : Sim G ρ m.st w) {T : TypeId} {dst : Option Nat} {l c : Value} {la ca : AV} (hl : Rep ρ w l la) (hc : Rep ρ w c ca) {t : Tag} {v : AV} {m' : Mc} (h : aMakeSlice P m T dst la ca = some ((t, v), m')) :
    ∃ y w' ρ', (Instr.makeSlice T l c).run P w = .ok y w' ∧ Rep ρ' w' y v ∧ TagOk ρ' y v t ∧ (∀ d q, t.of = some (.reg d q) → d = m.D) ∧ Sim G ρ' m'.st w' ∧ Ext m.D ρ m.st w ρ' m'.st w' ∧
      (∀ k, t.of ≠ some k → ρ'.ow k = ρ.ow k) ∧ m'.base.length = m.base.length := by
  unfold aMakeSlice at h
  split at h
  case h_2 => cases h
  rename_i L k1 l k2 c hel
  obtain ⟨el, hu, hL⟩ := eltOf_slice hel
  split at h
  case isFalse => cases h
  rename_i hcond
  obtain ⟨h1, h2, h3, h4, h5⟩ := hcond
  have e1 := hl.int_inv
  have e2 := hc.int_inv
  subst e1 e2
  obtain ⟨n, rfl⟩ : ∃ n : Nat, l = n := ⟨l.toNat, (Int.toNat_of_nonneg h1).symm⟩
  obtain ⟨cc, rfl⟩ : ∃ n : Nat, c = n := ⟨c.toNat, (Int.toNat_of_nonneg (by omega)).symm⟩
  obtain ⟨z, z1, z2, z3, z4⟩ := lay_zero (w := w) hL
  obtain ⟨info, i1, i2, i3, i4⟩ := lay_info (w := w) hL
  have hz : Cells ρ w z.cells L.zero := by rw [z4]; exact cells_av1 z3
  have hwr : ∀ q : Nat, q ≤ 4611686018427387904 → IntKind.i64.wrap (q : Int) = q := by
    intro q hq
    rw [IntKind.wrap_i64]
    omega
  have hrow := make_row (w := w) (ρ := ρ) (k1 := k1) (k2 := k2) (n := n) (cc := cc) hu hL (by omega) h3 h4 h5
  obtain ⟨A, a1, a2, a3⟩ := hrow
  split at h
  · rename_i hn0
    cases dst with
    | none => simp at h
    | some r =>
      simp at h
      obtain ⟨⟨rfl, rfl⟩, rfl⟩ := h
      have hn : n = 0 := by omega
      subst hn
      have hheap : ∀ q, q < w.heap.size → (w.alloc (.cells A el)).heap[q]? = w.heap[q]? := fun q hq => heap_alloc_lt hq
      have hnew := heap_alloc_new' w (.cells A el)
      obtain ⟨d1, d2, d3, d4, d5⟩ := sim_drop (k := .reg m.D r) hs (m' := m) rfl
      obtain ⟨s1, s2⟩ := sim_own (D := m.D) (w' := w.alloc (.cells A el)) hs (k := .reg m.D r) (b := w.heap.size) (e := 0 + 0 * L.size) (mx := 0 + cc * L.size) (im' := ρ.im) (fun _ _ h => h)
        (fun c j hi => cell_of_heap (hheap c (hs.im_lt hi))) (fun c j hi ⟨arr, T', hz⟩ => ⟨arr, T', (hheap c (hs.im_lt hi)).trans hz⟩) d5
        (fun c hc _ => ⟨hheap c hc, fun _ => Iff.rfl⟩) (fun d i ho => by have := hs.own_size ho; omega) (fun c e' m' _ ho => by have := hs.ow_size ho; omega)
        ⟨by omega, ⟨_, _, hnew, by omega⟩, fun j _ hi => by have := hs.im_lt hi; omega⟩
        (fun c j hi => by
          have hlt := hs.im_lt hi
          rw [cell_of_heap (hheap c hlt), frozen_of_heap (hheap c hlt)]
          exact hs.im c j hi)
        rfl rfl rfl (by simp) (.inl (Nat.le_refl _)) (fun d q hd e => by injection e with e1; omega) (rows_alloc w _)
      refine ⟨_, _, _, a3, sl_of_row (es := []) (s := L.size) (cap := cc) (Nat.zero_le _) (fun e => by cases e) (by simp) ⟨_, _, hnew⟩ (by simp), ?_, fun d q hq => by injection hq with hq; injection hq with hq; exact hq.symm, s1, s2, fun k hk => Ren.own_ne _ _ _ fun e => hk (e ▸ rfl), rfl⟩
      intro es o ha ad l' c' hv
      injection ha with ha _
      injection hv with v1 v2 v3
      subst ha v1 v2 v3
      exact .inr ⟨w.heap.size, 0, rfl, by simp, Ren.own_eq ..⟩
  · injection h with h
    injection h with q1 q2
    injection q1 with q1 q3
    subst q1 q2 q3
    obtain ⟨ρ', r1, r2, r3, r4⟩ := new_cells hs a1 el
    refine ⟨_, _, ρ', a3, ?_, trivial, by simp [Tag.of], r2, r3, fun k _ => by rw [r4], rfl⟩
    obtain ⟨b, hb, e⟩ := r1.mp_inv
    injection e with e
    injection e with e
    injection e with e
    subst e
    exact .ms 0 _ cc _ hb (by omega) ⟨A, el, (0, 0), heap_alloc_new' .., by rw [a2, Nat.zero_add]; exact Nat.le_refl _⟩

theorem tagOf_sound (hs : Sim G ρ m.st w) {a : Act} {e : Env} (he : EnvOk ρ w m.D a.tmps e) {o : Oper} {y : Value} {v : AV} {w1 : World} (hrun : (execOp a.eval o).run P w = .ok (.value y) w1) (hv : aPure P o (opv G e) = some v) :
    TagOk ρ y v (tagOf (opv G e) (opt e) o) ∧ ∀ d q, (tagOf (opv G e) (opt e) o).of = some (.reg d q) → d = m.D := by
  unfold tagOf
  split
  · rename_i x ho
    simp only [aPure, ho, Option.some.injEq] at hv
    subst hv
    simp only [execOp, ho, Sem.run_pure] at hrun
    injection hrun with h1 _
    injection h1 with h1
    subst h1
    exact he.rdT G x
  · rename_i x ho
    simp only [aPure, ho, Option.some.injEq] at hv
    subst hv
    simp only [execOp, ho, Sem.run_pure] at hrun
    injection hrun with h1 _
    injection h1 with h1
    subst h1
    exact he.rdT G x
  · rename_i c x x' ho
    simp only [aPure, ho] at hv
    split at hv
    · rename_i t ht
      injection hv with hv
      have hc := (ht ▸ he.rdV hs.glob c : Rep ρ w (a.eval c) (.bool t)).bool_inv
      simp only [execOp, ho, hc, asBool] at hrun
      rw [ht]
      cases t
      · simp at hrun hv ⊢
        obtain ⟨h1, _⟩ := hrun
        subst h1 hv
        exact he.rdT G x'
      · simp at hrun hv ⊢
        obtain ⟨h1, _⟩ := hrun
        subst h1 hv
        exact he.rdT G x
    · cases hv
  · exact ⟨trivial, by simp [Tag.of]⟩

theorem runes_cells (s : ByteArray) : ∀ (bound i : Nat) (acc : Array Value), (∀ v ∈ acc.toList, v.oneCell' = true) → ∀ v ∈ (Conv.runesFrom s bound i acc).toList, v.oneCell' = true
  | 0, _, acc, h => by simpa [Conv.runesFrom] using h
  | bound + 1, i, acc, h => by
    unfold Conv.runesFrom
    split
    · refine runes_cells s bound _ _ fun v hv => ?_
      simp only [Array.toList_push, List.mem_append, List.mem_singleton] at hv
      rcases hv with hv | hv
      · exact h v hv
      · subst hv; rfl
    · exact h

theorem convNew_sound (hs : Sim G ρ m.st w) {s d : TypeId} {x : Value} {a v : AV} (hx : Rep ρ w x a) (h : aConvNew P s d a = some v) : Step P G m.D ρ m.st w (convert s d x) v m.st := by
  unfold aConvNew at h
  split at h
  · rename_i e b h1 h2
    split at h
    · rename_i hu
      split at h
      · rename_i hle
        injection h with h
        subst h
        have e1 := hx.str_inv
        subst e1
        have hsz : (ByteArray.mk b.toArray).size = b.length := size_mk b
        have hlen : (runesAV b).length = (Conv.runesFrom ⟨b.toArray⟩ (ByteArray.mk b.toArray).size 0 #[]).size := by rw [hsz]; simp [runesAV]
        have hrun := Go.run_runes_of_string (P := P) w s d e ⟨b.toArray⟩ h1 h2 hu (by rw [← hlen]; exact hle)
        generalize hR : Conv.runesFrom ⟨b.toArray⟩ (ByteArray.mk b.toArray).size 0 #[] = R at hrun hlen
        have hRAV : runesAV b = R.toList.map fun v => [av1 v] := by rw [← hR, hsz]; rfl
        have hone : ∀ v ∈ R.toList, v.oneCell' = true := by rw [← hR]; exact runes_cells _ _ _ _ (by simp)
        have hge : R.size ≤ grownCap w R.size 0 e := by simp [grownCap, Question.cut]
        generalize grownCap w R.size 0 e = nc at hrun hge
        have hs1 : Sim G ρ m.st w.drew := sim_heap hs rfl
        obtain ⟨g1, g2⟩ := sim_addIm (D := m.D) hs1 (R ++ Array.replicate (nc - R.size) (.int .i32 0)) e R.size (by simp)
        have hnew : (w.drew.alloc (.cells (R ++ Array.replicate (nc - R.size) (.int .i32 0)) e)).heap[w.heap.size]? = some (.cells (R ++ Array.replicate (nc - R.size) (.int .i32 0)) e) := heap_alloc_new' w.drew _
        refine ⟨_, _, _, hrun, ?_, g1, (ext_drew m.D ρ m.st w).trans g2, rfl⟩
        have key : ∀ n, n = (runesAV b).length → Rep (ρ.addIm w.drew.heap.size R.size) (w.drew.alloc (.cells (R ++ Array.replicate (nc - R.size) (.int .i32 0)) e)) (.slice (some ⟨w.heap.size, 0, none⟩) n nc) (.sl (runesAV b) .frs) := ?_
        · exact key _ hlen.symm
        rintro n rfl
        refine sl_of_row (s := 1) (by rw [hlen]; exact hge) (fun e => by cases e) (by rw [hRAV]; intro e he; simp only [List.mem_map] at he; obtain ⟨v, _, rfl⟩ := he; rfl) ⟨_, _, hnew⟩ fun i e' j c hi hj => ?_
        rw [hRAV, List.getElem?_map] at hi
        cases hv : R.toList[i]? with
        | none => simp [hv] at hi
        | some v =>
          simp [hv] at hi
          subst hi
          have hj0 : j = 0 := by have := (List.getElem?_eq_some_iff.1 hj).1; simp at this; exact this
          subst hj0
          simp at hj
          subst hj
          have hlt : i < R.size := by have := (List.getElem?_eq_some_iff.1 hv).1; simpa using this
          refine ⟨.inr ⟨rfl, by omega⟩, v, ?_, av1_nref v, hone v (List.mem_of_getElem? hv), av1_rep _ _ v⟩
          have ei : 0 + (i * 1 + 0) = i := by omega
          rw [ei, cell_of_row hnew, Array.getElem?_append_left hlt]
          simpa using hv
      · cases h
    · cases h
  · cases h

theorem sliceArr_sound (hs : Sim G ρ m.st w) {t : TypeId} {ρo : Operand → Value} {av : Operand → AV} (hR : ∀ x, Rep ρ w (ρo x) (av x)) {xo : Operand} {lo hi : Option Operand} {v : AV} (h : aSliceArr P m t (av xo) (lo.map av) (hi.map av) = some v) :
    ∃ y, (Instr.sliceAt t (ρo xo) (lo.map ρo) (hi.map ρo) none).run P w = .ok y w ∧ Rep ρ w y v := by
  have hx := hR xo
  generalize av xo = a at h hx
  generalize ρo xo = x at hx ⊢
  unfold aSliceArr at h
  split at h
  · rename_i n e d i off hu
    split at h
    · rename_i N L cs ts hel hblk
      obtain ⟨e', hu', hL⟩ := eltOf_array hel
      rw [hu] at hu'
      injection hu' with hu'
      injection hu' with e1 e2
      subst e1 e2
      split at h
      · rename_i hfit
        cases hb : bnds n (lo.map av) (hi.map av) with
        | none => simp [hb] at h
        | some b =>
          simp only [hb, Option.bind_some] at h
          split at h
          · rename_i hlt
            injection h with h
            subst h
            obtain ⟨r, hr, rfl⟩ := hx.mp_inv
            obtain ⟨r1, r2, r3⟩ := bounds_run (P := P) (w := w) (isS := false) hR hb (Nat.le_refl n)
            obtain ⟨_, arr, T', hh, hsz, _⟩ := hs.ok d i _ ((Mc.st_blk m d i).trans hblk) r hr
            refine ⟨.slice (some ⟨r, off + b.1 * L.size, none⟩) (b.2 - b.1) (n - b.1), ?_, .ms _ _ _ _ hr (by omega) ⟨arr, T', (0, 0), hh, ?_⟩⟩
            · simp [Instr.sliceAt, run_underlying hu, Instr.sureAddr, r1, lay_size hL, add_mk]
              omega
            · have : b.1 * L.size + (n - b.1) * L.size = n * L.size := by rw [← Nat.add_mul]; congr 1; omega
              omega
          · cases h
      · cases h
    · cases h
  · cases h

structure Did (P : Program) (G : Nat → AV) (ρ : Ren) (m : Mc) (w : World) (tmps : Array Value) (s : Sem Next) (t : Tag) (v : AV) (e' : Env) (m' : Mc) : Prop where
  ex : ∃ nx y w' ρ', s.run P w = .ok nx w' ∧ (nx = .value y ∨ (nx = .skip ∧ y = undef)) ∧ Rep ρ' w' y v ∧ TagOk ρ' y v t ∧ (∀ d q, t.of = some (.reg d q) → d = m.D) ∧
    Sim G ρ' m'.st w' ∧ Ext m.D ρ m.st w ρ' m'.st w' ∧ EnvOk ρ' w' m.D tmps e' ∧ m'.base.length = m.base.length

theorem Did.ofStep {tmps : Array Value} {e : Env} (he : EnvOk ρ w m.D tmps e) {s : Sem Value} {v : AV} {m' : Mc} (h : Step P G m.D ρ m.st w s v m'.st) (hl : m'.base.length = m.base.length) : Did P G ρ m w tmps (do pure (.value (← s))) .no v (e.dr .keep) m' := by
  obtain ⟨y, w', ρ', h1, h2, h3, h4, h5⟩ := h
  exact ⟨.value y, y, w', ρ', by simp [h1], .inl rfl, h2, trivial, by simp [Tag.of], h3, h4, he.pers h4.pers (fun _ _ _ _ _ _ => by rw [h5]), hl⟩

theorem Did.ofRead {tmps : Array Value} {e : Env} (hs : Sim G ρ m.st w) (he : EnvOk ρ w m.D tmps e) {s : Sem Value} {v : AV} {t : Tag} (h : ∃ y, s.run P w = .ok y w ∧ Rep ρ w y v ∧ TagOk ρ y v t ∧ ∀ d q, t.of = some (.reg d q) → d = m.D) : Did P G ρ m w tmps (do pure (.value (← s))) t v (e.dr .keep) m := by
  obtain ⟨y, h1, h2, h3, h4⟩ := h
  exact ⟨.value y, y, w, ρ, by simp [h1], .inl rfl, h2, h3, h4, hs, Ext.refl .., he, rfl⟩

theorem op_sound (hs : Sim G ρ m.st w) {a : Act} {e : Env} (he : EnvOk ρ w m.D a.tmps e) {o : Oper} {t : Tag} {v : AV} {dr : Dr} {m' : Mc} (h : aOp P (opv G e) (opt e) m o = some ((t, v), dr, m')) : Did P G ρ m w a.tmps (execOp a.eval o) t v (e.dr dr) m' := by
  have hR := he.rdV hs.glob
  unfold aOp at h
  split at h
  · rename_i v0 hv
    injection h with h
    injection h with q1 q2
    injection q1 with q1 q3
    injection q2 with q2 q4
    subst q1 q2 q3 q4
    obtain ⟨y, h1, h2⟩ := pure_sound hR (fun _ => rfl) hv
    obtain ⟨h3, h4⟩ := tagOf_sound hs he h1 hv
    exact ⟨.value y, y, w, ρ, h1, .inl rfl, h2, h3, h4, hs, Ext.refl .., he, rfl⟩
  · unfold aEff at h
    split at h
    · rename_i T len parts ho
      obtain ⟨v0, hv, e0⟩ := Option.map_eq_some_iff.1 h
      injection e0 with q1 q2
      injection q1 with q1 q3
      injection q2 with q2 q4
      subst q1 q2 q3 q4
      have := Did.ofStep he (buildSlice_sound hs hR hv) rfl
      simpa only [execOp, ho] using this
    · rename_i T ho
      obtain ⟨r, hv, e0⟩ := Option.map_eq_some_iff.1 h
      obtain ⟨rv, rm⟩ := r
      injection e0 with q1 q2
      injection q1 with q1 q3
      injection q2 with q2 q4
      subst q1 q2 q3 q4
      have hl : rm.base.length = m.base.length := by
        unfold aAlloc at hv
        split at hv
        · injection hv with hv; injection hv with _ hv; subst hv; rfl
        · cases hv
      have := Did.ofStep he (alloc_sound hs hv) hl
      simpa only [execOp, ho] using this
    · rename_i T x ho
      obtain ⟨r, hv, e0⟩ := Option.map_eq_some_iff.1 h
      obtain ⟨rv, rm⟩ := r
      injection e0 with q1 q2
      injection q1 with q1 q3
      injection q2 with q2 q4
      subst q1 q2 q3 q4
      have hl : rm.base.length = m.base.length := by
        unfold aBox at hv
        split at hv
        · injection hv with hv; injection hv with _ hv; subst hv; rfl
        · cases hv
      have := Did.ofStep he (box_sound (P := P) (T := T) hs (hR x) hv) hl
      simpa only [execOp, ho] using this
    · rename_i T x ho
      obtain ⟨r, hv, e0⟩ := Option.map_eq_some_iff.1 h
      obtain ⟨rt, rv⟩ := r
      injection e0 with q1 q2
      injection q1 with q1 q3
      injection q2 with q2 q4
      subst q1 q2 q3 q4
      have := Did.ofRead hs he (load_sound hs (hR x) hv)
      simpa only [execOp, ho] using this
    · rename_i T x y ho
      obtain ⟨r, hv, e0⟩ := Option.map_eq_some_iff.1 h
      obtain ⟨re, rm⟩ := r
      injection e0 with q1 q2
      injection q1 with q1 q3
      injection q2 with q2 q4
      subst q1 q2 q3 q4
      obtain ⟨t1, t2⟩ := he.rdT G y
      obtain ⟨w', ρ', h1, h2, h3, h4, h5⟩ := store_sound (P := P) hs he (hR x) (hR y) t1 t2 hv
      exact ⟨.skip, undef, w', ρ', by simp [execOp, ho, h1], .inr ⟨rfl, rfl⟩, .any _, trivial, by simp [Tag.of], h2, h3, h4, h5⟩
    · rename_i T ho
      split at h
      · injection h with h
        injection h with q1 q2
        injection q1 with q1 q3
        injection q2 with q2 q4
        subst q1 q2 q3 q4
        have := Did.ofStep he (makeMap_sound (P := P) (t := T) hs) (m' := m.push (.map [])) rfl
        simpa only [execOp, ho, Option.map_none] using this
      · cases h
    · rename_i T l c ho
      obtain ⟨r, hv, e0⟩ := Option.map_eq_some_iff.1 h
      obtain ⟨⟨rt, rv⟩, rm⟩ := r
      injection e0 with q1 q2
      injection q1 with q1 q3
      injection q2 with q2 q4
      subst q1 q2 q3 q4
      obtain ⟨y, w', ρ', h1, h2, h3, h4, h5, h6, h7, h8⟩ := makeSlice_sound (P := P) hs (hR l) (hR c) hv
      refine ⟨.value y, y, w', ρ', by simp [execOp, ho, h1], .inl rfl, h2, h3, h4, h5, h6, ?_, h8⟩
      simp only
      split
      · rename_i k hk
        exact he.drop k h6.pers fun c hc => h7 c (by rw [hk]; intro e1; injection e1 with e1; exact hc e1.symm)
      · rename_i hk
        exact he.pers h6.pers fun _ _ _ k _ _ => h7 k (by rw [hk]; simp)
    · rename_i T x k ok ho
      obtain ⟨v0, hv, e0⟩ := Option.map_eq_some_iff.1 h
      injection e0 with q1 q2
      injection q1 with q1 q3
      injection q2 with q2 q4
      subst q1 q2 q3 q4
      obtain ⟨y, h1, h2⟩ := lookup_sound (P := P) hs (hR x) (hR k) hv
      have := Did.ofRead (P := P) (t := .no) hs he ⟨y, h1, h2, trivial, by simp [Tag.of]⟩
      simpa only [execOp, ho] using this
    · rename_i T x k y ho
      obtain ⟨rm, hv, e0⟩ := Option.map_eq_some_iff.1 h
      injection e0 with q1 q2
      injection q1 with q1 q3
      injection q2 with q2 q4
      subst q1 q2 q3 q4
      obtain ⟨w', h1, h2, h3, h4⟩ := mapUpdate_sound (P := P) hs (hR x) (hR k) (hR y) hv
      exact ⟨.skip, undef, w', ρ, by simp [execOp, ho, h1], .inr ⟨rfl, rfl⟩, .any _, trivial, by simp [Tag.of], h2, h3, he.pers h3.pers (fun _ _ _ _ _ _ => rfl), h4⟩
    · rename_i T x ho
      obtain ⟨r, hv, e0⟩ := Option.map_eq_some_iff.1 h
      obtain ⟨rv, rm⟩ := r
      injection e0 with q1 q2
      injection q1 with q1 q3
      injection q2 with q2 q4
      subst q1 q2 q3 q4
      have hl : rm.base.length = m.base.length := by
        unfold aRange at hv
        split at hv
        · injection hv with hv; injection hv with _ hv; subst hv; rfl
        · cases hv
      have := Did.ofStep he (range_sound (P := P) hs (hR x) hv) hl
      simpa only [execOp, ho] using this
    · rename_i x ho
      obtain ⟨r, hv, e0⟩ := Option.map_eq_some_iff.1 h
      obtain ⟨rv, rm⟩ := r
      injection e0 with q1 q2
      injection q1 with q1 q3
      injection q2 with q2 q4
      subst q1 q2 q3 q4
      have hl : rm.base.length = m.base.length := by
        unfold aNext at hv
        split at hv
        · split at hv
          · split at hv
            · injection hv with hv; injection hv with _ hv; subst hv; exact Mc.upd_len ..
            · injection hv with hv; injection hv with _ hv; subst hv; rfl
          · cases hv
        · cases hv
      have := Did.ofStep he (next_sound (P := P) (ty := o.type) hs (hR x) hv) hl
      simpa only [execOp, ho] using this
    · rename_i T x lo hi ho
      obtain ⟨v0, hv, e0⟩ := Option.map_eq_some_iff.1 h
      injection e0 with q1 q2
      injection q1 with q1 q3
      injection q2 with q2 q4
      subst q1 q2 q3 q4
      obtain ⟨y, h1, h2⟩ := sliceArr_sound (P := P) hs hR hv
      have := Did.ofRead (P := P) (t := .no) hs he ⟨y, h1, h2, trivial, by simp [Tag.of]⟩
      simpa only [execOp, ho, Option.map_none] using this
    · rename_i s d x ho
      obtain ⟨v0, hv, e0⟩ := Option.map_eq_some_iff.1 h
      injection e0 with q1 q2
      injection q1 with q1 q3
      injection q2 with q2 q4
      subst q1 q2 q3 q4
      split at hv
      · rename_i v1 hv1
        injection hv with hv
        subst hv
        have := Did.ofStep (P := P) he (convNew_sound hs (hR x) hv1) (m' := m) rfl
        simpa only [execOp, ho] using this
      · obtain ⟨y, h1, h2⟩ := convMs_sound (P := P) hs (hR x) hv
        have := Did.ofRead (P := P) (t := .no) hs he ⟨y, h1, h2, trivial, by simp [Tag.of]⟩
        simpa only [execOp, ho] using this
    · rename_i args argTypes ho
      split at h
      · rename_i x y T U hx hT
        have e1 : args = #[x, y] := by apply Array.toList_inj.1; simpa using hx
        have e2 : argTypes = #[T, U] := by apply Array.toList_inj.1; simpa using hT
        subst e1 e2
        obtain ⟨t1, t2⟩ := he.rdT G x
        obtain ⟨z, w', ρ', h1, h2, h3, h4, h5, h6, h7, h8⟩ := append_sound (P := P) hs he (hR x) (hR y) t1 t2 h o.type
        exact ⟨.value z, z, w', ρ', by simp [execOp, ho, resolve, invoke, builtin, h1], .inl rfl, h2, h3, h4, h5, h6, h7, h8⟩
      · cases h
    · rename_i args argTypes ho
      split at h
      · rename_i x y T U hx hT
        have e1 : args = #[x, y] := by apply Array.toList_inj.1; simpa using hx
        have e2 : argTypes = #[T, U] := by apply Array.toList_inj.1; simpa using hT
        subst e1 e2
        obtain ⟨r, hv, e0⟩ := Option.map_eq_some_iff.1 h
        obtain ⟨rv, rm⟩ := r
        injection e0 with q1 q2
        injection q1 with q1 q3
        injection q2 with q2 q4
        subst q1 q2 q3 q4
        obtain ⟨⟨z, w', ρ', h1, h2, h3, h4, h5⟩, h6⟩ := copy_sound (P := P) (U := U) (ty := o.type) hs (hR x) (hR y) hv
        exact ⟨.value z, z, w', ρ', by simp [execOp, ho, resolve, invoke, builtin, h1], .inl rfl, h2, trivial, by simp [Tag.of], h3, h4, he.pers h4.pers (fun _ _ _ _ _ _ => by rw [h5]), h6⟩
      · cases h
    · cases h

end
end
end Go.Ab
