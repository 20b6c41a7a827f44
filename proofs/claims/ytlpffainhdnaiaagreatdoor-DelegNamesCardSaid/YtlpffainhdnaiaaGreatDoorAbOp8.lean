import Derived.Test.YtlpffainhdnaiaaGreatDoorAbOp7
/- append, whole. -/
namespace Go.Ab
open Go
noncomputable section

section
variable {P : Program} {G : Nat → AV} {ρ ρ' : Ren} {S : St} {w w' : World} {m : Mc}

/-- Cells that read as rows of elements. -/
structure RowRel (ρ : Ren) (w : World) (s : Nat) (news : Array Value) (new : List (List AV)) : Prop where
  len : ∀ e ∈ new, e.length = s
  one : ∀ v ∈ news.toList, v.oneCell' = true
  rel : ∀ i e j c, new[i]? = some e → e[j]? = some c → ∃ v, news[i * s + j]? = some v ∧ c.nref = true ∧ v.oneCell' = true ∧ Rep ρ w v c

theorem added_of {y : Value} {ya : AV} (hy : Rep ρ w y ya) {s : Nat} (hs0 : 0 < s) {new : List (List AV)} (h : newOf s ya = some new) : ∃ news, Added P w s y new.length news ∧ RowRel ρ w s news new := by
  unfold newOf at h
  split at h
  · rename_i es o
    split at h
    · rename_i hok
      injection h with h
      subst h
      have hlen := lenOk_spec hok
      obtain ⟨a, cap, s', b, off, f, rfl, c1, c2, c3, c4, c5, c6⟩ := hy.sl_inv
      cases hes : es with
      | nil =>
        subst hes
        refine ⟨#[], ⟨fun w' _ => by simp [Builtin.lenOf], fun w' _ => ?_, by simp⟩, ⟨by simp, by simp, by simp⟩⟩
        cases a with
        | none => simp [Builtin.firstCells]
        | some a => simp [Builtin.firstCells, loadCells, loadCellsFrom]
      | cons e0 es0 =>
        rw [← hes]
        have hne : es ≠ [] := by rw [hes]; simp
        have hs' : s' = s := (c3 e0 (by rw [hes]; simp)).symm.trans (hlen e0 (by rw [hes]; simp))
        subst hs'
        have hidx : ∀ q, q < es.length * s' → ∃ e c, es[q / s']? = some e ∧ e[q % s']? = some c := by
          intro q hq
          have h1 : q / s' < es.length := (Nat.div_lt_iff_lt_mul hs0).2 hq
          have h2 : q % s' < (es[q / s']'h1).length := by rw [hlen _ (List.getElem_mem h1)]; exact Nat.mod_lt _ hs0
          exact ⟨_, _, List.getElem?_eq_getElem h1, List.getElem?_eq_getElem h2⟩
        have hdm : ∀ q, q / s' * s' + q % s' = q := fun q => by rw [Nat.mul_comm]; exact Nat.div_add_mod q s'
        have hcell : ∀ w' : World, w'.heap = w.heap → ∀ q, q < es.length * s' → w'.cell? ⟨b, off + q, none⟩ = some (f (q / s') (q % s')) := by
          intro w' hw q hq
          obtain ⟨e, c, g1, g2⟩ := hidx q hq
          have g3 := (c5 _ e _ c g1 g2).2.1
          rw [hdm] at g3
          exact (cell_of_heap (w := w) (w' := w') (by rw [hw])).trans g3
        refine ⟨((List.range (es.length * s')).map fun q => f (q / s') (q % s')).toArray, ⟨fun w' _ => by simp [Builtin.lenOf], fun w' hw => ?_, by simp⟩, ⟨hlen, ?_, ?_⟩⟩
        · rw [c4 hne]
          simp [Builtin.firstCells, run_loadCells _ _ (hcell w' hw)]
        · intro v hv
          simp only [List.mem_map, List.mem_range] at hv
          obtain ⟨q, hq, rfl⟩ := hv
          obtain ⟨e, c, g1, g2⟩ := hidx q hq
          exact (c5 _ e _ c g1 g2).2.2.2.1
        · intro i e j c hi hj
          have hj' : j < s' := by rw [← hlen e (List.mem_of_getElem? hi)]; exact (List.getElem?_eq_some_iff.1 hj).1
          have hi' := (List.getElem?_eq_some_iff.1 hi).1
          have hq : i * s' + j < es.length * s' := by
            have : (i + 1) * s' ≤ es.length * s' := Nat.mul_le_mul_right _ hi'
            rw [Nat.add_mul] at this
            omega
          have hd : (i * s' + j) / s' = i := by rw [Nat.mul_comm, Nat.mul_add_div hs0, Nat.div_eq_of_lt hj']; omega
          have hm : (i * s' + j) % s' = j := by rw [Nat.mul_comm, Nat.mul_add_mod, Nat.mod_eq_of_lt hj']
          obtain ⟨_, _, g3, g4, _⟩ := c5 i e j c hi hj
          refine ⟨f i j, ?_, g3, g4, c6 i e j c hi hj⟩
          simp [hq, hd, hm]
    · cases h
  · rename_i bs
    split at h
    · rename_i hs1
      subst hs1
      injection h with h
      subst h
      have e1 := hy.str_inv
      subst e1
      have hx : (ByteArray.mk bs.toArray).extract 0 bs.length = ByteArray.mk bs.toArray := by
        rw [extract_mk]
        simp
      refine ⟨(bs.map fun b => Value.int .u8 b.toNat).toArray, ⟨fun w' _ => by simp [Builtin.lenOf, size_mk], fun w' _ => ?_, by simp⟩, ⟨by simp, ?_, ?_⟩⟩
      · simp [Builtin.firstCells, hx]
      · intro v hv
        simp only [List.mem_map] at hv
        obtain ⟨q, _, rfl⟩ := hv
        rfl
      · intro i e j c hi hj
        rw [List.getElem?_map] at hi
        cases hb : bs[i]? with
        | none => simp [hb] at hi
        | some u =>
          simp [hb] at hi
          subst hi
          have hj0 : j = 0 := by have := (List.getElem?_eq_some_iff.1 hj).1; simp at this; exact this
          subst hj0
          simp at hj
          subst hj
          exact ⟨.int .u8 u.toNat, by simp [hb], rfl, rfl, .int _ _⟩
    · cases h
  · cases h

theorem app_none {T U e : TypeId} {ud : TypeDesc} {L : Lay} (ht : P.underlying T = some (.slice e)) (hu : P.underlying U = some ud) (hud : (∃ e', ud = .slice e') ∨ ud = .string) (hL : layOf P e = some L) {x : Value} {news : Array Value} (hx : Added P w L.size x 0 news)
    {base : Option Addr} {sLen sCap : Nat} (hfit : sLen ≤ sCap) (ty : TypeId) :
    (Builtin.append_ #[T, U] ty #[.slice base sLen sCap, x]).run P w = .ok (.slice base sLen sCap) w := by
  have hn : news.toList = [] := by
    apply List.eq_nil_of_length_eq_zero
    have := hx.size
    simpa using this
  rcases hud with ⟨e', rfl⟩ | rfl
  · cases base <;> simp [Builtin.append_, run_underlying ht, run_underlying hu, lay_size hL, hx.len w rfl, hx.cells w rfl, hfit, hn, storeCells]
  · cases base <;> simp [Builtin.append_, run_underlying ht, run_underlying hu, lay_size hL, hx.len w rfl, hx.cells w rfl, hfit, hn, storeCells]

theorem append_sound (hs : Sim G ρ m.st w) {tmps : Array Value} {e : Env} (he : EnvOk ρ w m.D tmps e) {T U : TypeId} {x y : Value} {xa ya : AV} {xt : Tag} (hx : Rep ρ w x xa) (hy : Rep ρ w y ya)
    (ht : TagOk ρ x xa xt) (htf : ∀ d q, xt.of = some (.reg d q) → d = m.D) {dst : Option Nat} {t : Tag} {v : AV} {dr : Dr} {m' : Mc} (h : aAppend P m dst T U xa ya xt = some ((t, v), dr, m')) (ty : TypeId) :
    ∃ z w' ρ', (Builtin.append_ #[T, U] ty #[x, y]).run P w = .ok z w' ∧ Rep ρ' w' z v ∧ TagOk ρ' z v t ∧ (∀ d q, t.of = some (.reg d q) → d = m.D) ∧ Sim G ρ' m'.st w' ∧ Ext m.D ρ m.st w ρ' m'.st w' ∧ EnvOk ρ' w' m.D tmps (e.dr dr) ∧ m'.base.length = m.base.length := by
  unfold aAppend at h
  split at h
  case h_2 => cases h
  rename_i L es o ud hel hud0
  obtain ⟨el, hu, hL⟩ := eltOf_slice hel
  split at h
  case h_2 => cases h
  rename_i new tt hnew htag
  split at h
  case isFalse => cases h
  rename_i hc
  simp only [Bool.and_eq_true, decide_eq_true_eq] at hc
  obtain ⟨⟨⟨⟨⟨hok, hbytes⟩, hs0⟩, hb0⟩, hty⟩, hunk⟩ := hc
  split at h
  case h_2 => cases h
  rename_i k hk
  cases hdc : dropCell m k with
  | none => simp [hdc] at h
  | some m1 =>
    simp [hdc] at h
    obtain ⟨⟨ht1, hv1⟩, he1, hm1⟩ := h
    replace ht1 := ht1.symm
    subst ht1 hv1 he1 hm1
    have hud : (∃ e', ud = .slice e') ∨ ud = .string := by
      unfold appTy at hty
      split at hty
      · exact .inl ⟨_, rfl⟩
      · exact .inr rfl
      · cases hty
    have hlen := lenOk_spec hok
    obtain ⟨news, hadd, hrel⟩ := added_of (P := P) hy hs0 hnew
    obtain ⟨olds, hadd0, hrel0⟩ := added_of (P := P) hx hs0 (new := es) (by simp [newOf, hok])
    obtain ⟨ad, cap, s', b, off, f, rfl, c1, c2, c3, c4, c5, c6⟩ := hx.sl_inv
    obtain ⟨d1, d2, d3, d4, d5⟩ := sim_drop hs hdc
    have hkD : ∀ d q, k = .reg d q → d = m.D := by
      intro d q e1
      subst e1
      unfold tagApp at htag
      split at htag
      · split at htag
        · cases dst with
          | none => simp at htag
          | some r => simp at htag; subst htag; simp [Tag.of] at hk; exact hk.1.symm
        · cases htag
      · injection htag with htag
        subst htag
        exact htf d q hk
      · split at htag
        · injection htag with htag
          subst htag
          exact htf d q hk
        · cases htag
    have hreg : ∀ d r, d < m.D → k ≠ .reg d r := fun d r hd e1 => by have := hkD d r e1; omega
    have htD : ∀ d q, t.of = some (.reg d q) → d = m.D := fun d q hq => hkD d q (by rw [hk] at hq; injection hq)
    rcases Nat.eq_zero_or_pos new.length with hn0 | hnpos
    · -- nothing is appended
      have hnil : new = [] := List.eq_nil_of_length_eq_zero hn0
      subst hnil
      rw [List.append_nil]
      refine ⟨_, w, ρ, app_none hu hud0 hud hL hadd c1 ty, ?_, ?_, htD, d1, d2, ?_, d3⟩
      · exact .sl ad cap s' es .frs b off f c1 (fun e => by cases e) c3 c4 (fun i e j c hi hj => by
          obtain ⟨q1, q2, q3, q4, q5⟩ := c5 i e j c hi hj
          exact ⟨q1, q2, q3, q4, fun _ => q5 hunk⟩) c6
      · unfold tagApp at htag
        split at htag
        · split at htag
          · rename_i hfull
            cases dst with
            | none => simp at htag
            | some r =>
              simp at htag
              subst htag
              intro es' o' _ ad' l' c' hv
              injection hv with _ v2 v3
              exact .inl (by rw [← v2, ← v3]; exact c2 hfull)
          · cases htag
        · injection htag with htag
          subst htag
          intro es' o' ha ad' l' c' hv
          injection ha with ha _
          subst ha
          exact ht es o rfl ad' l' c' hv
        · split at htag
          · injection htag with htag
            subst htag
            intro es' o' ha ad' l' c' hv
            injection ha with ha _
            subst ha
            exact ht es o rfl ad' l' c' hv
          · cases htag
      · exact he.drop k d2.pers fun _ _ => rfl
    · -- the elements of what comes
      have hrd : ∀ (ρ2 : Ren) (w2 : World) (b2 off2 : Nat), Pers ρ w ρ2 w2 → zf w2 b2 → (∀ q v, q < es.length * L.size → olds[q]? = some v → ρ2.im b2 (off2 + q) ∧ w2.cell? ⟨b2, off2 + q, none⟩ = some v) →
          (∀ q v, q < new.length * L.size → news[q]? = some v → ρ2.im b2 (off2 + (es.length * L.size + q)) ∧ w2.cell? ⟨b2, off2 + (es.length * L.size + q), none⟩ = some v) → ∀ c2, es.length + new.length ≤ c2 →
          Rep ρ2 w2 (.slice (some ⟨b2, off2, none⟩) (es.length + new.length) c2) (.sl (es ++ new) .frs) := by
        intro ρ2 w2 b2 off2 hp2 hz2 ho2 hn2 c2 hc2
        have key := sl_of_row (ρ := ρ2) (w := w2) (b := b2) (off := off2) (s := L.size) (cap := c2) (es := es ++ new) (o := .frs) (by rw [List.length_append]; exact hc2) (fun e => by cases e)
          (fun e he => by
            rcases List.mem_append.1 he with h1 | h1
            · exact hlen e h1
            · exact hrel.len e h1) hz2 (fun i e j c hi hj => by
            rcases Nat.lt_or_ge i es.length with hi1 | hi1
            · rw [List.getElem?_append_left hi1] at hi
              obtain ⟨u, u1, u2, u3, u4⟩ := hrel0.rel i e j c hi hj
              have hj' : j < L.size := by rw [← hlen e (List.mem_of_getElem? hi)]; exact (List.getElem?_eq_some_iff.1 hj).1
              have hq : i * L.size + j < es.length * L.size := by
                have : (i + 1) * L.size ≤ es.length * L.size := Nat.mul_le_mul_right _ hi1
                rw [Nat.add_mul] at this
                omega
              obtain ⟨g1, g2⟩ := ho2 _ u hq u1
              exact ⟨g1, u, g2, u2, u3, u4.pers hp2⟩
            · rw [List.getElem?_append_right hi1] at hi
              obtain ⟨u, u1, u2, u3, u4⟩ := hrel.rel (i - es.length) e j c hi hj
              have hj' : j < L.size := by rw [← hrel.len e (List.mem_of_getElem? hi)]; exact (List.getElem?_eq_some_iff.1 hj).1
              have hi2 := (List.getElem?_eq_some_iff.1 hi).1
              have hq : (i - es.length) * L.size + j < new.length * L.size := by
                have : (i - es.length + 1) * L.size ≤ new.length * L.size := Nat.mul_le_mul_right _ hi2
                rw [Nat.add_mul] at this
                omega
              obtain ⟨g1, g2⟩ := hn2 _ u hq u1
              have ea : es.length * L.size + ((i - es.length) * L.size + j) = i * L.size + j := by
                have : i * L.size = es.length * L.size + (i - es.length) * L.size := by rw [← Nat.add_mul]; congr 1; omega
                omega
              rw [ea] at g1 g2
              exact ⟨g1, u, g2, u2, u3, u4.pers hp2⟩)
        rw [List.length_append] at key
        exact key
      have htagk : ∀ (ρ2 : Ren) (b2 off2 c2 : Nat), ρ2.ow k = some (b2, off2 + (es.length + new.length) * L.size, off2 + c2 * L.size) → TagOk ρ2 (.slice (some ⟨b2, off2, none⟩) (es.length + new.length) c2) (.sl (es ++ new) .frs) t := by
        intro ρ2 b2 off2 c2 how
        have hall : ∀ e ∈ es ++ new, e.length = L.size := fun e he => by
          rcases List.mem_append.1 he with h1 | h1
          · exact hlen e h1
          · exact hrel.len e h1
        have hne : es ++ new ≠ [] := by
          intro e1
          have := congrArg List.length e1
          rw [List.length_append, List.length_nil] at this
          omega
        cases t with
        | no => trivial
        | cls k1 =>
          injection hk with hk
          subst hk
          intro es' o' ha ad' l' c' hv
          injection ha with ha _
          injection hv with v1 v2 v3
          subst ha v1 v2 v3
          exact .inr ⟨hne, b2, off2, L.size, rfl, hall, how⟩
        | cap k1 s1 =>
          injection hk with hk
          subst hk
          have hs1 : s1 = L.size := by
            unfold tagApp at htag
            split at htag
            · split at htag
              · cases dst <;> simp at htag
              · cases htag
            · cases htag
            · split at htag
              · rename_i h1
                injection htag with htag
                injection htag with _ h2
                omega
              · cases htag
          subst hs1
          intro es' o' ha ad' l' c' hv
          injection ha with ha _
          injection hv with v1 v2 v3
          subst ha v1 v2 v3
          exact .inr ⟨b2, off2, rfl, hall, how⟩
      have hosz : olds.size = es.length * L.size := hadd0.size
      have hnsz : news.size = new.length * L.size := hadd.size
      rcases Nat.lt_or_ge cap (es.length + new.length) with hg | hfit
      · -- a new row
        obtain ⟨zc, z1, z2, z3, z4⟩ := app_grows hu hud0 hud hL hadd (fun w' hw' => hadd0.cells w' hw') hg hb0 (by omega) ty
        generalize hcap : grownCap w (es.length + new.length) cap el = nc at z1 z3 z4
        have hrow : (olds ++ news ++ zc).size = nc * L.size := by
          simp only [Array.size_append, hosz, hnsz, z1]
          rw [← Nat.add_mul, ← Nat.add_mul]
          congr 1
          omega
        have hle : (es.length + new.length) * L.size ≤ nc * L.size := Nat.mul_le_mul_right _ z3
        have hheap : ∀ c, c < w.heap.size → (w.drew.alloc (.cells (olds ++ news ++ zc) el)).heap[c]? = w.heap[c]? := fun c hc => heap_alloc_lt (w := w.drew) hc
        have hnew : (w.drew.alloc (.cells (olds ++ news ++ zc) el)).heap[w.heap.size]? = some (.cells (olds ++ news ++ zc) el) := heap_alloc_new' w.drew _
        obtain ⟨s1, s2⟩ := sim_own (D := m.D) (w' := w.drew.alloc (.cells (olds ++ news ++ zc) el)) d1 (k := k) (b := w.heap.size) (e := 0 + (es.length + new.length) * L.size) (mx := 0 + nc * L.size)
          (im' := fun c j => ρ.im c j ∨ (c = w.heap.size ∧ j < (es.length + new.length) * L.size)) (fun _ _ h => .inl h)
          (fun c j hi => cell_of_heap (hheap c (hs.im_lt hi))) (fun c j hi ⟨arr, T', hz⟩ => ⟨arr, T', (hheap c (hs.im_lt hi)).trans hz⟩) d5
          (fun c hc _ => ⟨hheap c hc, fun j => ⟨fun hi => hi.resolve_right fun e => by omega, .inl⟩⟩)
          (fun d i ho => by have := d1.own_size ho; omega) (fun c e' m' _ ho => by have := d1.ow_size ho; omega)
          ⟨by omega, ⟨_, _, hnew, by omega⟩, fun j hj hi => by
            rcases hi with hi | ⟨_, hi⟩
            · have := hs.im_lt hi; omega
            · omega⟩
          (fun c j hi => by
            rcases hi with hi | ⟨rfl, hj⟩
            · have hlt := hs.im_lt hi
              rw [cell_of_heap (hheap c hlt), frozen_of_heap (hheap c hlt)]
              exact hs.im c j hi
            · rw [cell_of_row hnew, frozen_of_row hnew]
              have : j < (olds ++ news ++ zc).size := by omega
              exact ⟨by rw [Array.getElem?_eq_getElem this]; rfl, rfl⟩)
          rfl rfl rfl (by simp) (.inl (Nat.le_refl _)) hreg (fun c arr T' fz hc => ⟨arr, fz, (hheap c (Array.getElem?_eq_some_iff.1 hc).1).trans hc, Nat.le_refl _⟩)
        have hcellold : ∀ q v, q < es.length * L.size → olds[q]? = some v → (olds ++ news ++ zc)[q]? = some v := by
          intro q v hq hv
          rw [Array.getElem?_append_left (by simp; omega), Array.getElem?_append_left (by omega)]
          exact hv
        have hcellnew : ∀ q v, q < new.length * L.size → news[q]? = some v → (olds ++ news ++ zc)[es.length * L.size + q]? = some v := by
          intro q v hq hv
          rw [Array.getElem?_append_left (by simp; omega), Array.getElem?_append_right (by omega), hosz, Nat.add_sub_cancel_left]
          exact hv
        have hsp : (es.length + new.length) * L.size = es.length * L.size + new.length * L.size := Nat.add_mul ..
        refine ⟨_, _, _, z4, hrd _ _ w.heap.size 0 s2.pers ⟨_, _, hnew⟩ (fun q v hq hv => ⟨.inr ⟨rfl, by omega⟩, by rw [cell_of_row hnew, Nat.zero_add]; exact hcellold q v hq hv⟩)
          (fun q v hq hv => ⟨.inr ⟨rfl, by omega⟩, by rw [cell_of_row hnew, Nat.zero_add]; exact hcellnew q v hq hv⟩) nc z3, htagk _ w.heap.size 0 nc (Ren.own_eq ..), htD, s1, d2.trans s2, he.drop k s2.pers (fun c hc => Ren.own_ne _ _ _ hc), d3⟩
      · -- in place
        have hown : ∃ b0 off0, ad = some ⟨b0, off0, none⟩ ∧ ρ.ow k = some (b0, off0 + es.length * L.size, off0 + cap * L.size) := by
          unfold tagApp at htag
          split at htag
          · split at htag
            · rename_i hfull
              have := c2 hfull
              omega
            · cases htag
          · injection htag with htag
            subst htag
            injection hk with hk
            subst hk
            rcases ht es o rfl ad es.length cap rfl with h1 | ⟨h1, b0, off0, s0, h2, h3, h4⟩
            · omega
            · have : s0 = L.size := by
                obtain ⟨e0, h5⟩ := List.exists_mem_of_ne_nil es h1
                exact (h3 e0 h5).symm.trans (hlen e0 h5)
              subst this
              exact ⟨b0, off0, h2, h4⟩
          · split at htag
            · rename_i hss
              injection htag with htag
              subst htag
              injection hk with hk
              subst hk
              rcases ht es o rfl ad es.length cap rfl with h1 | ⟨b0, off0, h2, h3, h4⟩
              · omega
              · rw [hss] at h4
                exact ⟨b0, off0, h2, h4⟩
            · cases htag
        obtain ⟨b0, off0, rfl, how⟩ := hown
        obtain ⟨r1, ⟨arr, T', r2, r3⟩, r4, r5⟩ := hs.ow.row _ _ _ _ how
        have hle : (es.length + new.length) * L.size ≤ cap * L.size := Nat.mul_le_mul_right _ hfit
        have hsp : (es.length + new.length) * L.size = es.length * L.size + new.length * L.size := Nat.add_mul ..
        have hrun := app_fits (ty := ty) hu hud0 hud hL hadd hfit r2 (off := off0) (by omega) hrel.one
        have hget : ∀ j, (laid arr (off0 + es.length * L.size) news.toList)[j]? = if off0 + es.length * L.size ≤ j ∧ j < off0 + es.length * L.size + news.size then news[j - (off0 + es.length * L.size)]? else arr[j]? := by
          intro j
          have := laid_get news.toList arr (off0 + es.length * L.size) j (by simp; omega)
          simpa using this
        have hnewrow : (World.setB w b0 (.cells (laid arr (off0 + es.length * L.size) news.toList) T' (0, 0))).heap[b0]? = some (.cells (laid arr (off0 + es.length * L.size) news.toList) T' (0, 0)) := setB_same r2
        have hoth : ∀ c, c ≠ b0 → (World.setB w b0 (.cells (laid arr (off0 + es.length * L.size) news.toList) T' (0, 0))).heap[c]? = w.heap[c]? := fun c hc => setB_other (fun e => hc e.symm)
        have himc : ∀ c j, ρ.im c j → (World.setB w b0 (.cells (laid arr (off0 + es.length * L.size) news.toList) T' (0, 0))).cell? ⟨c, j, none⟩ = w.cell? ⟨c, j, none⟩ := by
          intro c j hi
          by_cases hc : c = b0
          · subst hc
            have : j < off0 + es.length * L.size := Nat.lt_of_not_le fun hj => r4 j hj hi
            rw [cell_of_row hnewrow, cell_of_row r2, hget, if_neg (by omega)]
          · exact cell_of_heap (hoth c hc)
        obtain ⟨s1, s2⟩ := sim_own (D := m.D) (w' := World.setB w b0 (.cells (laid arr (off0 + es.length * L.size) news.toList) T' (0, 0))) d1 (k := k) (b := b0) (e := off0 + (es.length + new.length) * L.size) (mx := off0 + cap * L.size)
          (im' := fun c j => ρ.im c j ∨ (c = b0 ∧ off0 + es.length * L.size ≤ j ∧ j < off0 + (es.length + new.length) * L.size)) (fun _ _ h => .inl h)
          himc (fun c j hi ⟨arr', T2, hz⟩ => by
            by_cases hc : c = b0
            · subst hc; exact ⟨_, _, hnewrow⟩
            · exact ⟨arr', T2, (hoth c hc).trans hz⟩) d5
          (fun c _ hc => ⟨hoth c hc, fun j => ⟨fun hi => hi.resolve_right fun e => hc e.1, .inl⟩⟩)
          (d1.ow.row _ _ _ _ how).2.2.2 (fun c e' m' hc ho => hc (d1.ow.inj _ _ _ _ _ _ _ ho how))
          ⟨by omega, ⟨_, _, hnewrow, by rw [laid_size]; omega⟩, fun j hj hi => by
            rcases hi with hi | ⟨_, _, hi⟩
            · exact r4 j (by omega) hi
            · omega⟩
          (fun c j hi => by
            rcases hi with hi | ⟨rfl, hj1, hj2⟩
            · rw [himc c j hi]
              refine ⟨(hs.im c j hi).1, ?_⟩
              by_cases hc : c = b0
              · subst hc; exact frozen_of_row hnewrow j
              · rw [frozen_of_heap (hoth c hc)]; exact (hs.im c j hi).2
            · rw [cell_of_row hnewrow, frozen_of_row hnewrow]
              have : j < (laid arr (off0 + es.length * L.size) news.toList).size := by rw [laid_size]; omega
              simp [Array.getElem?_eq_getElem this])
          rfl rfl rfl (by simp) (.inr ⟨_, _, how⟩) hreg (fun c arr2 T2 fz hc => by
            by_cases hcb : c = b0
            · subst hcb
              rw [r2] at hc
              injection hc with hc
              injection hc with e1 e2 e3
              subst e1 e2
              exact ⟨_, _, hnewrow, by rw [laid_size]; exact Nat.le_refl _⟩
            · exact ⟨arr2, fz, (hoth c hcb).trans hc, Nat.le_refl _⟩)
        refine ⟨_, _, _, hrun, hrd _ _ b0 off0 s2.pers ⟨_, _, hnewrow⟩ (fun q v hq hv => ?_) (fun q v hq hv => ?_) cap hfit, htagk _ b0 off0 cap (Ren.own_eq ..), htD, s1, d2.trans s2, he.drop k s2.pers (fun c hc => Ren.own_ne _ _ _ hc), d3⟩
        · have hne : es ≠ [] := by intro e1; subst e1; simp at hq
          have hb0 := c4 hne
          injection hb0 with hb0
          injection hb0 with q1 q2
          subst q1 q2
          have hdm : q / L.size * L.size + q % L.size = q := by rw [Nat.mul_comm]; exact Nat.div_add_mod q L.size
          have h1 : q / L.size < es.length := (Nat.div_lt_iff_lt_mul hs0).2 hq
          have h2 : q % L.size < (es[q / L.size]'h1).length := by rw [hlen _ (List.getElem_mem h1)]; exact Nat.mod_lt _ hs0
          have hss : s' = L.size := (c3 _ (List.getElem_mem h1)).symm.trans (hlen _ (List.getElem_mem h1))
          rw [hss] at c5
          have g := c5 _ _ _ _ (List.getElem?_eq_getElem h1) (List.getElem?_eq_getElem h2)
          rw [hdm] at g
          obtain ⟨g1, g2, _⟩ := g
          refine ⟨.inl g1, ?_⟩
          rw [himc _ _ g1, g2]
          -- the old row's own reading
          have hl := hadd0.cells w rfl
          have hc0 : ∀ j, j < es.length * L.size → w.cell? ⟨b0, off0 + j, none⟩ = some (f (j / L.size) (j % L.size)) := by
            intro j hj
            have hdm' : j / L.size * L.size + j % L.size = j := by rw [Nat.mul_comm]; exact Nat.div_add_mod j L.size
            have h1' : j / L.size < es.length := (Nat.div_lt_iff_lt_mul hs0).2 hj
            have h2' : j % L.size < (es[j / L.size]'h1').length := by rw [hlen _ (List.getElem_mem h1')]; exact Nat.mod_lt _ hs0
            have g' := (c5 _ _ _ _ (List.getElem?_eq_getElem h1') (List.getElem?_eq_getElem h2')).2.1
            rw [hdm'] at g'
            exact g'
          have hl' : (Builtin.firstCells L.size es.length (.slice (some ⟨b0, off0, none⟩) es.length cap)).run P w = .ok ((List.range (es.length * L.size)).map fun j => f (j / L.size) (j % L.size)).toArray w := by
            simp [Builtin.firstCells, run_loadCells _ _ hc0]
          rw [hl'] at hl
          injection hl with hl _
          rw [← hl] at hv
          simp [hq] at hv
          rw [hv]
        · refine ⟨.inr ⟨rfl, by omega, by omega⟩, ?_⟩
          rw [cell_of_row hnewrow, hget, if_pos (by omega)]
          rw [← hv]
          congr 1
          omega

end
end
end Go.Ab
