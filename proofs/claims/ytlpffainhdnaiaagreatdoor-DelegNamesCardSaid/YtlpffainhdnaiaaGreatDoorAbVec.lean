import Derived.Test.YtlpffainhdnaiaaGreatDoorAbOp9
/- Slices that may be sorted: append on them. -/
namespace Go.Ab
open Go
noncomputable section

/-- 'append' on a slice that may be sorted: a block of its own. -/
def aAppendV (P : Program) (m : Mc) (T U : TypeId) (x y : AV) : Option (AV × Mc) :=
  match eltOf P T, P.underlying U with
  | some (none, L), some ud =>
    match newOf L.size y with
    | some new =>
      if appTy y ud && decide (0 < L.size) && decide (0 < L.bytes) then
        match x with
        | .sl [] .full => if new.length * L.bytes ≤ 70368744177664 then (if new.isEmpty then some (.sl [] .full, m) else some (.ms m.D m.fr.length 0 new.length L.size, m.push (.cells new.flatten []))) else none
        | .ms d i 0 n s =>
          if d = m.D ∧ s = L.size ∧ (n + new.length) * L.bytes ≤ 70368744177664 then
            match m.fr[i]? with
            | some (.cells cs []) => if cs.length = n * s then some (.ms m.D m.fr.length 0 (n + new.length) s, { m with fr := m.fr.set i .dead ++ [.cells (cs ++ new.flatten) []] }) else none
            | _ => none
          else none
        | _ => none
      else none
    | none => none
  | _, _ => none

section
variable {P : Program} {G : Nat → AV} {ρ ρ' : Ren} {S S' : St} {w w' : World} {m : Mc}

theorem flat_get : ∀ {new : List (List AV)} {s : Nat}, 0 < s → (∀ e ∈ new, e.length = s) → ∀ (q : Nat) (c : AV), new.flatten[q]? = some c → ∃ e, new[q / s]? = some e ∧ e[q % s]? = some c
  | [], s, _, _, q, c, h => by simp at h
  | e :: l, s, hs, hl, q, c, h => by
    have he := hl e (List.mem_cons_self ..)
    simp only [List.flatten_cons] at h
    rcases Nat.lt_or_ge q e.length with hq | hq
    · rw [List.getElem?_append_left hq] at h
      rw [Nat.div_eq_of_lt (by omega), Nat.mod_eq_of_lt (by omega)]
      exact ⟨e, rfl, h⟩
    · rw [List.getElem?_append_right hq] at h
      obtain ⟨e', h1, h2⟩ := flat_get hs (fun x hx => hl x (List.mem_cons_of_mem _ hx)) _ c h
      have : q = (q - s) + s := by omega
      refine ⟨e', ?_, ?_⟩
      · rw [this, Nat.add_div_right _ hs]
        rw [he] at h1
        simpa using h1
      · rw [this, Nat.add_mod_right]
        rw [he] at h2
        exact h2

theorem flat_len {s : Nat} : ∀ {new : List (List AV)}, (∀ e ∈ new, e.length = s) → new.flatten.length = new.length * s
  | [], _ => by simp
  | e :: l, h => by
    simp only [List.flatten_cons, List.length_append, List.length_cons, flat_len fun x hx => h x (List.mem_cons_of_mem _ hx), h e (List.mem_cons_self ..), Nat.add_mul, Nat.one_mul]
    omega

/-- A block is given up. -/
theorem sim_kill (h : Sim G ρ S w) (d i D : Nat) (hd : i < S.len d) : Sim G ρ (S.upd d i .dead) w ∧ Ext D ρ S w ρ (S.upd d i .dead) w := by
  obtain ⟨k, hk⟩ : ∃ k, S.blk d i = some k := by
    have hlt := St.lt_of_len hd
    unfold St.len at hd
    rw [List.getElem?_eq_getElem hlt] at hd
    simp at hd
    exact ⟨_, by unfold St.blk; rw [List.getElem?_eq_getElem hlt]; simp [List.getElem?_eq_getElem hd]; rfl⟩
  have hown : ∀ d' i' b, own ρ (S.upd d i .dead) d' i' = some b → own ρ S d' i' = some b := by
    intro d' i' b ho
    by_cases hne : d' = d ∧ i' = i
    · obtain ⟨rfl, rfl⟩ := hne
      unfold own at ho
      rw [St.blk_upd_same hk] at ho
      cases ho
    · unfold own at ho ⊢
      rw [St.blk_upd_other hne] at ho
      exact ho
  refine ⟨h.update (Pers.refl ρ w) d i (fun d' i' hne => St.blk_upd_other hne) (fun _ _ _ => rfl) (fun _ _ _ _ => rfl) (fun _ _ _ _ _ => ⟨rfl, fun _ => Iff.rfl⟩) (fun k' hk' => ?_) (fun b _ => ?_) (fun b d' i' _ _ he => ?_) ?_ h.im, Pers.refl ρ w, rfl, rfl, rfl, Nat.le_refl _, St.length_upd .., fun _ _ _ => rfl, fun b _ _ => ⟨rfl, fun _ => Iff.rfl⟩, fun b ho _ => ?_, fun _ _ _ => rfl, fun d' => Nat.le_of_eq (St.len_upd S d i .dead d').symm⟩
  · rw [St.blk_upd_same hk] at hk'
    injection hk' with hk'
    subst hk'
    trivial
  · rw [St.blk_upd_same hk]; rfl
  · unfold own at he
    rw [St.blk_upd_same hk] at he
    cases he
  · exact h.ow.same rfl (fun k b e m arr T _ hb => ⟨arr, T, hb, Nat.le_refl _⟩) (fun _ _ _ _ _ _ _ hi => hi) fun k b e m hk d' i' ho => ⟨d', i', hown d' i' b ho⟩
  · rcases ho with ⟨d', i', ho⟩ | ho
    · exact .inl ⟨d', i', hown d' i' b ho⟩
    · exact .inr ho

/-- A block has another place. -/
theorem sim_move (h : Sim G ρ S w) {d i b : Nat} {cs : List AV} (hk : S.blk d i = some (.cells cs [])) (hb : ρ.mb d i = some b) (D : Nat) :
    Sim G (ρ.add d (S.len d) b) ((S.upd d i .dead).push d (.cells cs [])) w ∧ Ext D ρ S w (ρ.add d (S.len d) b) ((S.upd d i .dead).push d (.cells cs [])) w := by
  have hi := St.len_of_blk hk
  have hlt := St.lt_of_len hi
  have ho0 : own ρ S d i = some b := own_of hb hk (by simp)
  obtain ⟨h1, h2⟩ := sim_kill h d i D hi
  have hlen : (S.upd d i .dead).len d = S.len d := St.len_upd ..
  have hnone : ρ.mb d (S.len d) = none := by
    cases hm : ρ.mb d (S.len d) with
    | none => rfl
    | some b' => have := h.dm d _ b' hm; rw [St.blk_len_none] at this; cases this
  have hnew : ((S.upd d i .dead).push d (.cells cs [])).blk d (S.len d) = some (.cells cs []) := by
    rw [← hlen]
    exact St.blk_push_new (by rw [St.length_upd]; exact hlt)
  have hoth : ∀ d' i', ¬ (d' = d ∧ i' = S.len d) → ((S.upd d i .dead).push d (.cells cs [])).blk d' i' = (S.upd d i .dead).blk d' i' := by
    intro d' i' hne
    rw [← hlen] at hne
    exact St.blk_push_other hne
  have hp : Pers ρ w (ρ.add d (S.len d) b) w := by
    refine ⟨fun _ _ h => h, fun _ _ _ => rfl, fun _ _ _ h => h, fun d' i' b' hb' => ?_, (Pers.refl ρ w).sz⟩
    by_cases he : d' = d ∧ i' = S.len d
    · obtain ⟨rfl, rfl⟩ := he; rw [hnone] at hb'; cases hb'
    · rw [Ren.add_other ρ he]; exact hb'
  have hno : ∀ d' i', own ρ (S.upd d i .dead) d' i' ≠ some b := by
    intro d' i' ho
    by_cases hne : d' = d ∧ i' = i
    · obtain ⟨rfl, rfl⟩ := hne
      unfold own at ho
      rw [St.blk_upd_same hk] at ho
      cases ho
    · have : own ρ S d' i' = some b := by
        unfold own at ho ⊢
        rw [St.blk_upd_other hne] at ho
        exact ho
      exact hne (h.inj _ _ _ _ _ this ho0)
  have hownb : ∀ d' i' c, own (ρ.add d (S.len d) b) ((S.upd d i .dead).push d (.cells cs [])) d' i' = some c → ∃ d'' i'', own ρ S d'' i'' = some c := by
    intro d' i' c ho
    by_cases he : d' = d ∧ i' = S.len d
    · obtain ⟨rfl, rfl⟩ := he
      have := (own_blk ho).1
      rw [Ren.add_same] at this
      injection this with this
      exact ⟨d', i, this ▸ ho0⟩
    · refine ⟨d', i', ?_⟩
      have h3 : own ρ (S.upd d i .dead) d' i' = some c := by
        rw [← ho]
        unfold own
        rw [hoth d' i' he, Ren.add_other ρ he]
      by_cases hne : d' = d ∧ i' = i
      · obtain ⟨rfl, rfl⟩ := hne
        unfold own at h3
        rw [St.blk_upd_same hk] at h3
        cases h3
      · unfold own at h3 ⊢
        rw [St.blk_upd_other hne] at h3
        exact h3
  have hsim : Sim G (ρ.add d (S.len d) b) ((S.upd d i .dead).push d (.cells cs [])) w := by
    refine h1.update hp d (S.len d) hoth (fun d' i' hne => Ren.add_other ρ hne) (fun _ _ _ _ => rfl) (fun c d' i' _ ho => ⟨rfl, fun j => Iff.rfl⟩) (fun k' hk' => ?_) (fun c _ => by rw [hnew]; rfl) (fun c d' i' _ ho he => ?_) ?_ h.im
    · rw [hnew] at hk'
      injection hk' with hk'
      subst hk'
      obtain ⟨q1, arr, T, q2, q3, q4⟩ := h.ok d i _ hk b hb
      intro b' hb'
      rw [Ren.add_same] at hb'
      injection hb' with hb'
      subst hb'
      refine ⟨q1, arr, T, q2, q3, fun j c hc => ?_⟩
      obtain ⟨a1, a0, v, a2, a3, a4, a5⟩ := q4 j c hc
      exact ⟨a1, by simp [tagAt, Tag.of], v, a2, a3, a4.pers hp, by simp [tagAt, TagOk]⟩
    · have := (own_blk he).1
      rw [Ren.add_same] at this
      injection this with this
      subst this
      exact hno d' i' ho
    · exact h.ow.same rfl (fun k b e m arr T _ hb => ⟨arr, T, hb, Nat.le_refl _⟩) (fun _ _ _ _ _ _ _ hi => hi) fun k b e m hk d' i' ho => hownb d' i' b ho
  refine ⟨hsim, hp, rfl, rfl, rfl, Nat.le_refl _, by rw [St.length_push, St.length_upd], fun _ _ _ => rfl, fun c _ _ => ⟨rfl, fun _ => Iff.rfl⟩, fun c ho _ => ?_, fun d' i' hi' => ?_, fun d' => ?_⟩
  · rcases ho with ⟨d', i', ho⟩ | ho
    · exact .inl (hownb d' i' c ho)
    · exact .inr ho
  · refine Ren.add_other ρ ?_
    rintro ⟨rfl, rfl⟩
    omega
  · have := St.len_push (S.upd d i .dead) d (.cells cs []) d'
    rw [St.len_upd] at this
    exact this

theorem vec_st (m : Mc) {i : Nat} (cs : List AV) : ({ m with fr := m.fr.set i .dead ++ [.cells cs []] } : Mc).st = (m.st.upd m.D i .dead).push m.D (.cells cs []) := by
  have h1 : (m.upd m.D i .dead) = { m with fr := m.fr.set i .dead } := by simp [Mc.upd, Mc.D]
  rw [← Mc.st_upd, h1]
  exact Mc.st_push { m with fr := m.fr.set i .dead } (.cells cs [])

theorem rel_hyg (hs : Sim G ρ m.st w) {s : Nat} (hs0 : 0 < s) {news : Array Value} {new : List (List AV)} (hr : RowRel ρ w s news new) {q : Nat} {c : AV} (h : new.flatten[q]? = some c) :
    AV.rin (hyg m.D) c = true ∧ ∃ v, news[q]? = some v ∧ v.oneCell' = true ∧ Rep ρ w v c := by
  obtain ⟨e, h1, h2⟩ := flat_get hs0 hr.len q c h
  obtain ⟨v, h3, _, h5, h6⟩ := hr.rel _ _ _ _ h1 h2
  have : q / s * s + q % s = q := by rw [Nat.mul_comm]; exact Nat.div_add_mod q s
  rw [this] at h3
  exact ⟨h6.hyg hs, v, h3, h5, h6⟩

theorem appendV_sound (hs : Sim G ρ m.st w) {T U : TypeId} {x y : Value} {xa ya : AV} (hx : Rep ρ w x xa) (hy : Rep ρ w y ya) {v : AV} {m' : Mc} (h : aAppendV P m T U xa ya = some (v, m')) (ty : TypeId) :
    Step P G m.D ρ m.st w (Builtin.append_ #[T, U] ty #[x, y]) v m'.st ∧ m'.base.length = m.base.length := by
  unfold aAppendV at h
  split at h
  case h_2 => cases h
  rename_i L ud hel hud0
  obtain ⟨el, hu, hL⟩ := eltOf_slice hel
  split at h
  case h_2 => cases h
  rename_i new hnew
  split at h
  case isFalse => cases h
  rename_i hc
  simp only [Bool.and_eq_true, decide_eq_true_eq] at hc
  obtain ⟨⟨hty, hs0⟩, hb0⟩ := hc
  have hud : (∃ e', ud = .slice e') ∨ ud = .string := by
    unfold appTy at hty
    split at hty
    · exact .inl ⟨_, rfl⟩
    · exact .inr rfl
    · cases hty
  obtain ⟨news, hadd, hrel⟩ := added_of (P := P) hy hs0 hnew
  have hnsz : news.size = new.length * L.size := hadd.size
  have hd : m.D < m.st.length := by rw [Mc.st_length]; exact Nat.lt_succ_self _
  have hfl := flat_len hrel.len
  split at h
  · split at h
    case isFalse => cases h
    rename_i hby
    obtain ⟨ad, cap, s', b, off, f, rfl, c1, c2, c3, c4, c5, c6⟩ := hx.sl_inv
    have hcap : cap = 0 := c2 rfl
    subst hcap
    split at h
    · rename_i hemp
      injection h with h
      injection h with e1 e2
      subst e1 e2
      have hnil : new = [] := by simpa using hemp
      subst hnil
      exact ⟨⟨_, w, ρ, app_none hu hud0 hud hL hadd (Nat.le_refl _) ty, hx, hs, Ext.refl .., rfl⟩, rfl⟩
    · rename_i hemp
      injection h with h
      injection h with e1 e2
      subst e1 e2
      have hpos : 0 < new.length := by
        rcases Nat.eq_zero_or_pos new.length with h0 | h0
        · have := List.eq_nil_of_length_eq_zero h0
          subst this
          simp at hemp
        · exact h0
      have hadd0 : (∀ w' : World, w'.heap = w.heap → (Builtin.firstCells L.size ([] : List (List AV)).length (.slice ad ([] : List (List AV)).length 0)).run P w' = .ok #[] w') := by
        intro w' _
        cases ad <;> simp [Builtin.firstCells, loadCells, loadCellsFrom]
      obtain ⟨zc, z1, z2, z3, z4⟩ := app_grows hu hud0 hud hL hadd hadd0 (by simpa using hpos) hb0 (by simpa using Nat.le_trans hby (by decide)) ty
      generalize grownCap w _ 0 el = nc at z1 z3 z4
      simp only [List.length_nil, Nat.zero_add] at z1 z3 z4
      have hs1 : Sim G ρ m.st w.drew := sim_heap hs rfl
      obtain ⟨g1, g2⟩ := sim_alloc (d := m.D) (D := m.D) hs1 hd new.flatten (#[] ++ news ++ zc) el (by rw [hfl]; simp only [Array.size_append, Array.size_empty]; omega) (fun j c hj => by
        obtain ⟨q1, v, q2, q3, q4⟩ := rel_hyg hs hs0 hrel hj
        have hlt := (Array.getElem?_eq_some_iff.1 q2).1
        refine ⟨q1, v, ?_, q3, q4.pers (pers_drew ρ w)⟩
        rw [Array.getElem?_append_left (by simpa using hlt)]
        simpa using q2)
      rw [← Mc.st_push, Mc.st_len] at g1 g2
      refine ⟨⟨_, _, _, z4, ?_, g1, (ext_drew m.D ρ m.st w).trans g2, rfl⟩, rfl⟩
      refine .ms 0 _ nc _ (Ren.add_same ..) z3 ⟨_, el, (0, 0), heap_alloc_new' w.drew _, ?_⟩
      have : (new.length + (nc - new.length)) * L.size = nc * L.size := by congr 1; omega
      rw [Nat.add_mul] at this
      simp only [Array.size_append, Array.size_empty, hnsz, z1]
      omega
  · rename_i d i n s
    split at h
    case isFalse => cases h
    rename_i hcond
    obtain ⟨rfl, rfl, hby⟩ := hcond
    split at h
    case h_2 => cases h
    rename_i cs hblk
    split at h
    case isFalse => cases h
    rename_i hcs
    injection h with h
    injection h with e1 e2
    subst e1 e2
    obtain ⟨b, cap, hb, rfl, hnc, arr0, T0, fz0, hrow0, hsz0⟩ := hx.ms_inv
    have hk : m.st.blk m.D i = some (.cells cs []) := by rw [Mc.st_blk]; unfold Mc.blk Mc.D; rw [if_pos rfl]; exact hblk
    obtain ⟨q1, arr, T', q2, q3, q4⟩ := hs.ok m.D i _ hk b hb
    rw [hrow0] at q2
    injection q2 with q2
    injection q2 with e1 e2 e3
    subst e1 e2 e3
    rw [Nat.zero_add] at hsz0
    have hi := St.len_of_blk hk
    have hcell : ∀ j, j < n * L.size → w.cell? ⟨b, 0 + j, none⟩ = some (arr0.getD (0 + j) .nilFunc) := by
      intro j hj
      rw [cell_of_row hrow0]
      simp [Array.getD_eq_getD_getElem?, Array.getElem?_eq_getElem (show j < arr0.size by omega)]
    refine ⟨?_, rfl⟩
    rw [vec_st]
    rcases Nat.eq_zero_or_pos new.length with hn0 | hnpos
    · have hnil : new = [] := List.eq_nil_of_length_eq_zero hn0
      subst hnil
      obtain ⟨g1, g2⟩ := sim_move hs hk hb m.D
      simp only [List.flatten_nil, List.append_nil, List.length_nil, Nat.add_zero]
      rw [Mc.st_len] at g1 g2
      exact ⟨_, w, _, app_none hu hud0 hud hL hadd hnc ty, .ms 0 n cap _ (Ren.add_same ..) hnc ⟨arr0, T0, (0, 0), hrow0, by omega⟩, g1, g2, rfl⟩
    rcases Nat.lt_or_ge cap (n + new.length) with hg | hfit
    · -- a new row
      have hadd0 : ∀ w' : World, w'.heap = w.heap → (Builtin.firstCells L.size n (.slice (some ⟨b, 0, none⟩) n cap)).run P w' = .ok ((List.range (n * L.size)).map fun j => arr0.getD (0 + j) .nilFunc).toArray w' := by
        intro w' hw
        have hc' : ∀ j, j < n * L.size → w'.cell? ⟨b, 0 + j, none⟩ = some (arr0.getD (0 + j) .nilFunc) := fun j hj => (cell_of_heap (w := w) (w' := w') (by rw [hw])).trans (hcell j hj)
        simp [Builtin.firstCells, run_loadCells _ _ hc']
      obtain ⟨zc, z1, z2, z3, z4⟩ := app_grows hu hud0 hud hL hadd hadd0 hg hb0 (Nat.le_trans hby (by decide)) ty
      generalize grownCap w _ cap el = nc at z1 z3 z4
      obtain ⟨k1, k2⟩ := sim_kill hs m.D i m.D hi
      have hs1 : Sim G ρ (m.st.upd m.D i .dead) w.drew := sim_heap k1 rfl
      obtain ⟨g1, g2⟩ := sim_alloc (d := m.D) (D := m.D) hs1 (by rw [St.length_upd]; exact hd) (cs ++ new.flatten) (((List.range (n * L.size)).map fun j => arr0.getD (0 + j) .nilFunc).toArray ++ news ++ zc) el (by rw [List.length_append, hfl]; simp only [Array.size_append, List.size_toArray, List.length_map, List.length_range]; omega) (fun j c hj => by
        rcases Nat.lt_or_ge j cs.length with hj1 | hj1
        · rw [List.getElem?_append_left hj1] at hj
          obtain ⟨a1, _, v, a2, a3, a4, _⟩ := q4 j c hj
          refine ⟨a1, v, ?_, a3, a4.pers (pers_drew ρ w)⟩
          rw [Array.getElem?_append_left (by simp; omega), Array.getElem?_append_left (by simp; omega)]
          have : j < n * L.size := by omega
          simp [this, Array.getD_eq_getD_getElem?, a2]
        · rw [List.getElem?_append_right hj1] at hj
          obtain ⟨a1, v, a2, a3, a4⟩ := rel_hyg hs hs0 hrel hj
          have hlt := (Array.getElem?_eq_some_iff.1 a2).1
          refine ⟨a1, v, ?_, a3, a4.pers (pers_drew ρ w)⟩
          rw [Array.getElem?_append_left (by simp; omega), Array.getElem?_append_right (by simp; omega)]
          simp only [List.size_toArray, List.length_map, List.length_range]
          rw [← hcs]
          exact a2)
      rw [St.len_upd, Mc.st_len] at g1 g2
      refine ⟨_, _, _, z4, ?_, g1, (k2.trans (ext_drew m.D ρ _ w)).trans g2, rfl⟩
      refine .ms 0 _ nc _ (Ren.add_same ..) z3 ⟨_, el, (0, 0), heap_alloc_new' w.drew _, ?_⟩
      have : ((n + new.length) + (nc - (n + new.length))) * L.size = nc * L.size := by congr 1; omega
      rw [Nat.add_mul, Nat.add_mul] at this
      simp only [Array.size_append, List.size_toArray, List.length_map, List.length_range, hnsz, z1]
      omega
    · -- in place
      have hfit2 : (n + new.length) * L.size ≤ cap * L.size := Nat.mul_le_mul_right _ hfit
      rw [Nat.add_mul] at hfit2
      have hrun := app_fits (ty := ty) hu hud0 hud hL hadd hfit hrow0 (off := 0) (by omega) hrel.one
      obtain ⟨u1, u2⟩ := sim_upd (D := m.D) hs hk (by simp) hb (.cells (cs ++ new.flatten) []) (.cells (laid arr0 (0 + n * L.size) news.toList) T0 (0, 0)) (fun arr T fz hr => by
        rw [hrow0] at hr
        injection hr with hr
        injection hr with e1 e2 e3
        subst e1 e2
        exact ⟨_, _, rfl, by rw [laid_size]; exact Nat.le_refl _⟩) (Moved.id ρ) (fun _ _ _ _ => rfl) (fun _ _ _ => rfl) (fun w' hp hw' b' hb' => by
        simp only [hb] at hb'
        injection hb' with hb'
        subst hb'
        refine ⟨q1, _, _, hw', by rw [laid_size, List.length_append, hfl]; omega, fun j c hj => ?_⟩
        have hget := laid_get news.toList arr0 (0 + n * L.size) j (by simp; omega)
        rcases Nat.lt_or_ge j cs.length with hj1 | hj1
        · rw [List.getElem?_append_left hj1] at hj
          obtain ⟨a1, _, v, a2, a3, a4, _⟩ := q4 j c hj
          refine ⟨a1, by simp [tagAt, Tag.of], v, ?_, a3, a4.pers hp, by simp [tagAt, TagOk]⟩
          rw [hget, if_neg (by omega)]
          exact a2
        · rw [List.getElem?_append_right hj1] at hj
          obtain ⟨a1, v, a2, a3, a4⟩ := rel_hyg hs hs0 hrel hj
          have hlt := (Array.getElem?_eq_some_iff.1 a2).1
          refine ⟨a1, by simp [tagAt, Tag.of], v, ?_, a3, a4.pers hp, by simp [tagAt, TagOk]⟩
          rw [hget, if_pos (by simp; omega)]
          rw [show j - (0 + n * L.size) = j - cs.length from by omega]
          simpa using a2)
      obtain ⟨g1, g2⟩ := sim_move u1 (St.blk_upd_same hk) hb m.D
      rw [St.len_upd, Mc.st_len] at g1 g2
      have e1 : (m.st.upd m.D i (.cells (cs ++ new.flatten) [])).upd m.D i .dead = m.st.upd m.D i .dead := by
        unfold St.upd
        rw [List.modify_modify_eq]
        congr 1
        funext fr
        simp
      rw [e1] at g1 g2
      exact ⟨_, _, _, hrun, .ms 0 _ cap _ (Ren.add_same ..) hfit ⟨_, T0, (0, 0), setB_same hrow0, by rw [laid_size]; omega⟩, g1, u2.trans g2, rfl⟩
  · cases h

end

/-- 'make' of a slice that nobody writes to. -/
def aMakeImm (P : Program) (T : TypeId) (l c : AV) : Option AV :=
  match eltOf P T, l, c with
  | some (none, L), .int _ l, .int _ c =>
    if 0 ≤ l ∧ l = c ∧ c * L.bytes ≤ 70368744177664 ∧ c ≤ 4611686018427387904 ∧ L.zero.length = L.size then some (.sl (chunks L.size l.toNat ((reps l.toNat L.zero).map AV.setl)) .full) else none
  | _, _, _ => none

/-- A literal's slice that may be written to. -/
def aBuildMut (P : Program) (m : Mc) (t : TypeId) (len : Nat) (parts : List (Nat × AV)) : Option (AV × Mc) :=
  match eltOf P t with
  | some (none, L) =>
    if len * L.size > 65536 then none else
    match aFill (fun i => some (i * L.size, L.size)) (reps len L.zero) parts with
    | some cells => some (.ms m.D m.fr.length 0 len L.size, m.push (.cells cells []))
    | none => none
  | _ => none

section
variable {P : Program} {G : Nat → AV} {ρ ρ' : Ren} {S S' : St} {w w' : World} {m : Mc}

theorem fill_len {f : Nat → Option (Nat × Nat)} : ∀ (l : List (Nat × AV)) (cs cs' : List AV), aFill f cs l = some cs' → cs'.length = cs.length := by
  intro l
  induction l with
  | nil => intro cs cs' h; simp [aFill] at h; rw [h]
  | cons p l ih =>
    intro cs cs' h
    simp only [aFill] at h
    split at h
    · cases h
    · split at h
      · rw [ih _ _ h, splice_length]
      · cases h

theorem row_sl {cs' : List AV} {A' : Array Value} {n s : Nat} {e : TypeId} (hA : Cells ρ w A' cs') (hcl : cs'.length = n * s) (hs0 : ∀ b j, ρ.im b j → b < w.heap.size) (hnr : AV.rinL (fun _ _ => false) cs' = true) :
    Rep (ρ.addIm w.heap.size A'.size) (w.alloc (.cells A' e)) (.slice (some ⟨w.heap.size, 0, none⟩) n n) (.sl (chunks s n (cs'.map AV.setl)) .full) := by
  obtain ⟨a1, a2, a3⟩ := hA
  have hn : ∀ {j : Nat} {c : AV}, cs'[j]? = some c → c.nref = true := fun hj => AV.rinL_get hnr hj
  have hp : Pers ρ w (ρ.addIm w.heap.size A'.size) (w.alloc (.cells A' e)) := by
    have hp0 := pers_alloc (ρ := ρ) (w := w) (.cells A' e) hs0
    exact ⟨fun b j hi => Or.inl hi, hp0.cell, hp0.zf, hp0.mb, hp0.sz⟩
  have key := sl_of_row (ρ := ρ.addIm w.heap.size A'.size) (w := w.alloc (.cells A' e)) (b := w.heap.size) (off := 0) (s := s) (cap := n) (es := chunks s n (cs'.map AV.setl)) (o := .full)
    (by rw [chunks_length]; exact Nat.le_refl _) (fun _ => by rw [chunks_length]) (fun x hx => by
      obtain ⟨i, hi⟩ := List.mem_iff_getElem?.1 hx
      obtain ⟨q1, rfl⟩ := chunks_get _ _ _ _ _ hi
      have : (i + 1) * s ≤ n * s := Nat.mul_le_mul_right _ q1
      rw [Nat.add_mul] at this
      simp [hcl]
      omega) ⟨A', e, heap_alloc_new' w _⟩ (fun i x j c hi hj => by
      obtain ⟨q1, rfl⟩ := chunks_get _ _ _ _ _ hi
      rw [List.getElem?_take] at hj
      split at hj
      · rename_i hjs
        rw [List.getElem?_drop, List.getElem?_map] at hj
        cases hc : cs'[i * s + j]? with
        | none => simp [hc] at hj
        | some c0 =>
          simp [hc] at hj
          subst hj
          have hlt : i * s + j < A'.size := by rw [a1]; exact (List.getElem?_eq_some_iff.1 hc).1
          have hv := Array.getElem?_eq_getElem hlt
          refine ⟨.inr ⟨rfl, by omega⟩, A'[i * s + j], ?_, setl_nref (hn hc), a2 _ _ hv, (setl_rep (a3 _ _ _ hv hc)).pers hp⟩
          rw [cell_of_row (heap_alloc_new' w _), Nat.zero_add]
          exact hv
      · cases hj)
  rw [chunks_length] at key
  exact key

theorem makeImm_sound (hs : Sim G ρ m.st w) {T : TypeId} {l c : Value} {la ca : AV} (hl : Rep ρ w l la) (hc : Rep ρ w c ca) {v : AV} (h : aMakeImm P T la ca = some v) : Step P G m.D ρ m.st w (Instr.makeSlice T l c) v m.st := by
  unfold aMakeImm at h
  split at h
  case h_2 => cases h
  rename_i L k1 l k2 c hel
  obtain ⟨el, hu, hL⟩ := eltOf_slice hel
  split at h
  case isFalse => cases h
  rename_i hcond
  obtain ⟨h1, h2, h3, h4, h5⟩ := hcond
  injection h with h
  subst h
  subst h2
  have e1 := hl.int_inv
  have e2 := hc.int_inv
  subst e1 e2
  obtain ⟨n, rfl⟩ : ∃ n : Nat, l = n := ⟨l.toNat, (Int.toNat_of_nonneg h1).symm⟩
  obtain ⟨A, a1, a2, a3⟩ := make_row (w := w) (ρ := ρ) (k1 := k1) (k2 := k2) (n := n) (cc := n) hu hL (Nat.le_refl n) h3 h4 h5
  obtain ⟨s1, s2⟩ := sim_addIm (D := m.D) hs A el A.size (Nat.le_refl _)
  refine ⟨_, _, _, a3, ?_, s1, s2, rfl⟩
  have hcl : (reps n L.zero).length = n * L.size := by rw [reps_length, h5]
  refine row_sl a1 hcl (fun b j hi => hs.im_lt hi) (AV.rinL_of fun j c hj => ?_)
  have hzn : ∀ c ∈ L.zero, AV.rin (fun _ _ => false) c = true := by
    obtain ⟨z, _, _, _, z4⟩ := lay_zero (w := w) hL
    intro c hc
    rw [z4] at hc
    obtain ⟨v, _, rfl⟩ := List.mem_map.1 hc
    exact av1_nref v
  have hm := List.mem_of_getElem? hj
  simp only [reps, List.mem_flatten, List.mem_replicate] at hm
  obtain ⟨x, ⟨_, rfl⟩, hx⟩ := hm
  exact hzn c hx

theorem buildMut_sound (hs : Sim G ρ m.st w) {t : TypeId} {ρo : Operand → Value} {av : Operand → AV} (hR : ∀ x, Rep ρ w (ρo x) (av x)) {len : Nat} {parts : Array (Nat × Operand)} {v : AV} {m' : Mc} (h : aBuildMut P m t len (parts.toList.map fun p => (p.1, av p.2)) = some (v, m')) :
    Step P G m.D ρ m.st w (Instr.buildSlice t len (parts.map fun (i, x) => (i, ρo x))) v m'.st ∧ m'.base.length = m.base.length := by
  unfold aBuildMut at h
  split at h
  case h_2 => cases h
  rename_i L hel
  obtain ⟨e, hu, hL⟩ := eltOf_slice hel
  split at h
  · cases h
  · rename_i hbig
    split at h
    case h_2 => cases h
    rename_i cs' hf
    injection h with h
    injection h with e1 e2
    subst e1 e2
    obtain ⟨z, h1, h2, h3, h4⟩ := lay_zero (w := w) hL
    have hz : Cells ρ w z.cells L.zero := by rw [h4]; exact cells_av1 h3
    have hrow : ∃ zero : Array Value, zero = (if len * L.size = 0 then #[] else z.cells) ∧ Cells ρ w ((Array.range (len * L.size)).map (zero[· % zero.size]!)) (reps len L.zero) := by
      by_cases h0 : len * L.size = 0
      · refine ⟨#[], by rw [if_pos h0], ?_⟩
        rw [h0]
        have e0 : reps len L.zero = [] := by
          apply List.eq_nil_of_length_eq_zero
          rw [reps_length, lay_zlen hL, h0]
        rw [e0]
        exact ⟨by simp, by simp, by simp⟩
      · refine ⟨z.cells, by rw [if_neg h0], ?_⟩
        rw [← h2]
        exact cells_reps hz len
    obtain ⟨zero, r1, r2⟩ := hrow
    have hparts : (parts.map fun (i, x) => (i, ρo x)).toList = parts.toList.map fun p => (p.1, ρo p.2) := by simp
    obtain ⟨A', f1, f2⟩ := fill_run (fun i => rfl) hR parts.toList _ _ cs' r2 hf
    have hcl : cs'.length = len * L.size := by rw [fill_len _ _ _ hf, reps_length, lay_zlen hL]
    obtain ⟨ρ', g1, g2, g3, g4⟩ := new_cells hs f2 e
    refine ⟨⟨.slice (some ⟨w.heap.size, 0, none⟩) len len, _, _, ?_, ?_, g2, g3, g4⟩, rfl⟩
    · have hbig' : ¬ (len * L.size > 2 ^ 24) := by omega
      have hfill : Instr.fill (fun i => some (i * L.size, L.size)) ((Array.range (len * L.size)).map (zero[· % zero.size]!)) (parts.toList.map fun p => (p.1, ρo p.2)) = some A' := f1
      unfold Instr.buildSlice
      simp only [Sem.run_bind, run_underlying hu, Result.andThen_ok, lay_size hL, hbig', if_false]
      by_cases h0 : len * L.size = 0
      · rw [if_pos h0] at r1
        subst r1
        rw [if_pos h0]
        simp only [Sem.run_bind, Sem.run_pure, Result.andThen_ok, hparts, hfill, newRow]
        simp
      · rw [if_neg h0] at r1
        subst r1
        rw [if_neg h0]
        simp only [Sem.run_bind, Sem.run_pure, Result.andThen_ok, h1, hparts, hfill, newRow]
        simp
    · obtain ⟨b, hb, eb⟩ := g1.mp_inv
      injection eb with eb
      injection eb with eb
      injection eb with eb
      subst eb
      exact .ms 0 _ len _ hb (Nat.le_refl _) ⟨A', e, (0, 0), heap_alloc_new' .., by rw [f2.1, hcl]; omega⟩

end
end
end Go.Ab
