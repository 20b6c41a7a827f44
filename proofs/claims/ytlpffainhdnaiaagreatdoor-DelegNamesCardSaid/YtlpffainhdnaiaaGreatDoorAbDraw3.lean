import Derived.Test.YtlpffainhdnaiaaGreatDoorAbDraw2
/- Open regions, on the side of our machine alone: which operations may pass which; one that is ready comes first. -/
namespace Go.Ab
open Go
noncomputable section

section
variable {c : Cfg} {body : Body} {P : Program} {D : Nat}

theorem tagOf_drop (d : Dr) (ev : Operand → AV) (et : Operand → Tag) (o : Oper) : tagOf ev (fun x => d.tag (et x)) o = d.tag (tagOf ev et o) := by
  unfold tagOf
  split
  · rfl
  · rfl
  · split
    · split <;> rfl
    · exact (Dr.tag_no d).symm
  · exact (Dr.tag_no d).symm

theorem light0 {o : Oper} (h : opKind o = 0) (q : DQ) : Light (c.opD body D q) o := by
  refine ⟨fun ev et m r hr => ?_⟩
  unfold Cfg.opD at hr
  split at hr
  · split at hr
    · injection hr with hr; subst hr; exact ⟨rfl, rfl⟩
    · cases hr
  · rename_i ho; unfold opKind at h; rw [ho] at h; cases h
  · rename_i ho; unfold opKind at h; rw [ho] at h; cases h
  · rename_i ho; unfold opKind at h; rw [ho] at h; cases h
  · split at hr
    · cases hr
    · obtain ⟨v, _, e⟩ := Option.map_eq_some_iff.1 hr; subst e; exact ⟨rfl, rfl⟩
  · rename_i ho; unfold opKind at h; rw [ho] at h; cases h
  · rename_i ho; unfold opKind at h; rw [ho] at h; cases h
  · rw [if_pos (by simp [h])] at hr
    obtain ⟨v, _, e⟩ := Option.map_eq_some_iff.1 hr; subst e; exact ⟨rfl, rfl⟩

theorem opD_zero {o : Oper} (h : opKind o = 0) (q : DQ) (ev : Operand → AV) (et : Operand → Tag) (m : Mc) :
    c.opD body D q ev et m o = match o.op with
      | .alloc T => match layOf c.P T with | some _ => some ((.no, .mp D q.i 0), .keep, m) | none => none
      | .buildSlice t len parts => if c.wri o then none else (aBuildSlice c.P t len (parts.toList.map fun p => (p.1, ev p.2))).map fun v => ((.no, v), .keep, m)
      | _ => (aPure c.P o ev).map fun v => ((tagOf ev et o, v), .keep, m) := by
  unfold Cfg.opD
  split
  · rename_i ho; rw [ho]; rfl
  · rename_i ho; unfold opKind at h; rw [ho] at h; cases h
  · rename_i ho; unfold opKind at h; rw [ho] at h; cases h
  · rename_i ho; unfold opKind at h; rw [ho] at h; cases h
  · rename_i ho; rw [ho]
  · rename_i ho; unfold opKind at h; rw [ho] at h; cases h
  · rename_i ho; unfold opKind at h; rw [ho] at h; cases h
  · rename_i h1 h2 h3 h4 h5 h6 h7
    rw [if_pos (by simp [h])]
    split
    · rename_i ho; exact absurd ho (h1 _)
    · rename_i ho; exact absurd ho (h5 _ _ _)
    · rfl

theorem pass0 {o : Oper} (h : opKind o = 0) (q : DQ) (d : Dr) (m m' : Mc) : Pass (c.opD body D q) o d m m' := by
  intro ev et
  rw [opD_zero h, opD_zero h]
  split
  · split <;> simp [Dr.tag_no]
  · rename_i t n ps _
    split
    · rfl
    · cases aBuildSlice c.P t n (ps.toList.map fun p => (p.1, ev p.2)) <;> simp [Dr.tag_no]
  · cases aPure c.P o ev <;> simp [tagOf_drop]

theorem light1 {o : Oper} (h : opKind o = 1) (q : DQ) : Light (c.opD body D q) o := by
  refine ⟨fun ev et m r hr => ?_⟩
  obtain ⟨dst, op, type, pos, after, guard⟩ := o
  cases op <;> try (first | cases h | skip)
  case load T x =>
    simp only [Cfg.opD] at hr
    split at hr
    · cases hr
    · obtain ⟨v, _, e⟩ := Option.map_eq_some_iff.1 hr; subst e; exact ⟨rfl, rfl⟩
  case call cl =>
    obtain ⟨callee, args, ts⟩ := cl
    cases callee with
    | builtin b => cases b <;> cases h
    | _ => cases h

theorem eff3 {o : Oper} (h : opKind o = 3) (q : DQ) (hr0 : q.ref = false) {ev : Operand → AV} {et : Operand → Tag} {m : Mc} {r : (Tag × AV) × Dr × Mc} (hr : c.opD body D q ev et m o = some r) :
    r.2.2 = m ∧ (r.2.1 = .keep ∨ (r.2.1 = .calm ∧ q.peek = true)) := by
  obtain ⟨dst, op, type, pos, after, guard⟩ := o
  cases op <;> try (first | cases h | skip)
  case call cl =>
    obtain ⟨callee, args, ts⟩ := cl
    cases callee with
    | builtin b => cases b <;> cases h
    | invoke r q => cases h
    | value f =>
      simp only [Cfg.opD, hr0, Bool.false_eq_true, if_false] at hr
      obtain ⟨ga, _, hr⟩ := Option.bind_eq_some_iff.1 hr
      split at hr
      · cases hr
      · split at hr
        · obtain ⟨v, hv, e⟩ := Option.map_eq_some_iff.1 hr
          subst e
          unfold Cfg.iso at hv
          obtain ⟨x, _, hv⟩ := Option.bind_eq_some_iff.1 hv
          split at hv
          · injection hv with hv; subst hv; exact ⟨rfl, .inl rfl⟩
          · cases hv
        · split at hr
          · rename_i hpk
            obtain ⟨v, hv, e⟩ := Option.map_eq_some_iff.1 hr
            subst e
            unfold Cfg.peek at hv
            obtain ⟨x, _, hv⟩ := Option.bind_eq_some_iff.1 hv
            split at hv
            · injection hv with hv; subst hv; exact ⟨rfl, .inr ⟨rfl, hpk⟩⟩
            · cases hv
          · cases hr

theorem Mc.blk_upd (m : Mc) {d i : Nat} {k k' : Blk} (h : m.blk d i = some k) (d' i' : Nat) : (m.upd d i k').blk d' i' = if d' = d ∧ i' = i then some k' else m.blk d' i' := by
  have h' : m.st.blk d i = some k := by rw [Mc.st_blk]; exact h
  rw [← Mc.st_blk, Mc.st_upd]
  split
  · rename_i hh
    obtain ⟨rfl, rfl⟩ := hh
    exact St.blk_upd_same h'
  · rename_i hh
    rw [St.blk_upd_other hh, Mc.st_blk]

theorem Tag.drop_here {d i off : Nat} {t : Tag} {k : Cls} (h : k ≠ .cel d i off) : (Tag.here d i off t).drop k = Tag.here d i off t := by
  unfold Tag.drop
  rw [if_neg]
  intro hh
  exact h (Tag.here_of hh)

theorem Tag.drop_here_same (d i off : Nat) (t : Tag) : (Tag.here d i off t).drop (.cel d i off) = .no := by
  unfold Tag.here
  split
  · rename_i hh
    unfold Tag.drop
    rw [if_pos hh]
  · simp [Tag.drop, Tag.of]

theorem load_drop {m m' : Mc} {k : Cls} (h : dropCell m k = some m') (T : TypeId) (x : AV) : aLoad P m' T x = (aLoad P m T x).map fun r => ((Dr.one k).tag r.1, r.2) := by
  have hno : ∀ t : Tag, t = .no → (Dr.one k).tag t = .no := fun t ht => by subst ht; exact Dr.tag_no _
  unfold aLoad
  split
  · rename_i L d i off hL
    cases k with
    | reg dd r =>
      simp only [dropCell, Option.some.injEq] at h
      subst h
      split
      · split
        · split
          · simp [Dr.tag_no]
          · rename_i cs ts _ _ _
            cases cs[off]? with
            | none => rfl
            | some a => simp only [Option.map_some, Dr.tag, Tag.drop_here (k := .reg dd r) (by simp)]
        · rfl
      · rfl
    | cel dd ii jj =>
      simp only [dropCell] at h
      split at h
      · rename_i cs0 ts0 hb
        injection h with h
        subst h
        rw [Mc.blk_upd m hb]
        by_cases hc : d = dd ∧ i = ii
        · obtain ⟨rfl, rfl⟩ := hc
          rw [if_pos ⟨rfl, rfl⟩, hb]
          simp only []
          split
          · split
            · simp [Dr.tag_no]
            · cases cs0[off]? with
              | none => rfl
              | some a =>
                simp only [Option.map_some, Dr.tag, tagAt_del]
                by_cases hj : off = jj
                · subst hj
                  rw [Tag.drop_here_same]
                  simp [Tag.here, Tag.of]
                · rw [Tag.drop_here (by simp [Ne.symm hj])]
                  simp [hj]
          · rfl
        · rw [if_neg hc]
          split
          · split
            · split
              · simp [Dr.tag_no]
              · rename_i cs ts _ _ _
                cases cs[off]? with
                | none => rfl
                | some a =>
                  simp only [Option.map_some, Dr.tag]
                  rw [Tag.drop_here (by simp; intro e1 e2; exact absurd ⟨e1.symm, e2.symm⟩ hc)]
            · rfl
          · rfl
      · cases h
  · split
    · cases mkVal _ _ <;> simp [Dr.tag_no]
    · rfl
  · rfl

theorem append_eff {m m' : Mc} {dst : Option Nat} {T U : TypeId} {x y : AV} {xt : Tag} {r : Tag × AV} {d : Dr} (h : aAppend P m dst T U x y xt = some (r, d, m')) : ∃ k, d = .one k ∧ dropCell m k = some m' := by
  unfold aAppend at h
  split at h
  · split at h
    · split at h
      · split at h
        · rename_i k _
          obtain ⟨m1, h1, e⟩ := Option.map_eq_some_iff.1 h
          injection e with e1 e2
          injection e2 with e2 e3
          subst e2 e3
          exact ⟨k, rfl, h1⟩
        · cases h
      · cases h
    · cases h
  · cases h

theorem Mc.blk_upd_other (m : Mc) {d i d' i' : Nat} {k : Blk} (h : ¬ (d' = d ∧ i' = i)) : (m.upd d i k).blk d' i' = m.blk d' i' := by
  rw [← Mc.st_blk, ← Mc.st_blk, Mc.st_upd, St.blk_upd_other h]

/-- What a store into a new variable does to the tags. -/
def OwnDr (D n : Nat) (d : Dr) (j : Nat) : Prop := n ≤ j ∧ (d = .keep ∨ ∃ r q off, d = .two (.reg r q) (.cel D j off))

theorem load_far {m : Mc} {n j : Nat} {k : Blk} {d : Dr} (hd : OwnDr D n d j) (T : TypeId) {x : AV} (hx : nearPtr D n x = false) : aLoad P (m.upd D j k) T x = (aLoad P m T x).map fun r => (d.tag r.1, r.2) := by
  obtain ⟨hj, hd⟩ := hd
  unfold aLoad
  split
  · rename_i L d' i off hL
    have hne : ¬ (d' = D ∧ i = j) := by
      rintro ⟨rfl, rfl⟩
      simp [nearPtr, hj] at hx
    rw [Mc.blk_upd_other m hne]
    split
    · split
      · split
        · simp [Dr.tag_no]
        · rename_i cs ts _ _ _
          cases cs[off]? with
          | none => rfl
          | some a =>
            simp only [Option.map_some]
            rcases hd with rfl | ⟨r, q, off', rfl⟩
            · rfl
            · simp only [Dr.tag]
              rw [Tag.drop_here (by simp), Tag.drop_here (by simp; intro e1 e2; exact absurd ⟨e1.symm, e2.symm⟩ hne)]
      · rfl
    · rfl
  · split
    · cases mkVal _ _ <;> simp [Dr.tag_no]
    · rfl
  · rfl

theorem pass1 {o : Oper} (h : opKind o = 1) (q : DQ) {d : Dr} {m m' : Mc} (hd : (d = .keep ∧ m' = m) ∨ (isAggLoad c.P o = true ∧ m' = m) ∨ (∃ k, d = .one k ∧ dropCell m k = some m') ∨ (q.far = true ∧ ∃ j k, OwnDr D q.n d j ∧ m' = m.upd D j k)) : Pass (c.opD body D q) o d m m' := by
  intro ev et
  obtain ⟨dst, op, type, pos, after, guard⟩ := o
  cases op <;> try (first | cases h | skip)
  case load T x =>
    simp only [Cfg.opD]
    split
    · rfl
    · rename_i hnear
      rcases hd with ⟨rfl, rfl⟩ | ⟨hag, rfl⟩ | ⟨k, rfl, hk⟩ | ⟨hf, j, k, ho, rfl⟩
      · cases aLoad c.P m' T (ev x) <;> simp [Dr.tag]
      · have hno : ∀ y, aLoad c.P m' T (ev x) = some y → y.1 = .no := by
          intro y hy
          unfold isAggLoad at hag
          simp only at hag
          unfold aLoad at hy
          split at hy
          · rename_i L d' i' off hL _
            rw [hL] at hag
            split at hy
            · split at hy
              · have hag' : L.agg = true := hag
                try simp only [hag', if_true] at hy
                injection hy with hy; subst hy; rfl
              · cases hy
            · cases hy
          · split at hy
            · obtain ⟨z, _, e⟩ := Option.map_eq_some_iff.1 hy
              subst e; rfl
            · cases hy
          · cases hy
        cases hl : aLoad c.P m' T (ev x) with
        | none => rfl
        | some y =>
          obtain ⟨y1, y2⟩ := y
          have := hno _ hl
          simp only at this
          subst this
          simp [Dr.tag_no]
      · rw [load_drop hk]
        cases aLoad c.P m T (ev x) <;> simp
      · rw [load_far ho T (by simpa [hf] using hnear)]
        cases aLoad c.P m T (ev x) <;> simp
  case call cl =>
    obtain ⟨callee, args, ts⟩ := cl
    cases callee with
    | builtin b => cases b <;> cases h
    | _ => cases h

theorem eff5 {ops : Array Oper} {o : Oper} (h : isOwnStore ops o = true) (q : DQ) (hq : q.own = true) {ev : Operand → AV} {et : Operand → Tag} {m : Mc} {r : (Tag × AV) × Dr × Mc} (hr : c.opD body D q ev et m o = some r) : ∃ j k, OwnDr D q.n r.2.1 j ∧ r.2.2 = m.upd D j k := by
  obtain ⟨dst, op, type, pos, after, guard⟩ := o
  cases op with
  | store T x v =>
    simp only [Cfg.opD, hq] at hr
    split at hr
    · cases hr
    · rename_i hnear
      simp only [aEff] at hr
      obtain ⟨y, hy, e⟩ := Option.map_eq_some_iff.1 hr
      subst e
      simp only
      unfold aStore at hy
      split at hy
      · rename_i L d i off hL hx
        rw [hx] at hnear
        have hd : d = D ∧ q.n ≤ i := by
          simp [nearPtr] at hnear
          exact ⟨hnear.1, hnear.2⟩
        obtain ⟨rfl, hle⟩ := hd
        split at hy
        · split at hy
          · simp only at hy
            split at hy
            · injection hy with hy; subst hy; exact ⟨i, _, ⟨hle, .inl rfl⟩, rfl⟩
            · split at hy
              · injection hy with hy; subst hy; exact ⟨i, _, ⟨hle, .inr ⟨_, _, _, rfl⟩⟩, rfl⟩
              · split at hy <;> (injection hy with hy; subst hy; exact ⟨i, _, ⟨hle, .inl rfl⟩, rfl⟩)
              · injection hy with hy; subst hy; exact ⟨i, _, ⟨hle, .inl rfl⟩, rfl⟩
          · cases hy
        · cases hy
      · cases hy
  | _ => exact absurd h (by simp [isOwnStore])

theorem eff2 {o : Oper} (h : opKind o = 2) (q : DQ) {ev : Operand → AV} {et : Operand → Tag} {m : Mc} {r : (Tag × AV) × Dr × Mc} (hr : c.opD body D q ev et m o = some r) : ∃ k, r.2.1 = .one k ∧ dropCell m k = some r.2.2 := by
  obtain ⟨dst, op, type, pos, after, guard⟩ := o
  cases op <;> try (first | cases h | skip)
  case call cl =>
    obtain ⟨callee, args, ts⟩ := cl
    cases callee with
    | builtin b =>
      cases b with
      | append =>
        simp only [Cfg.opD] at hr
        split at hr
        · split at hr
          · cases hr
          · simp only [aEff] at hr
            split at hr
            · obtain ⟨r1, r2, r3⟩ := r
              exact append_eff hr
            · cases hr
        · cases hr
      | _ => exact absurd h (by simp [opKind])
    | _ => cases h

/-- What an act does to tags and state, by its kind. -/
theorem act_eff {o : Oper} (q : DQ) {G : Nat → AV} {N : Nat} {ops : Array Oper} {e : Env} {m : Mc} {r : (Tag × AV) × Dr × Mc} (hr : actBy (c.opD body D q) G N ops o e m = some r)
    (hk : opKind o = 0 ∨ opKind o = 1 ∨ opKind o = 2 ∨ (opKind o = 3 ∧ q.ref = false) ∨ (isOwnStore ops o = true ∧ q.own = true)) :
    (r.2.1 = .keep ∧ r.2.2 = m) ∨ (q.peek = true ∧ opKind o = 3 ∧ r.2.2 = m) ∨ (∃ k, r.2.1 = .one k ∧ dropCell m k = some r.2.2) ∨ (isOwnStore ops o = true ∧ ∃ j k, OwnDr D q.n r.2.1 j ∧ r.2.2 = m.upd D j k) := by
  unfold actBy at hr
  split at hr
  · split at hr
    · split at hr
      · rcases hk with h | h | h | ⟨h, hf⟩ | ⟨h, hf⟩
        · exact .inl ((light0 h q).keep _ _ _ _ hr)
        · exact .inl ((light1 h q).keep _ _ _ _ hr)
        · exact .inr (.inr (.inl (eff2 h q hr)))
        · obtain ⟨e1, e2 | ⟨_, e2⟩⟩ := eff3 h q hf hr
          · exact .inl ⟨e2, e1⟩
          · exact .inr (.inl ⟨e2, h, e1⟩)
        · exact .inr (.inr (.inr ⟨h, eff5 h q hf hr⟩))
      · injection hr with hr
        subst hr
        exact .inl ⟨rfl, rfl⟩
    · cases hr
  · cases hr

/-- What two operations are told of each other. -/
structure Told (P : Program) (ops : Array Oper) (a b : Oper) (qa qb : DQ) : Prop where
  ra : qa.ref = true → opKind b = 0
  rb : qb.ref = true → opKind a = 0
  oa : isOwnStore ops a = true → qa.own = true ∧ (opKind b = 1 → qb.far = true)
  ob : isOwnStore ops b = true → qb.own = true ∧ (opKind a = 1 → qa.far = true)
  n : qa.n = qb.n
  pa : qa.peek = true → opKind a = 3 → opKind b = 1 → isAggLoad P b = true
  pb : qb.peek = true → opKind b = 3 → opKind a = 1 → isAggLoad P a = true

/-- Two operations, neither of which waits for the other, in the other order. -/
theorem swap {ops : Array Oper} {a b : Oper} {qa qb : DQ} (h : pairOk ops a b = true) (ht : Told c.P ops a b qa qb)
    {G : Nat → AV} {N : Nat} {s s1 s2 : Env × Mc} (g1 : stepBy (c.opD body D qa) G N ops a s.1 s.2 = some s1) (g2 : stepBy (c.opD body D qb) G N ops b s1.1 s1.2 = some s2) :
    ∃ s1', stepBy (c.opD body D qb) G N ops b s.1 s.2 = some s1' ∧ ∃ s2', stepBy (c.opD body D qa) G N ops a s1'.1 s1'.2 = some s2' ∧ Eqv s2 s2' := by
  obtain ⟨n1, n2⟩ := apart_names h
  have n3 : ∀ t, b.dst = some t → t ∉ namesOf ops a ∧ a.dst ≠ some t := fun t ht => ⟨n2 t ht, fun hh => (n1 t hh).2 ht⟩
  have n4 : ∀ t, a.dst = some t → t ∉ namesOf ops b := fun t ht => (n1 t ht).1
  have la := opD_loc (c := c) (body := body) D qa a
  have lb := opD_loc (c := c) (body := body) D qb b
  by_cases ka : opKind a = 0
  · exact swap_first la lb (light0 ka qa) n1 n2 (fun e m r _ => pass0 ka qa _ _ _) g1 g2
  by_cases kb : opKind b = 0
  · exact swap_last lb la (light0 kb qb) n3 n4 (fun e m r _ => pass0 kb qb _ _ _) g1 g2
  have ra0 : qa.ref = false := by cases hr : qa.ref with | false => rfl | true => exact absurd (ht.ra hr) kb
  have rb0 : qb.ref = false := by cases hr : qb.ref with | false => rfl | true => exact absurd (ht.rb hr) ka
  have hk : (opKind a = 1 ∧ (opKind b ≤ 3 ∨ isOwnStore ops b = true)) ∨ (opKind b = 1 ∧ (opKind a ≤ 3 ∨ isOwnStore ops a = true)) := by
    unfold pairOk at h
    simp only [Bool.and_eq_true, Bool.or_eq_true, beq_iff_eq, decide_eq_true_eq] at h
    rcases h.2 with ((((h | h) | h) | h) | h) | h
    · exact absurd h ka
    · exact absurd h kb
    · exact .inl ⟨h.1, .inl h.2⟩
    · exact .inr ⟨h.1, .inl h.2⟩
    · exact .inl ⟨h.1, .inr h.2⟩
    · exact .inr ⟨h.1, .inr h.2⟩
  have four : ∀ n : Nat, n ≤ 3 → n = 0 ∨ n = 1 ∨ n = 2 ∨ n = 3 := by omega
  rcases hk with ⟨h1, h2⟩ | ⟨h1, h2⟩
  · refine swap_first la lb (light1 h1 qa) n1 n2 (fun e m r hr => pass1 h1 qa ?_) g1 g2
    have he : opKind b = 0 ∨ opKind b = 1 ∨ opKind b = 2 ∨ (opKind b = 3 ∧ qb.ref = false) ∨ (isOwnStore ops b = true ∧ qb.own = true) := by
      rcases h2 with h2 | h2
      · rcases four _ h2 with h3 | h3 | h3 | h3 <;> simp [h3, rb0]
      · exact .inr (.inr (.inr (.inr ⟨h2, (ht.ob h2).1⟩)))
    rcases act_eff qb hr he with h3 | ⟨h3, h4, h5⟩ | h3 | ⟨h3, j, k, h4, h5⟩
    · exact .inl h3
    · exact .inr (.inl ⟨ht.pb h3 h4 h1, h5⟩)
    · exact .inr (.inr (.inl h3))
    · exact .inr (.inr (.inr ⟨(ht.ob h3).2 h1, j, k, ht.n ▸ h4, h5⟩))
  · refine swap_last lb la (light1 h1 qb) n3 n4 (fun e m r hr => pass1 h1 qb ?_) g1 g2
    have he : opKind a = 0 ∨ opKind a = 1 ∨ opKind a = 2 ∨ (opKind a = 3 ∧ qa.ref = false) ∨ (isOwnStore ops a = true ∧ qa.own = true) := by
      rcases h2 with h2 | h2
      · rcases four _ h2 with h3 | h3 | h3 | h3 <;> simp [h3, ra0]
      · exact .inr (.inr (.inr (.inr ⟨h2, (ht.oa h2).1⟩)))
    rcases act_eff qa hr he with h3 | ⟨h3, h4, h5⟩ | h3 | ⟨h3, j, k, h4, h5⟩
    · exact .inl h3
    · exact .inr (.inl ⟨ht.pa h3 h4 h1, h5⟩)
    · exact .inr (.inr (.inl h3))
    · exact .inr (.inr (.inr ⟨(ht.oa h3).2 h1, j, k, ht.n.symm ▸ h4, h5⟩))

/-- The place of the block of operation p, if it is a new variable. -/
def ix (n : Nat) (ops : Array Oper) (p : Nat) : Nat := n + (ops.toList.take p).countP isAlloc

def stp (c : Cfg) (body : Body) (D n N : Nat) (ops : Array Oper) (p : Nat) (s : Env × Mc) : Option (Env × Mc) :=
  (ops[p]?).bind fun o => stepBy (c.opD body D (dq c.P ops n (ix n ops p) p)) c.G N ops o s.1 s.2

def seqs (c : Cfg) (body : Body) (D n N : Nat) (ops : Array Oper) : List Nat → Env × Mc → Option (Env × Mc)
  | [], s => some s
  | p :: l, s => (stp c body D n N ops p s).bind fun t => seqs c body D n N ops l t

theorem draws_seqs {n N : Nat} {ops : Array Oper} : ∀ (l : List Oper) (p : Nat) (e : Env) (m : Mc), ops.toList.drop p = l → c.draws body D n N ops l p (ix n ops p) e m = seqs c body D n N ops (List.range' p l.length) (e, m) := by
  intro l
  induction l with
  | nil => intro p e m _; rfl
  | cons o l ih =>
    intro p e m hp
    have hi : ops[p]? = some o := by
      have := congrArg (fun l => l[0]?) hp
      simpa using this
    have hp' : ops.toList.drop (p + 1) = l := by
      have := congrArg List.tail hp
      simpa using this
    have hix : ix n ops (p + 1) = if isAlloc o then ix n ops p + 1 else ix n ops p := by
      unfold ix
      rw [List.take_add_one, show ops.toList[p]? = some o by simpa using hi]
      simp only [Option.toList_some, List.countP_append, List.countP_singleton]
      split <;> omega
    rw [List.length_cons, List.range'_succ]
    simp only [Cfg.draws, seqs, stp, hi, Option.bind_some]
    congr 1
    funext r
    rw [← hix]
    exact ih (p + 1) r.1 r.2 hp'

theorem stp_eqv {n N : Nat} {ops : Array Oper} {p : Nat} {s s' t : Env × Mc} (h : Eqv s s') (g : stp c body D n N ops p s = some t) : ∃ t', stp c body D n N ops p s' = some t' ∧ Eqv t t' := by
  unfold stp at g ⊢
  cases ho : ops[p]? with
  | none => simp [ho] at g
  | some o =>
    simp only [ho, Option.bind_some] at g ⊢
    exact step_eqv (opD_loc D _ o) h g

theorem seqs_eqv {n N : Nat} {ops : Array Oper} : ∀ (l : List Nat) {s s' t : Env × Mc}, Eqv s s' → seqs c body D n N ops l s = some t → ∃ t', seqs c body D n N ops l s' = some t' ∧ Eqv t t' := by
  intro l
  induction l with
  | nil => intro s s' t h g; injection g with g; subst g; exact ⟨s', rfl, h⟩
  | cons p l ih =>
    intro s s' t h g
    simp only [seqs] at g ⊢
    obtain ⟨u, h1, h2⟩ := Option.bind_eq_some_iff.1 g
    obtain ⟨u', h3, h4⟩ := stp_eqv h h1
    rw [h3]
    exact ih h4 h2

/-- May p and q be swapped? -/
def Free (P : Program) (ops : Array Oper) (p q : Nat) : Prop :=
  ∀ a b, ops[p]? = some a → ops[q]? = some b → pairOk ops a b = true ∧ ∀ n i j, Told P ops a b (dq P ops n i p) (dq P ops n j q)

/-- One that waits for none of those ahead comes first. -/
theorem bubble {n N : Nat} {ops : Array Oper} (i : Nat) (l2 : List Nat) : ∀ (l1 : List Nat) {s t : Env × Mc}, (∀ j ∈ l1, Free c.P ops j i) → seqs c body D n N ops (l1 ++ i :: l2) s = some t →
    ∃ s1, stp c body D n N ops i s = some s1 ∧ ∃ t', seqs c body D n N ops (l1 ++ l2) s1 = some t' ∧ Eqv t t' := by
  intro l1
  induction l1 with
  | nil =>
    intro s t _ g
    simp only [List.nil_append, seqs] at g ⊢
    obtain ⟨u, h1, h2⟩ := Option.bind_eq_some_iff.1 g
    exact ⟨u, h1, t, h2, Eqv.refl t⟩
  | cons j l1 ih =>
    intro s t hf g
    simp only [List.cons_append, seqs] at g
    obtain ⟨u, h1, h2⟩ := Option.bind_eq_some_iff.1 g
    obtain ⟨v, h3, t1, h4, h5⟩ := ih (fun k hk => hf k (List.mem_cons_of_mem _ hk)) h2
    unfold stp at h1 h3
    cases ha : ops[j]? with
    | none => simp [ha] at h1
    | some a =>
      cases hb : ops[i]? with
      | none => simp [hb] at h3
      | some b =>
        simp only [ha, Option.bind_some] at h1
        simp only [hb, Option.bind_some] at h3
        obtain ⟨f1, f2⟩ := hf j (List.mem_cons_self ..) a b ha hb
        obtain ⟨v1, g1, v2, g2, g3⟩ := swap f1 (f2 n _ _) h1 h3
        refine ⟨v1, by unfold stp; rw [hb]; exact g1, ?_⟩
        obtain ⟨t2, g4, g5⟩ := seqs_eqv (l1 ++ l2) g3 h4
        refine ⟨t2, ?_, h5.trans g5⟩
        simp only [List.cons_append, seqs]
        have : stp c body D n N ops j v1 = some v2 := by unfold stp; rw [ha]; exact g2
        rw [this]
        exact g4

end
end
end Go.Ab
