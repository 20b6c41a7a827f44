import Derived.Test.YtlpffainhdnaiaaGreatDoorAbDraw1
/- Open regions, on the side of our machine alone: two steps in the other order. -/
namespace Go.Ab
open Go
noncomputable section

section
variable {c : Cfg} {body : Body} {P : Program}

abbrev OpF := (Operand → AV) → (Operand → Tag) → Mc → Oper → Option ((Tag × AV) × Dr × Mc)

/-- What an operation with its guard gives. -/
def actBy (f : OpF) (G : Nat → AV) (N : Nat) (ops : Array Oper) (o : Oper) (e : Env) (m : Mc) : Option ((Tag × AV) × Dr × Mc) :=
  if dstOk N o then
    match wantedA ops e o with
    | some g => if g then f (opv G e) (opt e) m o else some ((.no, .any), .keep, m)
    | none => none
  else none

theorem stepBy_act (f : OpF) (G : Nat → AV) (N : Nat) (ops : Array Oper) (o : Oper) (e : Env) (m : Mc) :
    stepBy f G N ops o e m = (actBy f G N ops o e m).map fun r => ((e.dr r.2.1).set o.dst r.1, r.2.2) := by
  unfold stepBy actBy
  cases dstOk N o with
  | false => rfl
  | true =>
    cases wantedA ops e o with
    | none => rfl
    | some g => cases g <;> rfl

theorem Dr.tag_no (d : Dr) : d.tag .no = .no := by cases d <;> simp [Dr.tag, Tag.drop, Tag.of]

theorem lookup_mapTag (f : Tag → Tag) (e : Env) (r : Nat) : List.lookup r (e.map fun x => (x.1, f x.2.1, x.2.2)) = (e.lookup r).map fun x => (f x.1, x.2) := by
  induction e with
  | nil => rfl
  | cons y e ih =>
    obtain ⟨q, y⟩ := y
    simp only [List.map_cons, List.lookup_cons]
    split
    · rfl
    · exact ih

theorem Env.lookup_dr (e : Env) (d : Dr) (r : Nat) : (e.dr d).lookup r = (e.lookup r).map fun x => (d.tag x.1, x.2) := by
  cases d with
  | keep => cases h : e.lookup r <;> simp [Env.dr, Dr.tag, h]
  | one k => exact lookup_mapTag (fun t => t.drop k) e r
  | two k k' => exact lookup_mapTag (fun t => (t.drop k).drop k') e r
  | calm => exact lookup_mapTag (fun t => Dr.calm.tag t) e r
  | bare => exact lookup_mapTag (fun _ => .no) e r

theorem Env.get_dr (e : Env) (d : Dr) (r : Nat) : (e.dr d).get r = (d.tag (e.get r).1, (e.get r).2) := by
  simp only [Env.get_def]
  rw [Env.lookup_dr]
  cases e.lookup r <;> simp [Dr.tag_no]

theorem Env.lookup_set (e : Env) (o : Option Nat) (x : Tag × AV) (q : Nat) : (e.set o x).lookup q = if o = some q then some x else e.lookup q := by
  cases o with
  | none => simp [Env.set]
  | some r =>
    simp only [Env.set, Env.lookup_put, Option.some.injEq]
    by_cases h : q = r
    · subst h; simp
    · rw [if_neg h, if_neg fun e => h e.symm]

theorem Env.get_set (e : Env) (o : Option Nat) (x : Tag × AV) (q : Nat) : (e.set o x).get q = if o = some q then x else e.get q := by
  simp only [Env.get_def]
  rw [Env.lookup_set]
  split <;> rfl

theorem operand_names {ops : Array Oper} {o : Oper} {t : Tmp} (h : Operand.tmp t ∈ o.op.operands) : t ∈ namesOf ops o := by
  unfold namesOf
  exact List.mem_append_left _ (List.mem_filterMap.2 ⟨.tmp t, by simpa using h, rfl⟩)

theorem guard_names {ops : Array Oper} {o : Oper} {j : Nat} {want : Bool} {r : Tmp} (h : o.guard = some (j, want)) (hr : (ops[j]?).bind (·.dst) = some r) : r ∈ namesOf ops o := by
  unfold namesOf
  refine List.mem_append_right _ ?_
  rw [h]
  simp [hr]

theorem wantedA_congr {ops : Array Oper} {o : Oper} {e e' : Env} (h : ∀ t ∈ namesOf ops o, (e.get t).2 = (e'.get t).2) : wantedA ops e o = wantedA ops e' o := by
  unfold wantedA
  split
  · rfl
  · rename_i j want hg
    split
    · rename_i r hr
      rw [h r (guard_names hg hr)]
    · rfl

/-- What an operation gives where the values that it looks at are the same, and the tags have been dropped. -/
theorem actBy_drop {f : OpF} {G : Nat → AV} {N : Nat} {ops : Array Oper} {o : Oper} (hf : Loc f o) {e e' : Env} {m m' : Mc} {d : Dr} (h : ∀ t ∈ namesOf ops o, e'.get t = (d.tag (e.get t).1, (e.get t).2))
    (hp : ∀ ev et, f ev (fun x => d.tag (et x)) m' o = (f ev et m o).map fun r => ((d.tag r.1.1, r.1.2), Dr.keep, m')) :
    actBy f G N ops o e' m' = (actBy f G N ops o e m).map fun r => ((d.tag r.1.1, r.1.2), Dr.keep, m') := by
  unfold actBy
  rw [wantedA_congr (e := e') (e' := e) fun t ht => by rw [h t ht]]
  cases dstOk N o with
  | false => rfl
  | true =>
    cases wantedA ops e o with
    | none => rfl
    | some g =>
      cases g with
      | false => simp [Dr.tag_no]
      | true =>
        simp only [if_true]
        rw [← hp]
        refine hf _ _ _ _ _ fun x hx => ?_
        cases x with
        | tmp t =>
          have := h t (operand_names hx)
          simp only [opv, opt]
          rw [this]
          exact ⟨rfl, rfl⟩
        | const v => exact ⟨rfl, (Dr.tag_no d).symm⟩
        | global g => exact ⟨rfl, (Dr.tag_no d).symm⟩
        | func g => exact ⟨rfl, (Dr.tag_no d).symm⟩

theorem actBy_congr {f : OpF} {G : Nat → AV} {N : Nat} {ops : Array Oper} {o : Oper} (hf : Loc f o) {e e' : Env} {m : Mc} (h : ∀ t ∈ namesOf ops o, e'.get t = e.get t) :
    actBy f G N ops o e' m = actBy f G N ops o e m := by
  unfold actBy
  rw [wantedA_congr (e := e') (e' := e) fun t ht => by rw [h t ht]]
  cases dstOk N o with
  | false => rfl
  | true =>
    cases wantedA ops e o with
    | none => rfl
    | some g =>
      cases g with
      | false => rfl
      | true =>
        simp only [if_true]
        refine hf _ _ _ _ _ fun x hx => ?_
        cases x with
        | tmp t =>
          have := h t (operand_names hx)
          simp only [opv, opt]
          rw [this]
          exact ⟨rfl, rfl⟩
        | _ => exact ⟨rfl, rfl⟩

/-- The same environment, as far as one can look things up. -/
def Eqv (s s' : Env × Mc) : Prop := (∀ r, s.1.lookup r = s'.1.lookup r) ∧ s.2 = s'.2

theorem Eqv.refl (s : Env × Mc) : Eqv s s := ⟨fun _ => rfl, rfl⟩
theorem Eqv.symm {s t : Env × Mc} (h : Eqv s t) : Eqv t s := ⟨fun r => (h.1 r).symm, h.2.symm⟩
theorem Eqv.trans {s t u : Env × Mc} (h : Eqv s t) (k : Eqv t u) : Eqv s u := ⟨fun r => (h.1 r).trans (k.1 r), h.2.trans k.2⟩

/-- An operation that leaves tags and state, and to which the other's change of tags and state makes no difference. -/
structure Light (f : OpF) (o : Oper) : Prop where
  keep : ∀ ev et m r, f ev et m o = some r → r.2.1 = .keep ∧ r.2.2 = m

def Pass (f : OpF) (o : Oper) (d : Dr) (m m' : Mc) : Prop :=
  ∀ ev et, f ev (fun x => d.tag (et x)) m' o = (f ev et m o).map fun r => ((d.tag r.1.1, r.1.2), Dr.keep, m')

theorem actBy_light {f : OpF} {G : Nat → AV} {N : Nat} {ops : Array Oper} {o : Oper} (hl : Light f o) {e : Env} {m : Mc} {r : (Tag × AV) × Dr × Mc} (h : actBy f G N ops o e m = some r) : r.2.1 = .keep ∧ r.2.2 = m := by
  unfold actBy at h
  split at h
  · split at h
    · split at h
      · exact hl.keep _ _ _ _ h
      · injection h with h
        subst h
        exact ⟨rfl, rfl⟩
    · cases h
  · cases h

theorem apart_names {ops : Array Oper} {a b : Oper} (h : pairOk ops a b = true) : (∀ t, a.dst = some t → t ∉ namesOf ops b ∧ b.dst ≠ some t) ∧ ∀ t, b.dst = some t → t ∉ namesOf ops a := by
  unfold pairOk at h
  simp only [Bool.and_eq_true, List.all_eq_true, Option.mem_toList] at h
  obtain ⟨⟨h1, h2⟩, _⟩ := h
  constructor
  · intro t ht
    have := h1 t ht
    simp only [Bool.not_eq_true', List.contains_eq_mem, decide_eq_false_iff_not, Option.mem_toList] at this
    exact this
  · intro t ht
    have := h2 t ht
    simp only [Bool.not_eq_true', List.contains_eq_mem, decide_eq_false_iff_not] at this
    exact this

/-- Light first, then the other: or the other way round. -/
theorem swap_light {fL fX : OpF} {G : Nat → AV} {N : Nat} {ops : Array Oper} {L X : Oper} (hL : Loc fL L) (hX : Loc fX X) (hl : Light fL L)
    (h1 : ∀ t, L.dst = some t → t ∉ namesOf ops X ∧ X.dst ≠ some t) (h2 : ∀ t, X.dst = some t → t ∉ namesOf ops L)
    {e : Env} {m : Mc} {rX : (Tag × AV) × Dr × Mc} (hx : actBy fX G N ops X e m = some rX) (hp : Pass fL L rX.2.1 m rX.2.2) {rL : (Tag × AV) × Dr × Mc} (hl1 : actBy fL G N ops L e m = some rL) :
    (∃ s, stepBy fL G N ops L e m = some s ∧ ∃ t, stepBy fX G N ops X s.1 s.2 = some t ∧ ∃ s', stepBy fX G N ops X e m = some s' ∧ ∃ t', stepBy fL G N ops L s'.1 s'.2 = some t' ∧ Eqv t t') := by
  obtain ⟨k1, k2⟩ := actBy_light hl hl1
  obtain ⟨⟨tL, vL⟩, dL, mL⟩ := rL
  obtain ⟨⟨tX, vX⟩, dX, mX⟩ := rX
  simp only at k1 k2 hp
  subst k1 k2
  have a1 : actBy fX G N ops X (e.set L.dst (tL, vL)) mL = some ((tX, vX), dX, mX) := by
    rw [actBy_congr hX (e := e) fun t ht => ?_]
    · exact hx
    · rw [Env.get_set, if_neg fun h => (h1 t h).1 ht]
  have a2 : actBy fL G N ops L ((e.dr dX).set X.dst (tX, vX)) mX = some ((dX.tag tL, vL), .keep, mX) := by
    rw [actBy_drop hL (e := e) (m := mL) (d := dX) (fun t ht => ?_) hp, hl1]
    · rfl
    · rw [Env.get_set, if_neg fun h => h2 t h ht, Env.get_dr]
  refine ⟨(e.set L.dst (tL, vL), mL), ?_, ?_⟩
  · rw [stepBy_act, hl1]; rfl
  refine ⟨(((e.set L.dst (tL, vL)).dr dX).set X.dst (tX, vX), mX), ?_, ?_⟩
  · rw [stepBy_act, a1]; rfl
  refine ⟨((e.dr dX).set X.dst (tX, vX), mX), ?_, ?_⟩
  · rw [stepBy_act, hx]; rfl
  refine ⟨(((e.dr dX).set X.dst (tX, vX)).set L.dst (dX.tag tL, vL), mX), ?_, ?_⟩
  · rw [stepBy_act, a2]; rfl
  refine ⟨fun r => ?_, rfl⟩
  simp only [Env.lookup_set, Env.lookup_dr]
  by_cases c1 : X.dst = some r
  · rw [if_pos c1, if_neg fun h => (h1 r h).2 c1, if_pos c1]
  · rw [if_neg c1]
    by_cases c2 : L.dst = some r
    · rw [if_pos c2, if_pos c2]; rfl
    · rw [if_neg c2, if_neg c2, if_neg c1]

/-- Of two steps that were done in one order: the other order. -/
theorem swap_first {fL fX : OpF} {G : Nat → AV} {N : Nat} {ops : Array Oper} {L X : Oper} (hL : Loc fL L) (hX : Loc fX X) (hl : Light fL L)
    (h1 : ∀ t, L.dst = some t → t ∉ namesOf ops X ∧ X.dst ≠ some t) (h2 : ∀ t, X.dst = some t → t ∉ namesOf ops L)
    (hp : ∀ e m r, actBy fX G N ops X e m = some r → Pass fL L r.2.1 m r.2.2)
    {s s1 s2 : Env × Mc} (g1 : stepBy fL G N ops L s.1 s.2 = some s1) (g2 : stepBy fX G N ops X s1.1 s1.2 = some s2) :
    ∃ s1', stepBy fX G N ops X s.1 s.2 = some s1' ∧ ∃ s2', stepBy fL G N ops L s1'.1 s1'.2 = some s2' ∧ Eqv s2 s2' := by
  obtain ⟨e, m⟩ := s
  rw [stepBy_act] at g1 g2
  obtain ⟨rL, q1, q2⟩ := Option.map_eq_some_iff.1 g1
  obtain ⟨rX, q3, q4⟩ := Option.map_eq_some_iff.1 g2
  obtain ⟨k1, k2⟩ := actBy_light hl q1
  have hx : actBy fX G N ops X e m = some rX := by
    rw [← q3, ← q2]
    simp only [k1, k2]
    refine (actBy_congr hX fun t ht => ?_).symm
    rw [Env.get_set, if_neg fun h => (h1 t h).1 ht]
    rfl
  obtain ⟨u1, c1, u2, c2, u3, c3, u4, c4, c5⟩ := swap_light hL hX hl h1 h2 hx (hp e m rX hx) q1
  rw [stepBy_act, q1] at c1
  have e1 : u1 = s1 := by rw [← q2]; simpa using c1.symm
  subst e1
  rw [stepBy_act, q3] at c2
  have e2 : u2 = s2 := by rw [← q4]; simpa using c2.symm
  subst e2
  exact ⟨u3, c3, u4, c4, c5⟩

theorem swap_last {fL fX : OpF} {G : Nat → AV} {N : Nat} {ops : Array Oper} {L X : Oper} (hL : Loc fL L) (hX : Loc fX X) (hl : Light fL L)
    (h1 : ∀ t, L.dst = some t → t ∉ namesOf ops X ∧ X.dst ≠ some t) (h2 : ∀ t, X.dst = some t → t ∉ namesOf ops L)
    (hp : ∀ e m r, actBy fX G N ops X e m = some r → Pass fL L r.2.1 m r.2.2)
    {s s1 s2 : Env × Mc} (g1 : stepBy fX G N ops X s.1 s.2 = some s1) (g2 : stepBy fL G N ops L s1.1 s1.2 = some s2) :
    ∃ s1', stepBy fL G N ops L s.1 s.2 = some s1' ∧ ∃ s2', stepBy fX G N ops X s1'.1 s1'.2 = some s2' ∧ Eqv s2 s2' := by
  obtain ⟨e, m⟩ := s
  rw [stepBy_act] at g1 g2
  obtain ⟨rX, q1, q2⟩ := Option.map_eq_some_iff.1 g1
  obtain ⟨rL', q3, q4⟩ := Option.map_eq_some_iff.1 g2
  have hpx := hp e m rX q1
  have hx : ∃ rL, actBy fL G N ops L e m = some rL := by
    rw [← q2] at q3
    simp only at q3
    rw [actBy_drop hL (e := e) (m := m) (d := rX.2.1) (fun t ht => ?_) hpx] at q3
    · obtain ⟨rL, q5, _⟩ := Option.map_eq_some_iff.1 q3
      exact ⟨rL, q5⟩
    · rw [Env.get_set, if_neg fun h => h2 t h ht, Env.get_dr]
  obtain ⟨rL, q5⟩ := hx
  obtain ⟨u1, c1, u2, c2, u3, c3, u4, c4, c5⟩ := swap_light hL hX hl h1 h2 q1 hpx q5
  rw [stepBy_act, q1] at c3
  have e1 : u3 = s1 := by rw [← q2]; simpa using c3.symm
  subst e1
  rw [stepBy_act, q3] at c4
  have e2 : u4 = s2 := by rw [← q4]; simpa using c4.symm
  subst e2
  exact ⟨u1, c1, u2, c2, c5.symm⟩

theorem step_eqv {f : OpF} {G : Nat → AV} {N : Nat} {ops : Array Oper} {o : Oper} (hf : Loc f o) {s s' t : Env × Mc} (h : Eqv s s') (g : stepBy f G N ops o s.1 s.2 = some t) : ∃ t', stepBy f G N ops o s'.1 s'.2 = some t' ∧ Eqv t t' := by
  obtain ⟨e, m⟩ := s
  obtain ⟨e', m'⟩ := s'
  obtain ⟨h1, h2⟩ := h
  simp only at h1 h2
  subst h2
  rw [stepBy_act] at g ⊢
  obtain ⟨r, q1, q2⟩ := Option.map_eq_some_iff.1 g
  rw [actBy_congr hf (e := e) (e' := e') fun t _ => by simp only [Env.get_def]; rw [h1], q1]
  refine ⟨_, rfl, ?_⟩
  rw [← q2]
  refine ⟨fun q => ?_, rfl⟩
  simp only [Env.lookup_set, Env.lookup_dr, h1]

end
end
end Go.Ab
