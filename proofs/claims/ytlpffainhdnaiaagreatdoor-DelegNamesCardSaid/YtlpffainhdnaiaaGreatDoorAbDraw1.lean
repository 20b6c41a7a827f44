import Derived.Test.YtlpffainhdnaiaaGreatDoorAbEvS
/- Open regions, on the side of our machine alone: operations that do not wait for each other may be done in either order. -/
namespace Go.Ab
open Go
noncomputable section

section
variable {c : Cfg} {body : Body} {P : Program}

theorem aPure_congr {o : Oper} {ev ev' : Operand → AV} (h : ∀ x ∈ o.op.operands, ev x = ev' x) : aPure P o ev = aPure P o ev' := by
  obtain ⟨dst, op, type, pos, after, guard⟩ := o
  have pairs : ∀ ps : Array (Nat × Operand), (∀ x ∈ ps.map (·.2), ev x = ev' x) →
      (ps.toList.map fun p => (p.1, ev p.2)) = (ps.toList.map fun p => (p.1, ev' p.2)) := fun ps hp =>
    List.map_congr_left fun p hm => by
      rw [hp p.2 (Array.mem_map.2 ⟨p, Array.mem_toList_iff.1 hm, rfl⟩)]
  have lists : ∀ ps : Array Operand, (∀ x ∈ ps, ev x = ev' x) → ps.toList.map ev = ps.toList.map ev' := fun ps hp =>
    List.map_congr_left fun p hm => hp p (Array.mem_toList_iff.1 hm)
  cases op <;> simp only [Op.operands] at h <;> simp only [aPure]
  case build t ps => rw [pairs ps fun x hx => h x (by simpa using hx)]
  case makeFunc fn first captured =>
    rw [lists first fun x hx => h x (by simp [hx]), lists captured fun x hx => h x (by simp [hx])]
  case slice t x lo hi mx => cases lo <;> cases hi <;> cases mx <;> simp_all
  case call cl =>
    obtain ⟨callee, args, ts⟩ := cl
    cases callee with
    | builtin b =>
      have ha := lists args fun x hx => h x (by simp [Call.operands, hx])
      cases b <;> simp only [ha]
      case len =>
        split
        · rename_i x t hx ht
          have hxa : x ∈ args := by
            rw [← Array.mem_toList_iff, hx]
            exact List.mem_cons_self ..
          rw [h x (by simp [Call.operands, hxa])]
        · rfl
    | _ => rfl
  all_goals (first | rfl | (simp_all; done))

theorem tagOf_congr {o : Oper} {ev ev' : Operand → AV} {et et' : Operand → Tag} (h : ∀ x ∈ o.op.operands, ev x = ev' x ∧ et x = et' x) : tagOf ev et o = tagOf ev' et' o := by
  obtain ⟨dst, op, type, pos, after, guard⟩ := o
  cases op <;> simp only [Op.operands] at h <;> simp only [tagOf]
  case pick c a b =>
    rw [(h c (by simp)).1, (h a (by simp)).2, (h b (by simp)).2]
  case move x => rw [(h x (by simp)).2]
  case assign x => rw [(h x (by simp)).2]

theorem aEff_congr {o : Oper} {m : Mc} {ev ev' : Operand → AV} {et et' : Operand → Tag} (h : ∀ x ∈ o.op.operands, ev x = ev' x ∧ et x = et' x) : aEff P ev et m o = aEff P ev' et' m o := by
  obtain ⟨dst, op, type, pos, after, guard⟩ := o
  have pairs : ∀ ps : Array (Nat × Operand), (∀ x ∈ ps.map (·.2), ev x = ev' x) →
      (ps.toList.map fun p => (p.1, ev p.2)) = (ps.toList.map fun p => (p.1, ev' p.2)) := fun ps hp =>
    List.map_congr_left fun p hm => by
      rw [hp p.2 (Array.mem_map.2 ⟨p, Array.mem_toList_iff.1 hm, rfl⟩)]
  cases op <;> simp only [Op.operands] at h <;> simp only [aEff]
  case buildSlice t n ps => rw [pairs ps fun x hx => (h x (by simpa using hx)).1]
  case box t x => rw [(h x (by simp)).1]
  case load t x => rw [(h x (by simp)).1]
  case store t x v => rw [(h x (by simp)).1, (h v (by simp)).1, (h v (by simp)).2]
  case makeMap t r => cases r <;> rfl
  case makeSlice t l c => rw [(h l (by simp)).1, (h c (by simp)).1]
  case lookup t x k ok => rw [(h x (by simp)).1, (h k (by simp)).1]
  case mapUpdate t x k v => rw [(h x (by simp)).1, (h k (by simp)).1, (h v (by simp)).1]
  case range t x => rw [(h x (by simp)).1]
  case next x s => cases s <;> simp only [] ; rw [(h x (by simp)).1]
  case slice t x lo hi mx => cases lo <;> cases hi <;> cases mx <;> simp_all
  case convert s d x => rw [(h x (by simp)).1]
  case call cl =>
    obtain ⟨callee, args, ts⟩ := cl
    cases callee with
    | builtin b =>
      cases b <;> simp only []
      all_goals
        split
        · rename_i x y T U hx ht
          have hxa : x ∈ args := by rw [← Array.mem_toList_iff, hx]; simp
          have hya : y ∈ args := by rw [← Array.mem_toList_iff, hx]; simp
          obtain ⟨h1, h2⟩ := h x (by simp [Call.operands, hxa])
          obtain ⟨h3, h4⟩ := h y (by simp [Call.operands, hya])
          rw [h1, h3]
          try rw [h2]
        · rfl
    | _ => rfl

theorem aCallee_congr {f : Operand} {args : List Operand} {ev ev' : Operand → AV} (h1 : ev f = ev' f) (h2 : ∀ x ∈ args, ev x = ev' x) : aCallee ev f args = aCallee ev' f args := by
  unfold aCallee
  rw [h1, List.map_congr_left h2]

/-- An operation looks at its operands alone. -/
def Loc (f : (Operand → AV) → (Operand → Tag) → Mc → Oper → Option ((Tag × AV) × Dr × Mc)) (o : Oper) : Prop :=
  ∀ (ev ev' : Operand → AV) (et et' : Operand → Tag) (m : Mc), (∀ x ∈ o.op.operands, ev x = ev' x ∧ et x = et' x) → f ev et m o = f ev' et' m o

theorem opD_loc (D : Nat) (q : DQ) (o : Oper) : Loc (c.opD body D q) o := by
  intro ev ev' et et' m h
  have h0 := aPure_congr (P := c.P) fun x hx => (h x hx).1
  have h1 := aEff_congr (P := c.P) (m := m) h
  have h2 := tagOf_congr h
  obtain ⟨dst, op, type, pos, after, guard⟩ := o
  cases op
  case load t x =>
    simp only [Op.operands] at h
    simp only [Cfg.opD]
    rw [(h x (by simp)).1]
  case store t x v =>
    simp only [Op.operands] at h
    simp only [Cfg.opD, h1]
    rw [(h x (by simp)).1]
  case buildSlice t n ps =>
    simp only [Op.operands] at h
    simp only [Cfg.opD]
    have pairs : (ps.toList.map fun p => (p.1, ev p.2)) = (ps.toList.map fun p => (p.1, ev' p.2)) :=
      List.map_congr_left fun p hm => by
        rw [(h p.2 (by simpa using ⟨p.1, Array.mem_toList_iff.1 hm⟩)).1]
    rw [pairs]
  case call cl =>
    obtain ⟨callee, args, ts⟩ := cl
    cases callee with
    | builtin b => cases b <;> simp only [Cfg.opD, h0, h1, h2]
    | invoke r q => simp only [Cfg.opD, h0, h1, h2]
    | value f =>
      simp only [Op.operands] at h
      simp only [Cfg.opD]
      rw [aCallee_congr (h f (by simp [Call.operands])).1 fun x hx => (h x (by simp [Call.operands, Array.mem_toList_iff.1 hx])).1]
  all_goals simp only [Cfg.opD, h0, h1, h2]

end
end
end Go.Ab
