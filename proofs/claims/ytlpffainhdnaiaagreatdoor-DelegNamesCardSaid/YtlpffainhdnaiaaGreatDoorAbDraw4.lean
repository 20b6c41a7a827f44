import Derived.Test.YtlpffainhdnaiaaGreatDoorAbDraw3
/- Open regions: what our machine says of the text's order holds of each order. -/
namespace Go.Ab
open Go
noncomputable section

section
variable {c : Cfg} {body : Body} {P : Program} {G : Nat → AV} {ρ ρ' : Ren} {S : St} {w w' : World} {m : Mc}

theorem all_zipIdx {α : Type} {l : List α} {f : α × Nat → Bool} (h : l.zipIdx.all f = true) (i : Nat) (x : α) (hi : l[i]? = some x) : f (x, i) = true := by
  rw [List.all_eq_true] at h
  refine h (x, i) ?_
  rw [List.mem_iff_getElem?]
  exact ⟨i, by simp [hi]⟩

structure OkD (ops : Array Oper) : Prop where
  low : ∀ (i : Nat) (o : Oper), ops[i]? = some o → ∀ e ∈ o.after, Region.binds .any e = true → e.on < i
  free : ∀ (i : Nat) (o : Oper), ops[i]? = some o → isAlloc o = true → o.guard = none
  pair : ∀ (j i : Nat) (p q : Oper), i < j → ops[j]? = some p → ops[i]? = some q → ((Region.before ops).getD j 0).testBit i = true ∨ pairOk ops q p = true

theorem okD_of {ops : Array Oper} (h : okDraw ops = true) : OkD ops := by
  unfold okDraw at h
  simp only [Bool.and_eq_true] at h
  obtain ⟨h1, h2⟩ := h
  refine ⟨fun i o hi e he hb => ?_, fun i o hi ha => ?_, fun j i p q hij hp hq => ?_⟩
  · have := all_zipIdx h1 i o (by simpa using hi)
    simp only [Bool.and_eq_true, List.all_eq_true, Bool.or_eq_true, Bool.not_eq_true', decide_eq_true_eq] at this
    rcases this.1.1 e (by simpa using he) with h3 | h3
    · rw [hb] at h3; cases h3
    · exact h3
  · have := all_zipIdx h1 i o (by simpa using hi)
    simp only [Bool.and_eq_true, Bool.or_eq_true, Bool.not_eq_true', Option.isNone_iff_eq_none] at this
    rcases this.1.2 with h3 | h3
    · rw [ha] at h3; cases h3
    · exact h3
  · have h3 := all_zipIdx h2 j p (by simpa using hp)
    have h4 := all_zipIdx h3 i q (by simpa using hq)
    simp only [Bool.or_eq_true, Bool.not_eq_true', decide_eq_false_iff_not] at h4
    rcases h4 with (h5 | h5) | h5
    · exact absurd hij h5
    · exact .inl h5
    · exact .inr h5

/-- What stands before an operation has been done, if the operation is ready and what has been done is closed. -/
theorem before_listed {ops : Array Oper} {L : Nat → Prop} (hc : ∀ (i : Nat) (o : Oper), ops[i]? = some o → L i → ∀ e ∈ o.after, Region.binds .any e = true → L e.on) :
    ∀ (i : Nat) (o : Oper), ops[i]? = some o → (∀ e ∈ o.after, Region.binds .any e = true → L e.on) → ∀ j, ((Region.before ops).getD i 0).testBit j = true → L j := by
  have key : (Region.before ops).size = ops.size ∧ ∀ i, i < ops.size → ∀ o, ops[i]? = some o → (∀ e ∈ o.after, Region.binds .any e = true → L e.on) → ∀ j, ((Region.before ops).getD i 0).testBit j = true → L j := by
    unfold Region.before
    refine Array.foldl_induction (motive := fun n (acc : Array Nat) => acc.size = n ∧ ∀ i, i < n → ∀ o, ops[i]? = some o → (∀ e ∈ o.after, Region.binds .any e = true → L e.on) → ∀ j, (acc.getD i 0).testBit j = true → L j) ⟨rfl, fun i hi => by omega⟩ ?_
    intro n acc ⟨hsz, ih⟩
    refine ⟨by simp [hsz], fun i hi o ho hl j hj => ?_⟩
    rcases Nat.lt_or_ge i acc.size with hlt | hge
    · refine ih i (by omega) o ho hl j ?_
      rw [← hj]
      simp [Array.getD_eq_getD_getElem?, Array.getElem?_push, Nat.ne_of_lt hlt]
    · have hin : i = acc.size := by omega
      subst hin
      have ho' : ops[n.1] = o := by
        have := Array.getElem?_eq_getElem n.2
        rw [hsz] at ho
        rw [this] at ho
        injection ho
      simp only [Array.getD_eq_getD_getElem?, Array.getElem?_push_size, Option.getD_some] at hj
      rw [show ops[n] = o from ho', ← Array.foldl_toList] at hj
      simp only [← Array.getD_eq_getD_getElem?] at hj
      have hl' : ∀ e ∈ o.after.toList, Region.binds .any e = true → L e.on := fun e he => hl e (by simpa using he)
      have inner : ∀ (l : List Edge) (s : Nat), (∀ e ∈ l, Region.binds .any e = true → L e.on) → (∀ j, s.testBit j = true → L j) →
          ∀ j, (l.foldl (fun s e => if Region.binds .any e then s ||| 2 ^ e.on ||| acc.getD e.on 0 else s) s).testBit j = true → L j := by
        intro l
        induction l with
        | nil => intro s _ hs j hj; exact hs j hj
        | cons e l ihl =>
          intro s hl hs j hj
          rw [List.foldl_cons] at hj
          refine ihl _ (fun e' he' => hl e' (List.mem_cons_of_mem _ he')) (fun j hj => ?_) j hj
          split at hj
          · rename_i hb
            have hle := hl e (List.mem_cons_self ..) hb
            simp only [Nat.testBit_or, Bool.or_eq_true, Nat.testBit_two_pow, decide_eq_true_eq] at hj
            rcases hj with (hj | hj) | hj
            · exact hs j hj
            · exact hj ▸ hle
            · rcases Nat.lt_or_ge e.on acc.size with hlt | hge
              · have hn : e.on < ops.size := by have := n.2; omega
                exact ih e.on (by omega) ops[e.on] (Array.getElem?_eq_getElem hn) (hc e.on _ (Array.getElem?_eq_getElem hn) hle) j hj
              · simp [Array.getD_eq_getD_getElem?, Array.getElem?_eq_none hge] at hj
          · exact hs j hj
      exact inner o.after.toList 0 hl' (by simp) j hj
  intro i o ho hl j hj
  exact key.2 i (Array.getElem?_eq_some_iff.1 ho).1 o ho hl j hj

theorem pure_none {o : Oper} (hk : opKind o ≠ 0) {ev : Operand → AV} : aPure P o ev = none := by
  obtain ⟨dst, op, type, pos, after, guard⟩ := o
  cases op <;> first | rfl | (exfalso; exact hk rfl) | skip
  case call cl =>
    obtain ⟨callee, args, ts⟩ := cl
    cases callee with
    | value f => rfl
    | invoke r q => rfl
    | builtin b => cases b <;> first | rfl | (exfalso; exact hk rfl)

/-- In a region, an operation that is no new variable does what it does elsewhere, or looks at memory. -/
theorem opD_op {D : Nat} {q : DQ} {ev : Operand → AV} {et : Operand → Tag} {o : Oper} {r : (Tag × AV) × Dr × Mc} (h : c.opD body D q ev et m o = some r) (ha : isAlloc o = false) :
    c.op body ev et m o = some r ∨ ∃ f args ts, o.op = .call { callee := .value f, args := args, argTypes := ts } ∧ ((aCallee ev f args.toList).bind fun ga => (c.peek body m ga.1 ga.2).map fun r => (((.no, r.1), r.2.1, r.2.2) : (Tag × AV) × Dr × Mc)) = some r := by
  unfold Cfg.opD at h
  split at h
  · rename_i ho
    unfold isAlloc at ha
    obtain ⟨dst, op, type, pos, after, guard⟩ := o
    simp only at ho
    subst ho
    cases ha
  · rename_i T x ho
    refine .inl ?_
    unfold Cfg.op
    rw [ho]
    simp only [aOp, aPure, aEff, ho]
    split at h
    · cases h
    · exact h
  · rename_i T x v ho
    refine .inl ?_
    unfold Cfg.op
    rw [ho]
    split at h
    · cases h
    · simp only [aOp, aPure, ho]
      exact h
  · rename_i t l k ho
    refine .inl ?_
    unfold Cfg.op
    rw [ho]
    split at h
    · cases h
    · rename_i hi
      simp only [hi, aOp, aPure, ho]
      exact h
  · rename_i t len parts ho
    refine .inl ?_
    unfold Cfg.op
    rw [ho]
    split at h
    · cases h
    · rename_i hi
      simp only [hi, aOp, aPure, aEff, ho]
      exact h
  · rename_i args ts ho
    refine .inl ?_
    unfold Cfg.op
    rw [ho]
    simp only
    split at h
    · rename_i T U hts
      split at h
      · cases h
      · rename_i hv
        have h0 := h
        unfold aEff at h0
        rw [ho] at h0
        simp only at h0
        split at h0
        · rename_i x y T' U' hx hT
          rw [hts] at hT
          injection hT with e1 e2
          subst e1
          rw [hx, hts]
          simp only [hv]
          simp only [aOp, aPure, ho]
          exact h
        · cases h0
    · cases h
  · rename_i f args ts ho
    obtain ⟨ga, h1, h2⟩ := Option.bind_eq_some_iff.1 h
    split at h2
    · refine .inl ?_
      unfold Cfg.op
      rw [ho]
      simp only
      rw [h1]
      exact h2
    · split at h2
      · cases h2
      · rename_i hinl
        split at h2
        · rename_i hcond
          refine .inl ?_
          unfold Cfg.op
          rw [ho]
          simp only
          rw [h1]
          simp only [Option.bind_some]
          unfold Cfg.call
          rw [if_neg hinl, if_pos hcond]
          exact h2
        · split at h2
          · refine .inr ⟨f, args, ts, ho, ?_⟩
            rw [h1]
            exact h2
          · cases h2
  · rename_i h1 h2 h3 h4 h5 h6 h7
    refine .inl ?_
    unfold Cfg.op
    split
    · rename_i ho; first | exact absurd ho (h7 _ _ _) | exact absurd ho (h6 _ _ _)
    · rename_i ho
      exfalso
      rw [if_pos (by unfold opKind; rw [ho]; rfl)] at h
      obtain ⟨v, hv, _⟩ := Option.map_eq_some_iff.1 h
      unfold aPure at hv
      rw [ho] at hv
      cases hv
    · rename_i ho; first | exact absurd ho (h7 _ _) | exact absurd ho (h6 _ _)
    · rename_i ho; exact absurd ho (h4 _ _ _)
    · rename_i ho; exact absurd ho (h5 _ _ _)
    · split at h
      · obtain ⟨v, hv, e⟩ := Option.map_eq_some_iff.1 h
        unfold aOp
        rw [hv]
        exact congrArg some e
      · rename_i hk
        unfold aOp
        rw [pure_none (by simpa using hk)]
        exact h

theorem peek_does (hc : CfgOk c) (hb : BodyOk c body) {g : FuncId} {as : List AV} {r : AV} {dr : Dr} {m' : Mc} (h : c.peek body m g as = some (r, dr, m')) {vs : Array Value} (h1 : vs.size = as.length) (h2 : ∀ (j : Nat) v a, vs[j]? = some v → as[j]? = some a → Rep ρ w v a)
    (hs : Sim c.G ρ m.st w) {tmps : Array Value} {e : Env} (he : EnvOk ρ w m.D tmps e) : CallDoes c g vs w (CallPost c ρ m w tmps r (e.dr dr) m') := by
  unfold Cfg.peek at h
  cases hr : c.run body g as m.st with
  | none => simp [hr] at h
  | some y =>
    obtain ⟨y1, y2⟩ := y
    simp only [hr, Option.bind_some] at h
    split at h
    · rename_i hcond
      have hS := sameS_eq _ _ hcond
      subst hS
      injection h with h
      injection h with e1 e2
      injection e2 with e2 e3
      subst e1 e2 e3
      have hlen : m.st.length = m.base.length + 1 := Mc.st_length m
      refine (run_ok hc hb hr).does h1 h2 hs fun y w' ρ' q1 q2 q3 => ?_
      exact ⟨ρ', q1, q2, q3.weaken (by rw [hlen]; exact Nat.le_succ _), he.calm q3.pers (fun r => q3.regs _ _ (by rw [hlen]; exact Nat.lt_succ_self _)), rfl⟩
    · cases h

theorem opD_sound (hc : CfgOk c) (hb : BodyOk c body) {D : Nat} {q : DQ} (hs : Sim c.G ρ m.st w) {a : Act} {e : Env} (he : EnvOk ρ w m.D a.tmps e) {o : Oper} (ha : isAlloc o = false) {t : Tag} {v : AV} {dr : Dr} {m' : Mc}
    (h : c.opD body D q (opv c.G e) (opt e) m o = some ((t, v), dr, m')) {K : Act → World → Prop} {Q : Exit → Act → World → Prop} (hk : Then c ρ m w a o t v (e.dr dr) m' K) : o.wp c.P a w K Q := by
  rcases opD_op h ha with h1 | ⟨f, args, ts, ho, h1⟩
  · exact cop_sound hc hb hs he h1 hk
  · obtain ⟨ga, hca, h2⟩ := Option.bind_eq_some_iff.1 h1
    obtain ⟨g, as⟩ := ga
    obtain ⟨y, hy, e0⟩ := Option.map_eq_some_iff.1 h2
    obtain ⟨y1, y2, y3⟩ := y
    injection e0 with e1 e2
    injection e1 with e1 e4
    injection e2 with e2 e3
    subst e1 e2 e3 e4
    obtain ⟨A1, A2, hf, s1, s2⟩ := callee_rep hs he hca
    exact wp_called (execOp_call ho hf) (peek_does hc hb hy s1 s2 hs he) hk

end
end
end Go.Ab
