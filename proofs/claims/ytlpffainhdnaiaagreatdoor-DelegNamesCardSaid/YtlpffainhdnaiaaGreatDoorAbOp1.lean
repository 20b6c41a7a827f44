import Derived.Test.YtlpffainhdnaiaaGreatDoorAbEv
/- Environments; rows that read as slices. -/
namespace Go.Ab
open Go
noncomputable section

section
variable {P : Program} {G : Nat → AV} {ρ ρ' : Ren} {S : St} {w w' : World}

structure EnvOk (ρ : Ren) (w : World) (D : Nat) (tmps : Array Value) (e : Env) : Prop where
  ok : ∀ r t a, e.lookup r = some (t, a) → ∃ v, tmps[r]? = some v ∧ Rep ρ w v a ∧ TagOk ρ v a t ∧ ∀ d q, t.of = some (.reg d q) → d = D

theorem EnvOk.rdV {D : Nat} {a : Act} {e : Env} (h : EnvOk ρ w D a.tmps e) (hg : ∀ g, Rep ρ w (.pointer (some ⟨g, 0, none⟩)) (G g)) (x : Operand) : Rep ρ w (a.eval x) (opv G e x) := by
  cases x with
  | tmp t =>
    show Rep ρ w (a.tmps.getD t undef) (e.get t).2
    rw [Env.get_def]
    cases hl : e.lookup t with
    | none => exact .any _
    | some ta =>
      obtain ⟨v, h1, h2, _⟩ := h.ok t ta.1 ta.2 hl
      simp only [Option.getD_some, Array.getD_eq_getD_getElem?, h1]
      exact h2
  | const v => exact av0_rep ρ w v
  | global g => exact hg g
  | func f => exact .fn _ _ _ [] [] rfl rfl (by simp) (by simp)

theorem EnvOk.rdT {D : Nat} {a : Act} {e : Env} (h : EnvOk ρ w D a.tmps e) (G : Nat → AV) (x : Operand) : TagOk ρ (a.eval x) (opv G e x) (opt e x) ∧ ∀ d q, (opt e x).of = some (.reg d q) → d = D := by
  cases x with
  | tmp t =>
    show TagOk ρ (a.tmps.getD t undef) (e.get t).2 (e.get t).1 ∧ ∀ d q, (e.get t).1.of = some (.reg d q) → d = D
    rw [Env.get_def]
    cases hl : e.lookup t with
    | none => exact ⟨trivial, by simp [Tag.of]⟩
    | some ta =>
      obtain ⟨v, h1, _, h3, h4⟩ := h.ok t ta.1 ta.2 hl
      simp only [Option.getD_some, Array.getD_eq_getD_getElem?, h1]
      exact ⟨h3, h4⟩
  | const v => exact ⟨trivial, by simp [opt, Tag.of]⟩
  | global g => exact ⟨trivial, by simp [opt, Tag.of]⟩
  | func f => exact ⟨trivial, by simp [opt, Tag.of]⟩

theorem Env.lookup_put (e : Env) (r : Nat) (x : Tag × AV) (q : Nat) : (e.put r x).lookup q = if q = r then some x else e.lookup q := by
  induction e with
  | nil =>
    by_cases h : q = r
    · simp [Env.put_nil, h]
    · simp [Env.put_nil, List.lookup_cons, h, show (q == r) = false from by simpa using h]
  | cons y e ih =>
    obtain ⟨r', y⟩ := y
    rw [Env.put_cons]
    split
    · rename_i hr
      subst hr
      by_cases h : q = r
      · simp [h]
      · simp [List.lookup_cons, h, show (q == r) = false from by simpa using h]
    · rename_i hr
      simp only [List.lookup_cons]
      by_cases h : q = r'
      · subst h
        simp [show ¬ q = r from fun e => hr e.symm]
      · simp only [show (q == r') = false from by simpa using h]
        exact ih

theorem EnvOk.put {D : Nat} {tmps : Array Value} {e : Env} (h : EnvOk ρ w D tmps e) {r : Nat} (hr : r < tmps.size) {v : Value} {a : AV} {t : Tag} (h1 : Rep ρ w v a) (h2 : TagOk ρ v a t) (h3 : ∀ d q, t.of = some (.reg d q) → d = D) :
    EnvOk ρ w D (tmps.setIfInBounds r v) (e.put r (t, a)) := by
  refine ⟨fun q t' a' hq => ?_⟩
  rw [Env.lookup_put] at hq
  split at hq
  · rename_i e1
    subst e1
    injection hq with hq
    injection hq with e1 e2
    subst e1 e2
    exact ⟨v, by simp [hr], h1, h2, h3⟩
  · rename_i hne
    obtain ⟨u, h4, h5⟩ := h.ok q t' a' hq
    refine ⟨u, ?_, h5⟩
    rw [Array.getElem?_setIfInBounds]
    rw [if_neg (fun e => hne e.symm)]
    exact h4

theorem EnvOk.pers {D : Nat} {tmps : Array Value} {e : Env} (h : EnvOk ρ w D tmps e) (hp : Pers ρ w ρ' w') (hw : ∀ r t a k, e.lookup r = some (t, a) → t.of = some k → ρ'.ow k = ρ.ow k) : EnvOk ρ' w' D tmps e :=
  ⟨fun r t a hl => by
    obtain ⟨v, h1, h2, h3, h4⟩ := h.ok r t a hl
    exact ⟨v, h1, h2.pers hp, h3.pers (hw r t a · hl), h4⟩⟩

theorem lookup_map (f : Nat → Tag × AV → Tag × AV) : ∀ (e : Env) (r : Nat), (List.map (fun x : Nat × Tag × AV => (x.1, f x.1 x.2)) e).lookup r = (e.lookup r).map (f r) := by
  intro e
  induction e with
  | nil => intro r; rfl
  | cons x e ih =>
    intro r
    obtain ⟨q, x⟩ := x
    simp only [List.map_cons, List.lookup_cons]
    by_cases h : r = q
    · subst h; simp
    · simp only [show (r == q) = false from by simpa using h]; exact ih r

/-- Weaker tags, other readings. -/
theorem EnvOk.map {D : Nat} {tmps : Array Value} {e : Env} (h : EnvOk ρ w D tmps e) (f : Nat → Tag × AV → Tag × AV)
    (hf : ∀ r t a v, Rep ρ w v a → TagOk ρ v a t → (∀ d q, t.of = some (.reg d q) → d = D) → Rep ρ' w' v (f r (t, a)).2 ∧ TagOk ρ' v (f r (t, a)).2 (f r (t, a)).1 ∧ ∀ d q, (f r (t, a)).1.of = some (.reg d q) → d = D) :
    EnvOk ρ' w' D tmps (List.map (fun x : Nat × Tag × AV => (x.1, f x.1 x.2)) e) := by
  refine ⟨fun r t a hl => ?_⟩
  rw [lookup_map] at hl
  cases hr : e.lookup r with
  | none => simp [hr] at hl
  | some ta =>
    obtain ⟨t0, a0⟩ := ta
    simp only [hr, Option.map_some, Option.some.injEq] at hl
    obtain ⟨v, h1, h2, h3, h4⟩ := h.ok r t0 a0 hr
    obtain ⟨g1, g2, g3⟩ := hf r t0 a0 v h2 h3 h4
    rw [hl] at g1 g2 g3
    exact ⟨v, h1, g1, g2, g3⟩

theorem EnvOk.drop {D : Nat} {tmps : Array Value} {e : Env} (h : EnvOk ρ w D tmps e) (k : Cls) (hp : Pers ρ w ρ' w') (hw : ∀ c, c ≠ k → ρ'.ow c = ρ.ow c) : EnvOk ρ' w' D tmps (e.dr (.one k)) :=
  h.map (fun _ x => (x.1.drop k, x.2)) fun _ _ _ _ h1 h2 h3 => ⟨h1.pers hp, (h2.dropped k).pers fun c hc => hw c (Tag.drop_of hc).1, fun d q hq => h3 d q (Tag.drop_of hq).2⟩

theorem EnvOk.drop2 {D : Nat} {tmps : Array Value} {e : Env} (h : EnvOk ρ w D tmps e) (k k' : Cls) (hp : Pers ρ w ρ' w') (hw : ∀ c, c ≠ k → c ≠ k' → ρ'.ow c = ρ.ow c) : EnvOk ρ' w' D tmps (e.dr (.two k k')) :=
  h.map (fun _ x => ((x.1.drop k).drop k', x.2)) fun _ _ _ _ h1 h2 h3 => ⟨h1.pers hp, ((h2.dropped k).dropped k').pers fun c hc => hw c (Tag.drop_of (Tag.drop_of hc).2).1 (Tag.drop_of hc).1, fun d q hq => h3 d q (Tag.drop_of (Tag.drop_of hq).2).2⟩

/-- References that occur are bound: so they lie in frames that are there. -/
theorem Rep.rin_of {p : Nat → Nat → Bool} (hb : ∀ d i b, ρ.mb d i = some b → p d i = true) {v : Value} {a : AV} (h : Rep ρ w v a) : AV.rin p a = true := by
  induction h with
  | mp off h => simpa [AV.rin] using hb _ _ _ h
  | ms off l c s h _ _ => simpa [AV.rin] using hb _ _ _ h
  | map h => simpa [AV.rin] using hb _ _ _ h
  | itr h => simpa [AV.rin] using hb _ _ _ h
  | fn f A1 A2 c1 c2 h1 h2 _ _ ih1 ih2 =>
    simp only [AV.rin, Bool.and_eq_true]
    refine ⟨AV.rinL_of fun j c hj => ?_, AV.rinL_of fun j c hj => ?_⟩
    · have hlt : j < A1.size := by rw [h1]; exact (List.getElem?_eq_some_iff.1 hj).1
      exact ih1 j A1[j] c (Array.getElem?_eq_getElem hlt) hj
    · have hlt : j < A2.size := by rw [h2]; exact (List.getElem?_eq_some_iff.1 hj).1
      exact ih2 j A2[j] c (Array.getElem?_eq_getElem hlt) hj
  | ifc t _ ih => simpa [AV.rin] using ih
  | agg A cs hsz h1 _ ih =>
    simp only [AV.rin]
    refine AV.rinL_of fun j c hj => ?_
    have hlt : j < A.size := by rw [hsz]; exact (List.getElem?_eq_some_iff.1 hj).1
    exact ih j A[j] c (Array.getElem?_eq_getElem hlt) hj
  | tup A cs hsz _ ih =>
    simp only [AV.rin]
    refine AV.rinL_of fun j c hj => ?_
    have hlt : j < A.size := by rw [hsz]; exact (List.getElem?_eq_some_iff.1 hj).1
    exact ih j A[j] c (Array.getElem?_eq_getElem hlt) hj
  | _ => simp [AV.rin]

theorem Rep.hyg {m : Mc} (hs : Sim G ρ m.st w) {v : Value} {a : AV} (h : Rep ρ w v a) : AV.rin (Go.Ab.hyg m.D) a = true :=
  h.rin_of fun d i b hb => by
    obtain ⟨k, hk⟩ := Option.isSome_iff_exists.1 (hs.dm d i b hb)
    have hlt := St.lt_of_blk hk
    rw [Mc.st_length] at hlt
    show decide (d ≤ m.base.length) = true
    simp only [decide_eq_true_eq]
    omega

theorem chunks_length (s : Nat) : ∀ (n : Nat) (l : List AV), (chunks s n l).length = n := by
  intro n
  induction n with
  | zero => intro l; rfl
  | succ n ih => intro l; simp [chunks, ih]

theorem chunks_get (s : Nat) : ∀ (n : Nat) (l : List AV) (i : Nat) e, (chunks s n l)[i]? = some e → i < n ∧ e = (l.drop (i * s)).take s := by
  intro n
  induction n with
  | zero => intro l i e h; simp [chunks] at h
  | succ n ih =>
    intro l i e h
    cases i with
    | zero => simp [chunks] at h; exact ⟨by omega, by simp [h]⟩
    | succ i =>
      simp only [chunks, List.getElem?_cons_succ] at h
      obtain ⟨h1, h2⟩ := ih _ i e h
      refine ⟨by omega, ?_⟩
      rw [h2, List.drop_drop, Nat.add_mul]
      congr 2
      omega

/-- A row whose cells are immutable reads as a slice. -/
theorem sl_of_row {b off s cap : Nat} {es : List (List AV)} {o : Own} (hc : es.length ≤ cap) (hfull : o = .full → cap = es.length) (hs : ∀ e ∈ es, e.length = s) (hz : zf w b)
    (h : ∀ i e j c, es[i]? = some e → e[j]? = some c → ρ.im b (off + (i * s + j)) ∧ ∃ v, w.cell? ⟨b, off + (i * s + j), none⟩ = some v ∧ c.nref = true ∧ v.oneCell' = true ∧ Rep ρ w v c) :
    Rep ρ w (.slice (some ⟨b, off, none⟩) es.length cap) (.sl es o) := by
  refine .sl (some ⟨b, off, none⟩) cap s es o b off (fun i j => (w.cell? ⟨b, off + (i * s + j), none⟩).getD .nilFunc) hc hfull hs (fun _ => rfl) (fun i e j c hi hj => ?_) fun i e j c hi hj => ?_
  · obtain ⟨h1, v, h2, h3, h4, h5⟩ := h i e j c hi hj
    rw [h2]
    exact ⟨h1, rfl, h3, h4, fun _ => hz⟩
  · obtain ⟨h1, v, h2, h3, h4, h5⟩ := h i e j c hi hj
    rw [h2]
    exact h5

theorem setl_rep {v : Value} {c : AV} (h : Rep ρ w v c) : Rep ρ w v c.setl := by
  unfold AV.setl
  split
  · rename_i es
    obtain ⟨a, cap, s, b, off, f, rfl, h1, h2, h3, h4, h5, h6⟩ := h.sl_inv
    exact .sl a cap s es .frs b off f h1 (fun h => by cases h) h3 h4 (fun i e j c hi hj => by
      obtain ⟨q1, q2, q3, q4, q5⟩ := h5 i e j c hi hj
      exact ⟨q1, q2, q3, q4, fun _ => q5 (by simp)⟩) h6
  · exact h

theorem setl_nref {c : AV} (h : c.nref = true) : c.setl.nref = true := by
  unfold AV.setl
  split
  · simp [AV.nref, AV.rin]
  · exact h

end

/-- What an operation does. -/
def Step (P : Program) (G : Nat → AV) (D : Nat) (ρ : Ren) (S : St) (w : World) (s : Sem Value) (v : AV) (S' : St) : Prop :=
  ∃ y w' ρ', s.run P w = .ok y w' ∧ Rep ρ' w' y v ∧ Sim G ρ' S' w' ∧ Ext D ρ S w ρ' S' w' ∧ ρ'.ow = ρ.ow

end
end Go.Ab
