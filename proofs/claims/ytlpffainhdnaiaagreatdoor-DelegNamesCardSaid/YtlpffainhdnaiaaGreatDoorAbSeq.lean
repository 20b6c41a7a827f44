import Derived.Test.YtlpffainhdnaiaaGreatDoorAbNorm
/- Calls and sequences of operations: sound. -/
namespace Go.Ab
open Go
noncomputable section

structure CfgOk (c : Cfg) : Prop where
  mixed : c.P.follows .mixedOrders = true
  gref : ∀ g, (c.G g).nref = true
  names : ∀ (g : Nat) (fn : Func), c.P.funcs[g]? = some fn → fn.name ≠ "runtime.NumGoroutine"
  sp : ∀ g as S r S', c.sp g as S = some (some (r, S')) → CallOk c (Ext S.length) g as S r S'

def BodyOk (c : Cfg) (body : Body) : Prop :=
  ∀ g as base fr r base' fr', body g as base fr = some (r, base', fr') → CallOk c (Ext base.length) g as (base ++ [fr]) r (base' ++ [fr'])

section
variable {c : Cfg} {body : Body} {ρ ρ' : Ren} {S S' : St} {w w' : World} {m : Mc}

theorem run_ok (hc : CfgOk c) (hb : BodyOk c body) {g : FuncId} {as : List AV} {r : AV} (h : c.run body g as S = some (r, S')) : CallOk c (Ext S.length) g as S r S' := by
  unfold Cfg.run at h
  split at h
  · rename_i x hx
    subst h
    exact hc.sp g as S r S' hx
  · rename_i hx
    cases hbd : body g as S [] with
    | none => simp [hbd] at h
    | some y =>
      obtain ⟨y1, y2, y3⟩ := y
      simp only [hbd, Option.bind_some] at h
      split at h
      · rename_i hr
        injection h with h
        injection h with e1 e2
        subst e1 e2
        exact pop_ok hc.gref hr (hb g as S [] _ _ _ hbd)
      · cases h

/-- What a call leaves. -/
def CallPost (c : Cfg) (ρ : Ren) (m : Mc) (w : World) (tmps : Array Value) (r : AV) (e' : Env) (m' : Mc) (y : Value) (w' : World) : Prop :=
  ∃ ρ', Rep ρ' w' y r ∧ Sim c.G ρ' m'.st w' ∧ Ext m.D ρ m.st w ρ' m'.st w' ∧ EnvOk ρ' w' m.D tmps e' ∧ m'.base.length = m.base.length

def CallDoes (c : Cfg) (g : FuncId) (vs : Array Value) (w : World) (R : Value → World → Prop) : Prop :=
  ((callFunc g vs).run c.P w = .ok (.enter g vs) w ∧ Calls c.P g vs w fun e w' => ∃ y, e = .returned y ∧ R y w') ∨ (∃ y w', (callFunc g vs).run c.P w = .ok (.value y) w' ∧ R y w')

theorem CallOk.does {E : Ren → St → World → Ren → St → World → Prop} {g : FuncId} {as : List AV} {r : AV} (h : CallOk c E g as S r S') {vs : Array Value} (h1 : vs.size = as.length) (h2 : ∀ (j : Nat) v a, vs[j]? = some v → as[j]? = some a → Rep ρ w v a) (hs : Sim c.G ρ S w)
    {R : Value → World → Prop} (hR : ∀ y w' ρ', Rep ρ' w' y r → Sim c.G ρ' S' w' → E ρ S w ρ' S' w' → R y w') : CallDoes c g vs w R := by
  rcases h ρ w vs h1 h2 hs with ⟨g1, g2⟩ | ⟨y, w', ρ', g1, g2, g3, g4⟩
  · refine .inl ⟨g1, g2.mono ?_⟩
    rintro e w' ⟨y, ρ', rfl, q1, q2, q3⟩
    exact ⟨y, rfl, hR y w' ρ' q1 q2 q3⟩
  · exact .inr ⟨y, w', g1, hR y w' ρ' g2 g3 g4⟩

theorem iso_does (hc : CfgOk c) (hb : BodyOk c body) {g : FuncId} {as : List AV} {r : AV} {dr : Dr} {m' : Mc} (has : AV.rinL (fun _ _ => false) as = true) (h : c.iso body m g as = some (r, dr, m')) {vs : Array Value} (h1 : vs.size = as.length) (h2 : ∀ (j : Nat) v a, vs[j]? = some v → as[j]? = some a → Rep ρ w v a)
    (hs : Sim c.G ρ m.st w) {tmps : Array Value} {e : Env} (he : EnvOk ρ w m.D tmps e) : CallDoes c g vs w (CallPost c ρ m w tmps r (e.dr dr) m') ∧ dr = .keep ∧ m' = m := by
  unfold Cfg.iso at h
  cases hr : c.run body g as [] with
  | none => simp [hr] at h
  | some y =>
    obtain ⟨y1, y2⟩ := y
    simp only [hr, Option.bind_some] at h
    split at h
    · rename_i hcond
      simp only [Bool.and_eq_true] at hcond
      obtain ⟨hc1, hc2⟩ := hcond
      injection h with h
      injection h with e1 e2
      injection e2 with e2 e3
      subst e1 e2 e3
      have hy2 : y2 = [] := by simpa using hc1
      subst hy2
      refine ⟨(iso_ok hc.gref has hc2 (run_ok hc hb hr) m.st).does h1 h2 hs fun y w' ρ' q1 q2 ⟨q3, q4⟩ => ⟨ρ', q1, q2, q3.weaken (by rw [Mc.st_length]; exact Nat.le_succ _), he.pers q3.pers (fun _ _ _ _ _ _ => by rw [q4]), rfl⟩, rfl, rfl⟩
    · cases h

theorem call_does (hc : CfgOk c) (hb : BodyOk c body) {g : FuncId} {as : List AV} {r : AV} {dr : Dr} {m' : Mc} {il : Bool} (h : c.call body il m g as = some (r, dr, m')) {vs : Array Value} (h1 : vs.size = as.length) (h2 : ∀ (j : Nat) v a, vs[j]? = some v → as[j]? = some a → Rep ρ w v a)
    (hs : Sim c.G ρ m.st w) {tmps : Array Value} {e : Env} (he : EnvOk ρ w m.D tmps e) : CallDoes c g vs w (CallPost c ρ m w tmps r (e.dr dr) m') := by
  obtain ⟨n1, n2⟩ := norm_sim hs m.D
  have hlen : m.norm.st.length = m.base.length + 1 := Mc.st_length m.norm
  have fin : ∀ {S2 : St} {r2 : AV}, CallOk c (Ext m.norm.st.length) g as m.norm.st r2 S2 → ∀ {s : St × List Blk}, splitLast S2 = some s → CallDoes c g vs w (CallPost c ρ m w tmps r2 (e.dr .calm) ⟨s.1, s.2⟩) := by
    intro S2 r2 hok s hsp
    have hS := splitLast_spec hsp
    refine hok.does h1 h2 n1 fun y w' ρ' q1 q2 q3 => ?_
    have hl := q3.len
    refine ⟨ρ', q1, by rw [hS] at q2; exact q2, ?_, he.calm q3.pers (fun r => q3.regs _ _ (by rw [hlen]; exact Nat.lt_succ_self _)), ?_⟩
    · have q4 := q3.weaken (D' := m.D) (by rw [hlen]; exact Nat.le_succ _)
      rw [hS] at q4
      exact n2.trans q4
    · rw [hS, hlen] at hl
      simpa using hl
  unfold Cfg.call at h
  split at h
  · split at h
    · rename_i x hx
      obtain ⟨y, hy, h⟩ := Option.bind_eq_some_iff.1 h
      obtain ⟨y1, y2⟩ := y
      obtain ⟨s, hsp, e0⟩ := Option.map_eq_some_iff.1 h
      injection e0 with e1 e2
      injection e2 with e2 e3
      subst e1 e2 e3
      subst hy
      exact fin (hc.sp g as _ _ _ hx) hsp
    · obtain ⟨y, hy, e0⟩ := Option.map_eq_some_iff.1 h
      obtain ⟨y1, y2, y3⟩ := y
      injection e0 with e1 e2
      injection e2 with e2 e3
      subst e1 e2 e3
      exact (hb g as m.base m.fr _ _ _ hy).does h1 h2 hs fun y w' ρ' q1 q2 q3 => ⟨ρ', q1, q2, q3, he.bare q3.pers, by
        have := q3.len
        simpa [Mc.st] using this⟩
  · split at h
    · rename_i has
      exact (iso_does hc hb has h h1 h2 hs he).1
    · cases hr : c.run body g as m.norm.st with
      | none => simp [hr] at h
      | some y =>
        obtain ⟨y1, y2⟩ := y
        simp only [hr, Option.bind_some] at h
        obtain ⟨s, hsp, e0⟩ := Option.map_eq_some_iff.1 h
        injection e0 with e1 e2
        injection e2 with e2 e3
        subst e1 e2 e3
        exact fin (run_ok hc hb hr) hsp

/-- A value call: what 'execOp' makes of it. -/
theorem execOp_call {a : Act} {o : Oper} {f : Operand} {args : Array Operand} {ts : Array TypeId} (ho : o.op = .call { callee := .value f, args, argTypes := ts }) {g : FuncId} {A1 A2 : Array Value} (hf : a.eval f = .func (.func g) A1 A2) {P : Program} :
    (execOp a.eval o).run P w = (callFunc g (A1 ++ args.map a.eval ++ A2)).run P w := by
  simp [execOp, ho, resolve, hf, Deferred.ofValue, invoke]

theorem callee_rep (hs : Sim c.G ρ m.st w) {a : Act} {e : Env} (he : EnvOk ρ w m.D a.tmps e) {f : Operand} {args : Array Operand} {g : FuncId} {as : List AV} (h : aCallee (opv c.G e) f args.toList = some (g, as)) :
    ∃ A1 A2, a.eval f = .func (.func g) A1 A2 ∧ (A1 ++ args.map a.eval ++ A2).size = as.length ∧ ∀ (j : Nat) v x, (A1 ++ args.map a.eval ++ A2)[j]? = some v → as[j]? = some x → Rep ρ w v x := by
  unfold aCallee at h
  split at h
  · rename_i g' c1 c2 hf
    injection h with h
    injection h with e1 e2
    subst e1 e2
    obtain ⟨A1, A2, ev, s1, s2, r1, r2⟩ := (hf ▸ he.rdV hs.glob f : Rep ρ w (a.eval f) (.fn (.func g') c1 c2)).fn_inv
    obtain ⟨m1, m2⟩ := map_rep (he.rdV hs.glob) args
    refine ⟨A1, A2, ev, by simp [s1, s2], fun j v x hj hx => ?_⟩
    rcases Nat.lt_or_ge j A1.size with h1 | h1
    · rw [Array.append_assoc, Array.getElem?_append_left h1] at hj
      rw [List.append_assoc, List.getElem?_append_left (by omega)] at hx
      exact r1 j v x hj hx
    · rw [Array.append_assoc, Array.getElem?_append_right h1] at hj
      rw [List.append_assoc, List.getElem?_append_right (by omega)] at hx
      rw [s1] at hj
      rcases Nat.lt_or_ge (j - c1.length) (args.map a.eval).size with h3 | h3
      · rw [Array.getElem?_append_left h3] at hj
        rw [List.getElem?_append_left (by rw [← m1]; exact h3)] at hx
        exact m2 _ v x hj hx
      · rw [Array.getElem?_append_right h3] at hj
        rw [List.getElem?_append_right (by rw [← m1]; exact h3)] at hx
        rw [m1] at hj
        exact r2 _ v x hj hx
  · cases h

/-- What one operation leaves, and what follows. -/
def Then (c : Cfg) (ρ : Ren) (m : Mc) (w : World) (a : Act) (o : Oper) (t : Tag) (v : AV) (e' : Env) (m' : Mc) (K : Act → World → Prop) : Prop :=
  ∀ y w' ρ', Rep ρ' w' y v → TagOk ρ' y v t → (∀ d q, t.of = some (.reg d q) → d = m.D) → Sim c.G ρ' m'.st w' → Ext m.D ρ m.st w ρ' m'.st w' → EnvOk ρ' w' m.D a.tmps e' → m'.base.length = m.base.length → K (a.put o.dst y) w'

theorem wp_did {a : Act} {o : Oper} {t : Tag} {v : AV} {e' : Env} {m' : Mc} {K : Act → World → Prop} {Q : Exit → Act → World → Prop} (h : Did c.P c.G ρ m w a.tmps (execOp a.eval o) t v e' m') (hk : Then c ρ m w a o t v e' m' K) : o.wp c.P a w K Q := by
  obtain ⟨nx, y, w', ρ', h1, h2, h3, h4, h5, h6, h7, h8, h9⟩ := h.ex
  unfold Oper.wp
  rw [h1]
  rcases h2 with rfl | ⟨rfl, rfl⟩
  · exact hk y w' ρ' h3 h4 h5 h6 h7 h8 h9
  · exact hk undef w' ρ' h3 h4 h5 h6 h7 h8 h9

theorem run_methodOf {P : Program} {t : TypeId} {name : String} {g : FuncId} (h : methodOf P t name = some g) (fuel : Nat) (v : Value) : (method (fuel + 1) t v name).run P w = .ok (g, v) w := by
  unfold methodOf at h
  split at h
  · rename_i i d hi hd
    split at h
    · rename_i nm sig f hm
      have hu : (underlying t).run P w = .ok d w := by simp [underlying, hd]
      split at h
      · cases h
      · rename_i hnp
        injection h with h
        subst h
        simp only [method, Sem.run_bind, run_info hi, Result.andThen_ok, hm]
        simp only [follow, Sem.run_pure, Result.andThen_ok, receiverAt]
        cases d <;> first | exact absurd rfl (hnp _) | simp [hu, Place.get]
    · cases h
  · cases h

theorem execOp_invoke {a : Act} {o : Oper} {r : Operand} {name : String} {args : Array Operand} {ts : Array TypeId} (ho : o.op = .call { callee := .invoke r name, args, argTypes := ts }) {t : TypeId} {v : Value} (hr : a.eval r = .iface t v) {P : Program} {g : FuncId} (hm : methodOf P t name = some g) :
    (execOp a.eval o).run P w = (callFunc g (#[v] ++ args.map a.eval)).run P w := by
  have h1 := fun fuel => run_methodOf (w := w) hm fuel v
  have h2 : P.types.size + Made.depth = (P.types.size + Made.depth - 1) + 1 := by
    have : 0 < Made.depth := by decide
    omega
  simp only [execOp, ho, resolve, invoke, Sem.run_bind, Sem.run_pure, Result.andThen_ok]
  have e0 : (#[a.eval r] ++ args.map a.eval)[0]? = some (.iface t v) := by
    rw [Array.getElem?_append_left (by simp)]
    simp [hr]
  have e1 : (#[a.eval r] ++ args.map a.eval).extract 1 (#[a.eval r] ++ args.map a.eval).size = args.map a.eval := by simp
  rw [e0]
  simp only [e1, callMethod, Sem.run_bind, run_program, Result.andThen_ok]
  rw [h2, h1]
  rfl

theorem wp_called {a : Act} {o : Oper} {vs : Array Value} {g : FuncId} (hrun : (execOp a.eval o).run c.P w = (callFunc g vs).run c.P w)
    {r : AV} {e' : Env} {m' : Mc} {K : Act → World → Prop} {Q : Exit → Act → World → Prop} (h : CallDoes c g vs w (CallPost c ρ m w a.tmps r e' m')) (hk : Then c ρ m w a o .no r e' m' K) : o.wp c.P a w K Q := by
  unfold Oper.wp
  rw [hrun]
  rcases h with ⟨h1, h2⟩ | ⟨y, w', h1, ρ', h2, h3, h4, h5, h6⟩
  · rw [h1]
    refine h2.mono ?_
    rintro e w' ⟨y, rfl, ρ', q1, q2, q3, q4, q5⟩
    exact hk y w' ρ' q1 trivial (fun d q hq => by cases hq) q2 q3 q4 q5
  · rw [h1]
    exact hk y w' ρ' h2 trivial (fun d q hq => by cases hq) h3 h4 h5 h6

theorem cop_sound (hc : CfgOk c) (hb : BodyOk c body) (hs : Sim c.G ρ m.st w) {a : Act} {e : Env} (he : EnvOk ρ w m.D a.tmps e) {o : Oper} {t : Tag} {v : AV} {dr : Dr} {m' : Mc} (h : c.op body (opv c.G e) (opt e) m o = some ((t, v), dr, m')) {K : Act → World → Prop} {Q : Exit → Act → World → Prop}
    (hk : Then c ρ m w a o t v (e.dr dr) m' K) : o.wp c.P a w K Q := by
  unfold Cfg.op at h
  split at h
  · rename_i f args ts ho
    cases hca : aCallee (opv c.G e) f args.toList with
    | none => simp [hca] at h
    | some ga =>
      obtain ⟨g, as⟩ := ga
      simp only [hca, Option.bind_some] at h
      obtain ⟨y, hy, e0⟩ := Option.map_eq_some_iff.1 h
      obtain ⟨y1, y2, y3⟩ := y
      injection e0 with e1 e2
      injection e1 with e1 e4
      injection e2 with e2 e3
      subst e1 e2 e3 e4
      obtain ⟨A1, A2, hf, s1, s2⟩ := callee_rep hs he hca
      exact wp_called (execOp_call ho hf) (call_does hc hb hy s1 s2 hs he) hk
  · rename_i r name args ts ho
    split at h
    · rename_i tt av hav
      cases hm : methodOf c.P tt name with
      | none => simp [hm] at h
      | some g =>
        simp only [hm, Option.bind_some] at h
        obtain ⟨y, hy, e0⟩ := Option.map_eq_some_iff.1 h
        obtain ⟨y1, y2, y3⟩ := y
        injection e0 with e1 e2
        injection e1 with e1 e4
        injection e2 with e2 e3
        subst e1 e2 e3 e4
        obtain ⟨v, hv, hrv⟩ := (hav ▸ he.rdV hs.glob r : Rep ρ w (a.eval r) (.ifc tt av)).ifc_inv
        obtain ⟨m1, m2⟩ := map_rep (he.rdV hs.glob) args
        refine wp_called (execOp_invoke ho hv hm) (call_does hc hb hy (by simp [Nat.add_comm]) (fun j u x hj hx => ?_) hs he) hk
        cases j with
        | zero =>
          rw [Array.getElem?_append_left (by simp)] at hj
          simp at hj hx
          subst hj hx
          exact hrv
        | succ j =>
          rw [Array.getElem?_append_right (by simp)] at hj
          simp at hx
          refine m2 j u x (by simpa using hj) (by simpa using hx)
    · cases h
  · rename_i args argTypes ho
    split at h
    · rename_i x y T U hx hT
      split at h
      · have e1 : args = #[x, y] := by apply Array.toList_inj.1; simpa using hx
        have e2 : argTypes = #[T, U] := by apply Array.toList_inj.1; simpa using hT
        subst e1 e2
        obtain ⟨r, hv, e0⟩ := Option.map_eq_some_iff.1 h
        obtain ⟨rv, rm⟩ := r
        injection e0 with q1 q2
        injection q1 with q1 q3
        injection q2 with q2 q4
        subst q1 q2 q3 q4
        have hR := he.rdV hs.glob
        obtain ⟨⟨z, w', ρ', h1, h2, h3, h4, h5⟩, h6⟩ := appendV_sound (P := c.P) hs (hR x) (hR y) hv o.type
        exact wp_did (t := .no) (v := rv) (e' := e.dr .keep) (m' := rm) ⟨.value z, z, w', ρ', by simp [execOp, ho, resolve, invoke, builtin, h1], .inl rfl, h2, trivial, by simp [Tag.of], h3, h4, he.pers h4.pers (fun _ _ _ _ _ _ => by rw [h5]), h6⟩ hk
      · exact wp_did (op_sound hs he h) hk
    · cases h
  · rename_i T l k ho
    split at h
    · rename_i v0 hv
      split at hv
      case isFalse => cases hv
      injection h with h
      injection h with q1 q2
      injection q1 with q1 q3
      injection q2 with q2 q4
      subst q1 q2 q3 q4
      have hR := he.rdV hs.glob
      have := Did.ofStep (P := c.P) he (makeImm_sound hs (hR l) (hR k) hv) (m' := m) rfl
      exact wp_did (by simpa only [execOp, ho] using this) hk
    · exact wp_did (op_sound hs he h) hk
  · rename_i T len parts ho
    split at h
    · obtain ⟨r, hv, e0⟩ := Option.map_eq_some_iff.1 h
      obtain ⟨rv, rm⟩ := r
      injection e0 with q1 q2
      injection q1 with q1 q3
      injection q2 with q2 q4
      subst q1 q2 q3 q4
      obtain ⟨g1, g2⟩ := buildMut_sound (P := c.P) hs (he.rdV hs.glob) hv
      have := Did.ofStep (P := c.P) he g1 g2
      exact wp_did (by simpa only [execOp, ho] using this) hk
    · exact wp_did (op_sound hs he h) hk
  · exact wp_did (op_sound hs he h) hk

/-- The state at a point of a running function. -/
structure At (c : Cfg) (N : Nat) (ρ : Ren) (e : Env) (m : Mc) (a : Act) (w : World) : Prop where
  sim : Sim c.G ρ m.st w
  env : EnvOk ρ w m.D a.tmps e
  size : N ≤ a.tmps.size
  dfr : a.defers = []

def After (c : Cfg) (N : Nat) (ρ : Ren) (m : Mc) (w : World) (e' : Env) (m' : Mc) (a' : Act) (w' : World) : Prop :=
  ∃ ρ', At c N ρ' e' m' a' w' ∧ Ext m.D ρ m.st w ρ' m'.st w' ∧ m'.base.length = m.base.length

theorem After.trans {N : Nat} {m1 m2 : Mc} {e2 : Env} {a2 : Act} {w1 w2 : World} {ρ1 : Ren} (h1 : Ext m.D ρ m.st w ρ1 m1.st w1) (hl : m1.base.length = m.base.length) (h2 : After c N ρ1 m1 w1 e2 m2 a2 w2) : After c N ρ m w e2 m2 a2 w2 := by
  obtain ⟨ρ', g1, g2, g3⟩ := h2
  have hD : m1.D = m.D := hl
  rw [hD] at g2
  exact ⟨ρ', g1, h1.trans g2, g3.trans hl⟩

theorem at_put {N : Nat} {a : Act} {e' : Env} {m' : Mc} {o : Oper} (hd : dstOk N o = true) (hN : N ≤ a.tmps.size) (hdf : a.defers = []) {y : Value} {v : AV} {t : Tag} (h1 : Rep ρ w y v) (h2 : TagOk ρ y v t) (h3 : ∀ d q, t.of = some (.reg d q) → d = m'.D) (h4 : Sim c.G ρ m'.st w) (h5 : EnvOk ρ w m'.D a.tmps e') :
    At c N ρ (e'.set o.dst (t, v)) m' (a.put o.dst y) w := by
  unfold dstOk at hd
  cases hdst : o.dst with
  | none => exact ⟨h4, h5, hN, hdf⟩
  | some r =>
    rw [hdst] at hd
    have hd' : r < N := by simpa using hd
    refine ⟨h4, h5.put (Nat.lt_of_lt_of_le hd' hN) h1 h2 h3, by simpa [Act.put] using hN, by simpa [Act.put] using hdf⟩

theorem wanted_of {a : Act} {e : Env} {D : Nat} (he : EnvOk ρ w D a.tmps e) {ops : Array Oper} {o : Oper} {g : Bool} (h : wantedA ops e o = some g) : Region.wanted o (yielded ops a.tmps) = g := by
  unfold wantedA at h
  unfold Region.wanted
  split at h
  · rename_i hg
    injection h with h
    rw [hg]
    exact h
  · rename_i j want hg
    rw [hg]
    simp only
    split at h
    · rename_i r hr
      split at h
      · rename_i b hb
        injection h with h
        have hl : ∃ t, e.lookup r = some (t, .bool b) := by
          rw [Env.get_def] at hb
          cases hl : e.lookup r with
          | none => simp [hl] at hb
          | some x => simp [hl] at hb; exact ⟨x.1, by rw [← hb]⟩
        obtain ⟨t, hl⟩ := hl
        obtain ⟨v, h1, h2, _⟩ := he.ok r t _ hl
        have := h2.bool_inv
        subst this
        unfold yielded
        rw [hr]
        simp only [Option.bind_some, h1]
        rw [← h]
        cases b <;> cases want <;> rfl
      · cases h
    · cases h

/-- One operation with its guard: what is needed of f. -/
def FOk (c : Cfg) (f : (Operand → AV) → (Operand → Tag) → Mc → Oper → Option ((Tag × AV) × Dr × Mc)) (o : Oper) : Prop :=
  ∀ {ρ : Ren} {w : World} {m : Mc}, Sim c.G ρ m.st w → ∀ {a : Act} {e : Env}, EnvOk ρ w m.D a.tmps e → ∀ {t : Tag} {v : AV} {dr : Dr} {m' : Mc}, f (opv c.G e) (opt e) m o = some ((t, v), dr, m') → ∀ {K : Act → World → Prop} {Q : Exit → Act → World → Prop},
    Then c ρ m w a o t v (e.dr dr) m' K → o.wp c.P a w K Q

theorem step_sound {f : (Operand → AV) → (Operand → Tag) → Mc → Oper → Option ((Tag × AV) × Dr × Mc)} {N : Nat} {ops : Array Oper} {i : Nat} {o : Oper} (hi : ops[i]? = some o) (hf : FOk c f o) {e : Env} {e' : Env} {m' : Mc} (h : stepBy f c.G N ops o e m = some (e', m'))
    {a : Act} (hat : At c N ρ e m a w) {K : Act → World → Prop} {Q : Exit → Act → World → Prop} (hk : ∀ a' w', After c N ρ m w e' m' a' w' → K a' w') : wpOp c.P ops Q i K a w := by
  unfold stepBy at h
  split at h
  case isFalse => cases h
  rename_i hd
  split at h
  case h_2 => cases h
  rename_i g hg
  have hw := wanted_of hat.env hg
  unfold wpOp
  rw [hi]
  simp only [hw]
  split at h
  · rename_i ht
    rw [if_pos ht]
    obtain ⟨r, hr, e0⟩ := Option.map_eq_some_iff.1 h
    obtain ⟨⟨t, v⟩, dr, m1⟩ := r
    injection e0 with e1 e2
    subst e1 e2
    refine .inl (hf hat.sim hat.env hr fun y w' ρ' h1 h2 h3 h4 h5 h6 h7 => hk _ _ ⟨ρ', ?_, h5, h7⟩)
    have hD : m.D = m1.D := h7.symm
    rw [hD] at h3 h6
    exact at_put hd hat.size hat.dfr h1 h2 h3 h4 h6
  · rename_i ht
    rw [if_neg ht]
    injection h with h
    injection h with e1 e2
    subst e1 e2
    exact hk _ _ ⟨ρ, at_put hd hat.size hat.dfr (.any _) trivial (fun d q hq => by cases hq) hat.sim hat.env, Ext.refl .., rfl⟩

theorem ops_sound (hc : CfgOk c) (hb : BodyOk c body) {N : Nat} {ops : Array Oper} {Q : Exit → Act → World → Prop} : ∀ (l : List Oper) (p : Nat), ops.toList.drop p = l → ∀ {ρ : Ren} {w : World} {m : Mc} {e e' : Env} {m' : Mc} {a : Act}, c.ops body N ops l e m = some (e', m') → At c N ρ e m a w →
    (∀ a' w', After c N ρ m w e' m' a' w' → Q .normal a' w') → wpOps c.P ops Q (List.range' p l.length) a w := by
  intro l
  induction l with
  | nil =>
    intro p hp ρ w m e e' m' a h hat hk
    injection h with h
    injection h with e1 e2
    subst e1 e2
    exact hk a w ⟨ρ, hat, Ext.refl .., rfl⟩
  | cons o l ih =>
    intro p hp ρ w m e e' m' a h hat hk
    have hi : ops[p]? = some o := by
      have := congrArg (fun l => l[0]?) hp
      simpa using this
    have hp' : ops.toList.drop (p + 1) = l := by
      have := congrArg List.tail hp
      simpa using this
    simp only [Cfg.ops] at h
    cases hst : stepBy (c.op body) c.G N ops o e m with
    | none => simp [hst] at h
    | some r =>
      obtain ⟨e1, m1⟩ := r
      simp only [hst, Option.bind_some] at h
      rw [List.length_cons, List.range'_succ, wpOps_cons]
      refine step_sound hi (fun hs a e he t v dr m' hh K Q hk => cop_sound hc hb hs he hh hk) hst hat fun a1 w1 ⟨ρ1, g1, g2, g3⟩ => ?_
      exact ih (p + 1) hp' h g1 fun a' w' haf => hk a' w' (After.trans g2 g3 haf)

end
end
end Go.Ab
