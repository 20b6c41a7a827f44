import Derived.Test.YtlpffainhdnaiaaGreatDoorAbSeq
import Derived.Scope
/- Code and functions: sound. -/
namespace Go.Ab
open Go
noncomputable section

section
variable {c : Cfg} {body : Body} {ρ ρ' : Ren} {S S' : St} {w w' : World} {m : Mc}

def Oc.ex : Oc → Exit → Prop
  | .next, .normal => True
  | .exit id, .exit id' => id = id'
  | .goto l, .goto l' => l = l'
  | .ret, .ret => True
  | _, _ => False

/-- What a piece of code leaves. -/
def Post (c : Cfg) (N : Nat) (ρ : Ren) (m : Mc) (w : World) (r : Res) : Exit → Act → World → Prop :=
  fun x a' w' => r.1.ex x ∧ After c N ρ m w r.2.1 r.2.2 a' w'

def CodeOk (c : Cfg) (N : Nat) (code : Code) (e : Env) (m : Mc) (r : Res) : Prop :=
  ∀ ρ a w, At c N ρ e m a w → code.wp c.P (Post c N ρ m w r) a w

theorem After.cut {N n : Nat} {e' : Env} {m' : Mc} {a' : Act} (h : After c N ρ m w e' m' a' w') : After c N ρ m w (e'.take n) m' a' w' := by
  obtain ⟨ρ', h1, h2, h3⟩ := h
  exact ⟨ρ', ⟨h1.sim, h1.env.take n, h1.size, h1.dfr⟩, h2, h3⟩

theorem rin_not {p : Nat → Nat → Bool} {a : AV} (h : AV.rin p a = true) : AV.rin p a = true := h

/-- What was made behind place n of the own frame goes. -/
theorem trunc_sound (hg : ∀ g, (c.G g).nref = true) {N n : Nat} {e : Env} {m0 m1 m2 : Mc} {ρ0 : Ren} {w0 : World} {a : Act} (hs0 : Sim c.G ρ0 m0.st w0) (hn : m0.fr.length = n) (hx : Ext m0.D ρ0 m0.st w0 ρ m1.st w) (hl : m1.base.length = m0.base.length)
    (h : trunc n e m1 = some m2) (hat : At c N ρ e m1 a w) : After c N ρ0 m0 w0 e m2 a w := by
  unfold trunc at h
  split at h
  · injection h with h
    subst h
    exact ⟨ρ, hat, hx, hl⟩
  · split at h
    · rename_i hok
      injection h with h
      subst h
      unfold truncOk at hok
      simp only [Bool.and_eq_true, List.all_eq_true] at hok
      obtain ⟨ok1, ok2⟩ := hok
      let p : Nat → Nat → Bool := fun d i => !(d == m1.D && decide (n ≤ i))
      let ρ2 : Ren := ⟨ρ.im, fun d i => if p d i then ρ.mb d i else none, ρ.ow⟩
      have hmb : ∀ d i, p d i = true → ρ2.mb d i = ρ.mb d i := fun d i hp => by simp [ρ2, hp]
      have hrs : ∀ {v : Value} {a : AV}, AV.rin p a = true → Rep ρ w v a → Rep ρ2 w v a := fun hn hv =>
        hv.restr (ρ := ρ) (ρ' := ρ2) (p := p) (fun _ _ h => h) (fun _ _ _ => rfl) (fun _ _ _ h => h) hmb (Pers.refl ρ w).sz hn
      have hblk : ∀ d i, (Mc.st { m1 with fr := m1.fr.take n }).blk d i = if p d i then m1.st.blk d i else none := by
        intro d i
        rw [Mc.st_blk, Mc.st_blk]
        unfold Mc.blk
        simp only
        by_cases hd : d = m1.base.length
        · rw [if_pos hd, if_pos hd, List.getElem?_take]
          by_cases hi : i < n
          · rw [if_pos hi, if_pos (by simp [p]; omega)]
          · rw [if_neg hi, if_neg (by simp [p, Mc.D, hd]; omega)]
        · rw [if_neg hd, if_neg hd, if_pos (by simp [p, Mc.D, hd])]
      have hown : ∀ d i b, own ρ2 (Mc.st { m1 with fr := m1.fr.take n }) d i = some b → own ρ m1.st d i = some b := by
        intro d i b ho
        obtain ⟨h1, k, h2, h3⟩ := own_blk ho
        by_cases hp : p d i = true
        · rw [hblk, if_pos hp] at h2
          rw [hmb d i hp] at h1
          exact own_of h1 h2 h3
        · rw [hblk, if_neg hp] at h2
          cases h2
      have hs := hat.sim
      have hsim : Sim c.G ρ2 (Mc.st { m1 with fr := m1.fr.take n }) w := by
        refine ⟨fun d i b hb => ?_, fun d i k hk => ?_, fun d i d' i' b h1 h2 => hs.inj d i d' i' b (hown _ _ _ h1) (hown _ _ _ h2), ?_, hs.im, fun g => hrs (AV.rin_of_nref (hg g)) (hs.glob g)⟩
        · by_cases hp : p d i = true
          · rw [hmb d i hp] at hb
            rw [hblk, if_pos hp]
            exact hs.dm d i b hb
          · simp [ρ2, hp] at hb
        · by_cases hp : p d i = true
          · rw [hblk, if_pos hp] at hk
            have hok := hs.ok d i k hk
            cases k with
            | cells cs ts =>
              intro b hb
              rw [hmb d i hp] at hb
              obtain ⟨h1, arr, T, h2, h3, h4⟩ := hok b hb
              refine ⟨h1, arr, T, h2, h3, fun j cc hc => ?_⟩
              obtain ⟨a1, a0, v, a2, a3, a4, a5⟩ := h4 j cc hc
              refine ⟨a1, a0, v, a2, a3, hrs ?_ a4, a5⟩
              by_cases hd : d = m1.base.length
              · have hi : i < n := by
                  simp only [p, Bool.not_eq_true', Bool.and_eq_false_iff, beq_eq_false_iff_ne, decide_eq_false_iff_not] at hp
                  rcases hp with hp | hp
                  · exact absurd hd hp
                  · omega
                rw [Mc.st_blk] at hk
                unfold Mc.blk at hk
                rw [if_pos hd] at hk
                have hmem : Blk.cells cs ts ∈ m1.fr.take n := List.mem_of_getElem? (i := i) (by rw [List.getElem?_take, if_pos hi]; exact hk)
                exact AV.rinL_get (ok2 _ hmem) hc
              · refine AV.rin_mono (fun d' i' hd' => ?_) _ a1
                have hlt := St.lt_of_blk hk
                rw [Mc.st_length] at hlt
                simp only [hyg, decide_eq_true_eq] at hd'
                have : ¬ d' = m1.base.length := by omega
                simp [p, Mc.D, this]
            | map l =>
              intro b hb
              rw [hmb d i hp] at hb
              exact hok b hb
            | iter s q =>
              intro b hb
              rw [hmb d i hp] at hb
              exact hok b hb
            | dead => trivial
          · rw [hblk, if_neg hp] at hk
            cases hk
        · exact hs.ow.same rfl (fun k b e m arr T _ hb => ⟨arr, T, hb, Nat.le_refl _⟩) (fun _ _ _ _ _ _ _ hi => hi) fun k b e m hk d i ho => ⟨d, i, hown d i b ho⟩
      have henv : EnvOk ρ2 w m1.D a.tmps e := by
        refine ⟨fun r t av hl => ?_⟩
        obtain ⟨v, h1, h2, h3, h4⟩ := hat.env.ok r t av hl
        refine ⟨v, h1, hrs ?_ h2, h3.pers fun _ _ => rfl, h4⟩
        have hmem : (r, t, av) ∈ e := by
          have : ∀ (l : Env) x, l.lookup r = some x → (r, x) ∈ l := by
            intro l
            induction l with
            | nil => intro x h; simp at h
            | cons y l ih =>
              intro x h
              obtain ⟨q, y⟩ := y
              simp only [List.lookup_cons] at h
              split at h
              · rename_i hq
                injection h with h
                have : r = q := by simpa using hq
                subst this h
                exact List.mem_cons_self ..
              · exact List.mem_cons_of_mem _ (ih x h)
          exact this e _ hl
        exact ok1 _ hmem
      refine ⟨ρ2, ⟨hsim, henv, hat.size, hat.dfr⟩, ⟨⟨hx.pers.im, hx.pers.cell, hx.pers.zf, fun d i b hb => ?_, hx.pers.sz⟩, hx.os, hx.tape, hx.output, hx.size, ?_, hx.regs, hx.keep, fun b ho hb => hx.fresh b ?_ hb, fun d i hi => ?_, fun d => ?_⟩, hl⟩
      · have h0 := hs0.dm d i b hb
        obtain ⟨k, hk⟩ := Option.isSome_iff_exists.1 h0
        have hp : p d i = true := by
          by_cases hd : d = m1.D
          · have hi : i < n := by
              rw [Mc.st_blk] at hk
              unfold Mc.blk at hk
              have hd0 : d = m0.base.length := by rw [hd]; exact hl
              rw [if_pos hd0] at hk
              have := (List.getElem?_eq_some_iff.1 hk).1
              omega
            simp [p]; omega
          · simp [p, hd]
        rw [hmb d i hp]
        exact hx.pers.mb d i b hb
      · have := hx.len
        rw [Mc.st_length] at this ⊢
        exact this
      · rcases ho with ⟨d, i, ho⟩ | ho
        · exact .inl ⟨d, i, hown d i b ho⟩
        · exact .inr ho
      · refine (hmb d i ?_).trans (hx.mbk d i hi)
        by_cases hd : d = m1.D
        · subst hd
          have hD : m1.D = m0.D := hl
          rw [hD, Mc.st_len, hn] at hi
          simp [p]; omega
        · simp [p, hd]
      · by_cases hd : d = m1.D
        · subst hd
          have h1 := hx.lens m1.D
          have h2 : (Mc.st { m1 with fr := m1.fr.take n }).len m1.D = (m1.fr.take n).length := Mc.st_len { m1 with fr := m1.fr.take n }
          have hD : m1.D = m0.D := hl
          rw [h2, hD, Mc.st_len, hn, List.length_take]
          rw [Mc.st_len, hD, Mc.st_len, hn] at h1
          omega
        · refine Nat.le_trans (hx.lens d) (Nat.le_of_eq ?_)
          unfold St.len Mc.st
          rcases Nat.lt_trichotomy d m1.base.length with h | h | h
          · rw [List.getElem?_append_left h, List.getElem?_append_left h]
          · exact absurd h hd
          · rw [List.getElem?_eq_none (by simp; omega), List.getElem?_eq_none (by simp; omega)]
    · injection h with h
      subst h
      exact ⟨ρ, hat, hx, hl⟩

theorem initEnv_lookup : ∀ (as : List AV) (i r : Nat) (t : Tag) (a : AV), (initEnv i as).lookup r = some (t, a) → t = .no ∧ i ≤ r ∧ as[r - i]? = some a := by
  intro as
  induction as with
  | nil => intro i r t a h; simp [initEnv] at h
  | cons x as ih =>
    intro i r t a h
    simp only [initEnv, List.lookup_cons] at h
    split at h
    · rename_i hr
      injection h with h
      injection h with h1 h2
      have : r = i := by simpa using hr
      subst this h1 h2
      exact ⟨rfl, Nat.le_refl _, by simp⟩
    · obtain ⟨h1, h2, h3⟩ := ih (i + 1) r t a h
      refine ⟨h1, by omega, ?_⟩
      have e : r - i = (r - (i + 1)) + 1 := by omega
      rw [e]
      exact h3

theorem init_env {as : List AV} {vs : Array Value} {D : Nat} (h1 : vs.size = as.length) (h2 : ∀ (j : Nat) v a, vs[j]? = some v → as[j]? = some a → Rep ρ w v a) (rest : Array Value) : EnvOk ρ w D (vs ++ rest) (initEnv 0 as) := by
  refine ⟨fun r t a hl => ?_⟩
  obtain ⟨rfl, _, h3⟩ := initEnv_lookup as 0 r t a hl
  rw [Nat.sub_zero] at h3
  have hlt : r < vs.size := by rw [h1]; exact (List.getElem?_eq_some_iff.1 h3).1
  refine ⟨vs[r], by rw [Array.getElem?_append_left hlt, Array.getElem?_eq_getElem hlt], h2 r _ a (Array.getElem?_eq_getElem hlt) h3, trivial, fun d q hq => by cases hq⟩

def resSem (tmps : Array Value) : ResultVar → Sem Value
  | .tmp t => pure (tmps.getD t undef)
  | .cell x t => do loadVar t (← asAddr (tmps.getD x undef))

theorem results_eq (fn : Func) (tmps : Array Value) : results fn tmps = (do let vs ← fn.results.mapM (resSem tmps); pure (if h : vs.size = 1 then vs[0] else .tuple vs)) := by
  have e : (fun x => match x with
    | .tmp t => pure (tmps.getD t undef)
    | .cell a t => do loadVar t (← asAddr (tmps.getD a undef)) : ResultVar → Sem Value) = resSem tmps := by
    funext x
    cases x <;> rfl
  rw [← e]
  rfl

theorem results_list {P : Program} {G : Nat → AV} (hs : Sim G ρ m.st w) {a : Act} {e : Env} (he : EnvOk ρ w m.D a.tmps e) : ∀ (l : List ResultVar) (rs : List AV), resultsA P e m l = some rs →
    ∃ ys : List Value, (l.mapM (resSem a.tmps)).run P w = .ok ys w ∧ ys.length = rs.length ∧ ∀ (j : Nat) y r, ys[j]? = some y → rs[j]? = some r → Rep ρ w y r := by
  intro l
  induction l with
  | nil =>
    intro rs h
    simp [resultsA] at h
    subst h
    exact ⟨[], by simp, rfl, by simp⟩
  | cons x l ih =>
    intro rs h
    have key : ∀ (y : Value) (r : AV) (rs' : List AV), (resSem a.tmps x).run P w = .ok y w → Rep ρ w y r → resultsA P e m l = some rs' → rs = r :: rs' →
        ∃ ys : List Value, ((x :: l).mapM (resSem a.tmps)).run P w = .ok ys w ∧ ys.length = rs.length ∧ ∀ (j : Nat) y r, ys[j]? = some y → rs[j]? = some r → Rep ρ w y r := by
      intro y r rs' h1 h2 h3 h4
      obtain ⟨ys, g1, g2, g3⟩ := ih rs' h3
      subst h4
      refine ⟨y :: ys, ?_, by simp [g2], fun j y' r' hj hr => ?_⟩
      · rw [List.mapM_cons]
        simp only [Sem.run_bind]
        rw [h1]
        simp only [Result.andThen_ok]
        rw [g1]
        simp
      · cases j with
        | zero => simp at hj hr; subst hj hr; exact h2
        | succ j => exact g3 j y' r' (by simpa using hj) (by simpa using hr)
    cases x with
    | tmp t =>
      simp only [resultsA, Option.map_eq_some_iff] at h
      obtain ⟨rs', h1, rfl⟩ := h
      exact key _ _ rs' (by simp only [resSem, Sem.run_pure]; rfl) (he.rdV hs.glob (.tmp t)) h1 rfl
    | cell x T =>
      simp only [resultsA] at h
      cases hld : aLoad P m T (e.get x).2 with
      | none => simp [hld] at h
      | some tv =>
        obtain ⟨t, v⟩ := tv
        simp only [hld, Option.bind_some, Option.map_eq_some_iff] at h
        obtain ⟨rs', h1, rfl⟩ := h
        have hx : Rep ρ w (a.tmps.getD x undef) (e.get x).2 := he.rdV hs.glob (.tmp x)
        obtain ⟨y, q1, q2, _⟩ := load_sound (P := P) hs hx hld
        have hp : ∃ ad, a.tmps.getD x undef = .pointer (some ad) := by
          unfold aLoad at hld
          split at hld
          · rename_i heq
            rw [heq] at hx
            obtain ⟨b, _, e1⟩ := hx.mp_inv
            exact ⟨_, e1⟩
          · rename_i heq
            rw [heq] at hx
            obtain ⟨b, o, f, e1, _⟩ := hx.ip_inv
            exact ⟨_, e1⟩
          · cases hld
        obtain ⟨ad, had⟩ := hp
        rw [had] at q1
        refine key y v rs' ?_ q2 h1 rfl
        show (do loadVar T (← asAddr (a.tmps.getD x undef)) : Sem Value).run P w = _
        rw [had]
        simpa [Instr.loadAt, Instr.sureAddr, asAddr] using q1

theorem results_sound {P : Program} {G : Nat → AV} (hs : Sim G ρ m.st w) {a : Act} {e : Env} (he : EnvOk ρ w m.D a.tmps e) {fn : Func} {rs : List AV} (h : resultsA P e m fn.results.toList = some rs) : ∃ y, (results fn a.tmps).run P w = .ok y w ∧ Rep ρ w y (packR rs) := by
  obtain ⟨ys, h1, h2, h3⟩ := results_list hs he _ _ h
  have hm : (fn.results.mapM (resSem a.tmps)).run P w = .ok ys.toArray w := by
    rw [Array.mapM_eq_mapM_toList]
    simp [h1]
  rw [results_eq]
  simp only [Sem.run_bind, hm, Result.andThen_ok, Sem.run_pure]
  refine ⟨_, rfl, ?_⟩
  by_cases hl : ys.length = 1
  · match ys, rs, hl, h2, h3 with
    | [y], [r], _, _, h3 => simpa [packR] using h3 0 y r rfl rfl
  · have hp : packR rs = .tup rs := by
      match rs, h2 with
      | [], _ => rfl
      | [r], h2 => exact absurd h2 hl
      | _ :: _ :: _, _ => rfl
    rw [hp]
    simp only [List.size_toArray, hl, dite_false]
    exact .tup _ _ (by simpa using h2) fun j y r hj hr => h3 j y r (by simpa using hj) hr

/-- Open regions do what ours says. -/
def DrawsOk (c : Cfg) : Prop :=
  ∀ (body : Body), BodyOk c body → ∀ (N : Nat) (ops : Array Oper) (e e' : Env) (m m' : Mc) (zs : List Blk), okDraw ops = true → zerosOf c.P ops.toList = some zs →
    c.draws body m.D m.fr.length N ops ops.toList 0 m.fr.length e { m with fr := m.fr ++ zs } = some (e', m') → ∀ id, CodeOk c N (.region id ops true) e m (.next, e', m')

theorem post_mono {N : Nat} {r : Res} {ρ1 : Ren} {m1 : Mc} {w1 : World} (h1 : Ext m.D ρ m.st w ρ1 m1.st w1) (hl : m1.base.length = m.base.length) {x : Exit} {a' : Act} {w' : World} (h : Post c N ρ1 m1 w1 r x a' w') : Post c N ρ m w r x a' w' :=
  ⟨h.1, After.trans h1 hl h.2⟩

theorem rounds_mono {P : Program} {b : Code} {Q Q' : Exit → Act → World → Prop} (hq : ∀ x a w, Q x a w → Q' x a w) : ∀ (n : Nat) (a : Act) (w : World), Code.rounds P b Q n a w → Code.rounds P b Q' n a w := by
  intro n
  induction n with
  | zero => intro a w h; exact h.elim
  | succ n ih =>
    intro a w h
    refine wp_mono h fun x a' w' hx => ?_
    cases x <;> first | exact hq _ _ _ hx | exact ih _ _ hx

/-- A scope's run: from a piece of its code, jumps followed. -/
def Code.wpRounds (P : Program) (body : Code) (Q : Exit → Act → World → Prop) : Nat → Code → Act → World → Prop
  | 0, _, _, _ => False
  | n + 1, b, a, w => b.wp P (fun x a' w' => match x with | .goto l => ∃ rest, findLabel body l = some rest ∧ Code.wpRounds P body Q n rest a' w' | x => Q x a' w') a w

theorem wp_scope_run {P : Program} {Q : Exit → Act → World → Prop} {a : Act} {w : World} {c : Code} (n : Nat) (h : Code.wpRounds P c Q n c a w) : (Code.scope c).wp P Q a w := by
  intro b k cs
  have key : ∀ n d a w, Code.wpRounds P c Q n d a w → ∃ e a' w', Q e a' w' ∧ Arrives P (lone (b.at a (.code d :: .inScope c :: k)) cs w) b k cs e a' w' := by
    intro n
    induction n with
    | zero => intro d a w h; exact h.elim
    | succ n ih =>
      intro d a w h
      obtain ⟨e, a₁, w₁, hq, harr⟩ := h b (.inScope c :: k) cs
      cases e with
      | normal => exact ⟨.normal, a₁, w₁, hq, Steps.trans harr (.one step_inScope)⟩
      | exit id => exact ⟨.exit id, a₁, w₁, hq, fun k' hk => harr k' (by simp [exitTo, hk])⟩
      | goto l' =>
        obtain ⟨rest, hf, hr⟩ := hq
        have hg : gotoIn l' (.inScope c :: k) = some (.code rest :: .inScope c :: k) := by simp [gotoIn, hf]
        obtain ⟨e₂, a₂, w₂, hq₂, harr₂⟩ := ih rest a₁ w₁ hr
        exact ⟨e₂, a₂, w₂, hq₂, .of_steps (harr _ hg) harr₂⟩
      | ret => exact ⟨_, a₁, w₁, hq, harr⟩
      | panic ch => exact ⟨_, a₁, w₁, hq, harr⟩
      | outgrown => exact ⟨_, a₁, w₁, hq, harr⟩
  obtain ⟨e, a', w', hq, harr⟩ := key n c a w h
  exact ⟨e, a', w', hq, .of_steps (.one step_scope) harr⟩

theorem scope_sound {N : Nat} {body : Code} {f : Code → Env → Mc → Option Res} (hf : ∀ b e m r, f b e m = some r → CodeOk c N b e m r) : ∀ (k : Nat) (b : Code) (e : Env) (m : Mc) (r : Res), scopeN f body k b e m = some r → ∀ ρ a w, At c N ρ e m a w → Code.wpRounds c.P body (Post c N ρ m w r) k b a w := by
  intro k
  induction k with
  | zero => intro b e m r h; simp [scopeN] at h
  | succ k ih =>
    intro b e m r h ρ a w hat
    simp only [scopeN] at h
    cases hr : f b e m with
    | none => simp [hr] at h
    | some r1 =>
      obtain ⟨o, e1, m1⟩ := r1
      simp only [hr, Option.bind_some] at h
      have hwp := hf _ _ _ _ hr ρ a w hat
      refine wp_mono hwp fun x a' w' hx => ?_
      cases o with
      | goto l =>
        cases x with
        | goto l' =>
          obtain ⟨rfl, ρ1, hat1, hx2, hx3⟩ := hx
          simp only at h
          cases hl : findLabel body l with
          | none => simp [hl] at h
          | some rest =>
            simp only [hl, Option.bind_some] at h
            obtain ⟨n1, n2⟩ := norm_sim hat1.sim m.D
            have hat2 : At c N ρ1 (e1.norm m1.D) m1.norm a' w' := ⟨n1, hat1.env.norm, hat1.size, hat1.dfr⟩
            refine ⟨rest, hl, ?_⟩
            have hgo := ih rest _ _ r h ρ1 a' w' hat2
            have hmono : ∀ (j : Nat) (d : Code) (Q Q' : Exit → Act → World → Prop), (∀ x a w, Q x a w → Q' x a w) → ∀ a w, Code.wpRounds c.P body Q j d a w → Code.wpRounds c.P body Q' j d a w := by
              intro j
              induction j with
              | zero => intro d Q Q' _ a w h; exact h.elim
              | succ j ihj =>
                intro d Q Q' hq a w h
                refine wp_mono h fun x a' w' hx => ?_
                cases x <;> first
                  | exact hq _ _ _ hx
                  | (obtain ⟨rest, g1, g2⟩ := hx; exact ⟨rest, g1, ihj rest Q Q' hq _ _ g2⟩)
            exact hmono k rest _ _ (fun x a w hp => post_mono (hx2.trans n2) (by exact hx3) hp) _ _ hgo
        | _ => exact absurd hx.1 (by simp [Oc.ex])
      | next =>
        injection h with h; subst h
        cases x <;> first | exact hx | exact absurd hx.1 (by simp [Oc.ex])
      | exit id =>
        injection h with h; subst h
        cases x <;> first | exact hx | exact absurd hx.1 (by simp [Oc.ex])
      | ret =>
        injection h with h; subst h
        cases x <;> first | exact hx | exact absurd hx.1 (by simp [Oc.ex])

theorem EnvOk.only {D : Nat} {tmps : Array Value} {e : Env} (h : EnvOk ρ w D tmps e) (ks : Option (List Nat)) (hk : ∀ l, ks = some l → ∀ r ∈ l, r < tmps.size) : EnvOk ρ w D tmps (e.only ks) := by
  cases ks with
  | none => exact h
  | some l =>
    refine ⟨fun r t a hl => ?_⟩
    have hmem : r ∈ l ∧ e.get r = (t, a) := by
      have : ∀ (l : List Nat), (l.map fun r => (r, e.get r)).lookup r = some (t, a) → r ∈ l ∧ e.get r = (t, a) := by
        intro l
        induction l with
        | nil => intro h; simp at h
        | cons q l ih =>
          intro h
          simp only [List.map_cons, List.lookup_cons] at h
          split at h
          · rename_i hq
            have hq' : r = q := by simpa using hq
            subst hq'
            injection h with h
            exact ⟨List.mem_cons_self .., h⟩
          · obtain ⟨h1, h2⟩ := ih h
            exact ⟨List.mem_cons_of_mem _ h1, h2⟩
      exact this l hl
    obtain ⟨hm, hg⟩ := hmem
    rw [Env.get_def] at hg
    cases hx : e.lookup r with
    | some x =>
      rw [hx] at hg
      simp only [Option.getD_some] at hg
      subst hg
      exact h.ok r t a hx
    | none =>
      rw [hx] at hg
      simp only [Option.getD_none, Prod.mk.injEq] at hg
      obtain ⟨rfl, rfl⟩ := hg
      have hlt := hk l rfl r hm
      exact ⟨tmps[r], Array.getElem?_eq_getElem hlt, .any _, trivial, fun d q hq => by cases hq⟩

theorem loop_sound (hc : CfgOk c) {N : Nat} {b : Code} {ks : Option (List Nat)} (hks : ∀ l, ks = some l → ∀ r ∈ l, r < N) {f : Env → Mc → Option Res} (hf : ∀ e m r, f e m = some r → CodeOk c N b e m r) : ∀ (k : Nat) (e : Env) (m : Mc) (r : Res), loopN ks f k e m = some r → ∀ ρ a w, At c N ρ e m a w → Code.rounds c.P b (Post c N ρ m w r) k a w := by
  intro k
  induction k with
  | zero => intro e m r h; simp [loopN] at h
  | succ k ih =>
    intro e m r h ρ a w hat
    simp only [loopN] at h
    cases hr : f ((e.only ks).norm m.D) m.norm with
    | none => simp [hr] at h
    | some r1 =>
      obtain ⟨o, e1, m1⟩ := r1
      simp only [hr, Option.bind_some] at h
      obtain ⟨n1, n2⟩ := norm_sim hat.sim m.D
      have hlt : ∀ {a : Act}, N ≤ a.tmps.size → ∀ l, ks = some l → ∀ r ∈ l, r < a.tmps.size := fun hN l hl r hr => Nat.lt_of_lt_of_le (hks l hl r hr) hN
      have hat' : At c N ρ ((e.only ks).norm m.D) m.norm a w := ⟨n1, (hat.env.only ks (hlt hat.size)).norm, hat.size, hat.dfr⟩
      have hwp := hf _ _ _ hr ρ a w hat'
      have hD : m.norm.D = m.D := rfl
      rw [rounds_succ]
      cases o with
      | next =>
        simp only at h
        cases ht : trunc m.fr.length (e1.only ks) m1 with
        | none => simp [ht] at h
        | some m2 =>
          simp only [ht, Option.bind_some] at h
          refine wp_mono hwp fun x a' w' hx => ?_
          obtain ⟨hx1, ρ1, hat1, hx2, hx3⟩ := hx
          cases x with
          | normal =>
            have hnl : m.norm.fr.length = m.fr.length := by
              have : ∀ (d i : Nat) (l : List Blk), (normFr d i l).length = l.length := by
                intro d i l
                induction l generalizing i with
                | nil => rfl
                | cons b l ih => simp [normFr, ih]
              exact this _ _ _
            obtain ⟨ρ2, hat2, hx4, hx5⟩ := trunc_sound hc.gref n1 hnl hx2 hx3 ht ⟨hat1.sim, hat1.env.only ks (hlt hat1.size), hat1.size, hat1.dfr⟩
            have := ih _ _ _ h ρ2 a' w' hat2
            exact rounds_mono (fun x a w hp => post_mono (n2.trans hx4) hx5 hp) k a' w' this
          | _ => exact absurd hx1 (by simp [Oc.ex])
      | exit id =>
        simp only [Option.some.injEq] at h
        subst h
        refine wp_mono hwp fun x a' w' hx => ?_
        have := post_mono n2 rfl hx
        cases x <;> first | exact this | exact absurd hx.1 (by simp [Oc.ex])
      | goto id =>
        simp only [Option.some.injEq] at h
        subst h
        refine wp_mono hwp fun x a' w' hx => ?_
        have := post_mono n2 rfl hx
        cases x <;> first | exact this | exact absurd hx.1 (by simp [Oc.ex])
      | ret =>
        simp only [Option.some.injEq] at h
        subst h
        refine wp_mono hwp fun x a' w' hx => ?_
        have := post_mono n2 rfl hx
        cases x <;> first | exact this | exact absurd hx.1 (by simp [Oc.ex])

theorem body_of_code (hc : CfgOk c) {n : Nat} (h : ∀ N code e m r, c.ev n N code e m = some r → CodeOk c N code e m r) : BodyOk c (c.body n) := by
  intro g as base fr r base' fr' hb
  unfold Cfg.body at hb
  cases hfn : c.P.funcs[g]? with
  | none => simp [hfn] at hb
  | some fn =>
    simp only [hfn, Option.bind_some] at hb
    cases hbd : fn.body with
    | none => simp [hbd] at hb
    | some code =>
      simp only [hbd, Option.bind_some] at hb
      cases hev : c.ev n fn.ntmps code (initEnv 0 as) ⟨base, fr⟩ with
      | none => simp [hev] at hb
      | some res =>
        obtain ⟨o, e1, m1⟩ := res
        simp only [hev, Option.bind_some] at hb
        have hno : ∀ id, o ≠ .exit id := by
          intro id e0
          subst e0
          simp at hb
        have hng : ∀ id, o ≠ .goto id := by
          intro id e0
          subst e0
          simp at hb
        have hres : ∃ l, resultsA c.P e1 m1 fn.results.toList = some l ∧ packR l = r ∧ m1.base = base' ∧ m1.fr = fr' := by
          cases o with
          | exit id => exact absurd rfl (hno id)
          | goto id => exact absurd rfl (hng id)
          | next =>
            simp only [Option.map_eq_some_iff, Prod.mk.injEq] at hb
            obtain ⟨l, h1, h2, h3, h4⟩ := hb
            exact ⟨l, h1, h2, h3, h4⟩
          | ret =>
            simp only [Option.map_eq_some_iff, Prod.mk.injEq] at hb
            obtain ⟨l, h1, h2, h3, h4⟩ := hb
            exact ⟨l, h1, h2, h3, h4⟩
        obtain ⟨l, hl, rfl, rfl, rfl⟩ := hres
        have hcode := h _ _ _ _ _ hev
        refine fun ρ w vs h1 h2 hs => .inl ⟨?_, ?_⟩
        · have hn := hc.names g fn hfn
          simp [callFunc, hfn, hn, hbd]
        · refine calls_of_wp hfn hbd ?_
          have hat : At c fn.ntmps ρ (initEnv 0 as) ⟨base, fr⟩ { tmps := vs ++ Array.replicate (fn.ntmps - vs.size) undef, defers := [] } w := ⟨hs, init_env h1 h2 _, by simp; omega, rfl⟩
          refine wp_mono (hcode ρ _ w hat) fun x a' w' hx => ?_
          obtain ⟨hx1, ρ', hat', hx2, hx3⟩ := hx
          obtain ⟨y, hy1, hy2⟩ := results_sound hat'.sim hat'.env hl
          have fin : a'.defers = [] ∧ ∃ v, (results fn a'.tmps).run c.P w' = .ok v w' ∧ ∃ y ρ', (Ending.returned v) = .returned y ∧ Rep ρ' w' y (packR l) ∧ Sim c.G ρ' (m1.base ++ [m1.fr]) w' ∧ Ext base.length ρ (base ++ [fr]) w ρ' (m1.base ++ [m1.fr]) w' :=
            ⟨hat'.dfr, y, hy1, y, ρ', rfl, hy2, hat'.sim, hx2⟩
          cases x with
          | normal => exact fin
          | ret => exact fin
          | exit id =>
            cases o with
            | exit id' => exact absurd rfl (hno id')
            | _ => exact absurd hx1 (by simp [Oc.ex])
          | goto id =>
            cases o with
            | goto id' => exact absurd rfl (hng id')
            | _ => exact absurd hx1 (by simp [Oc.ex])
          | _ => cases o <;> exact absurd hx1 (by simp [Oc.ex])

theorem opD_q0 {D : Nat} {q : DQ} (h1 : q.own = false) (h2 : q.far = false) {o : Oper} (ha : isAlloc o = false) {ev : Operand → AV} {et : Operand → Tag} {r : (Tag × AV) × Dr × Mc} (h : c.opD body 0 q0 ev et m o = some r) : c.opD body D q ev et m o = some r := by
  obtain ⟨dst, op, type, pos, after, guard⟩ := o
  cases op
  case alloc => cases ha
  case call cl =>
    obtain ⟨callee, args, ts⟩ := cl
    cases callee with
    | value f =>
      simp only [Cfg.opD, q0, Bool.false_eq_true, if_false] at h ⊢
      obtain ⟨ga, g1, g2⟩ := Option.bind_eq_some_iff.1 h
      rw [g1]
      simp only [Option.bind_some]
      split at g2
      · cases g2
      · rename_i hinl
        split at g2
        · rename_i hn
          split
          · unfold Cfg.call
            rw [if_neg hinl, if_pos hn]
            exact g2
          · first | exact g2 | (rw [if_neg hinl, if_pos hn]; exact g2)
        · cases g2
    | builtin b => cases b <;> exact h
    | invoke r nm => exact h
  case load => simp only [Cfg.opD, q0, h2, Bool.false_and, Bool.false_eq_true, if_false] at h ⊢; exact h
  case store => simp only [Cfg.opD, q0, h1, Bool.false_and, Bool.false_eq_true, if_false] at h ⊢; exact h
  all_goals exact h

theorem stepBy_imp {f f' : (Operand → AV) → (Operand → Tag) → Mc → Oper → Option ((Tag × AV) × Dr × Mc)} {G : Nat → AV} {N : Nat} {ops : Array Oper} {o : Oper} {e : Env} {r : Env × Mc} (hf : ∀ ev et m r, f ev et m o = some r → f' ev et m o = some r) (h : stepBy f G N ops o e m = some r) : stepBy f' G N ops o e m = some r := by
  unfold stepBy at h ⊢
  split at h
  · rename_i hd
    rw [if_pos hd]
    split at h
    · rename_i g hg
      try rw [hg]
      try simp only
      split at h
      · rename_i ht
        rw [if_pos ht]
        obtain ⟨x, h1, h2⟩ := Option.map_eq_some_iff.1 h
        rw [hf _ _ _ _ h1]
        exact congrArg some h2
      · rename_i ht
        rw [if_neg ht]
        exact h
    · cases h
  · cases h

theorem simple_mem {ops : Array Oper} (h : simpleDraw ops = true) : okDraw ops = true ∧ ∀ o ∈ ops.toList, isAlloc o = false ∧ isOwnStore ops o = false := by
  unfold simpleDraw at h
  simp only [Bool.and_eq_true, List.all_eq_true, Bool.not_eq_true'] at h
  exact h

theorem simple_zeros {P : Program} : ∀ (l : List Oper), (∀ o ∈ l, isAlloc o = false) → zerosOf P l = some [] := by
  intro l
  induction l with
  | nil => intro _; rfl
  | cons o l ih =>
    intro h
    have ho := h o (List.mem_cons_self ..)
    simp only [zerosOf]
    split
    · rename_i T hT
      obtain ⟨dst, op, type, pos, after, guard⟩ := o
      simp only at hT
      subst hT
      cases ho
    · exact ih fun x hx => h x (List.mem_cons_of_mem _ hx)

theorem opsI_draws {ops : Array Oper} (hs : simpleDraw ops = true) {N D n : Nat} : ∀ (l : List Oper), (∀ o ∈ l, o ∈ ops.toList) → ∀ (p i : Nat) (e : Env) (m : Mc) (r : Env × Mc), c.opsI body N ops l e m = some r → c.draws body D n N ops l p i e m = some r := by
  obtain ⟨_, hmem⟩ := simple_mem hs
  have hfar : ∀ p, farOk ops p = false := by
    intro p
    unfold farOk
    rw [List.any_eq_false]
    rintro ⟨o, j⟩ ho
    have hoj : o ∈ ops.toList := by
      obtain ⟨k, hk⟩ := List.mem_iff_getElem?.1 ho
      rw [List.getElem?_zipIdx] at hk
      obtain ⟨x, hx, e⟩ := Option.map_eq_some_iff.1 hk
      injection e with e1 e2
      subst e1
      exact List.mem_of_getElem? hx
    simp [(hmem o hoj).2]
  have hown : ∀ p, ownOk ops p = false := by
    intro p
    unfold ownOk
    split
    · rename_i o ho
      exact (hmem o (by rw [Array.mem_toList_iff]; exact Array.mem_of_getElem? ho)).2
    · rfl
  intro l
  induction l with
  | nil => intro _ p i e m r h; exact h
  | cons o l ih =>
    intro hl p i e m r h
    simp only [Cfg.opsI] at h
    obtain ⟨x, h1, h2⟩ := Option.bind_eq_some_iff.1 h
    simp only [Cfg.draws]
    rw [stepBy_imp (f' := c.opD body D (dq c.P ops n i p)) (fun ev et m r hr => opD_q0 (hown p) (hfar p) (hmem o (hl o (List.mem_cons_self ..))).1 hr) h1]
    simp only [Option.bind_some]
    exact ih (fun x hx => hl x (List.mem_cons_of_mem _ hx)) _ _ _ _ _ h2

theorem hd_lt {N : Nat} {b : Code} {l : List Nat} (h : c.hd N b = some l) {r : Nat} (hr : r ∈ l) : r < N := by
  unfold Cfg.hd at h
  split at h
  · split at h
    · rename_i hall
      injection h with h
      subst h
      simpa using List.all_eq_true.1 hall r hr
    · cases h
  · cases h

theorem ev_sound (hc : CfgOk c) (hd : DrawsOk c) : ∀ (n : Nat) (N : Nat) (code : Code) (e : Env) (m : Mc) (r : Res), c.ev n N code e m = some r → CodeOk c N code e m r := by
  intro n
  induction n with
  | zero => intro N code e m r h; simp [Cfg.ev] at h
  | succ n ih =>
    intro N code e m r h ρ a w hat
    have hb : BodyOk c (c.body n) := body_of_code hc ih
    simp only [Cfg.ev] at h
    cases code with
    | skip =>
      injection h with h; subst h
      exact wp_skip ⟨trivial, ρ, hat, Ext.refl .., rfl⟩
    | label l =>
      injection h with h; subst h
      exact wp_label ⟨trivial, ρ, hat, Ext.refl .., rfl⟩
    | exit id =>
      injection h with h; subst h
      exact wp_exit ⟨rfl, ρ, hat, Ext.refl .., rfl⟩
    | ret =>
      injection h with h; subst h
      exact wp_ret ⟨trivial, ρ, hat, Ext.refl .., rfl⟩
    | region id ops draw =>
      cases draw with
      | false =>
        simp only at h
        obtain ⟨x, hx, rfl⟩ := Option.map_eq_some_iff.1 h
        obtain ⟨e1, m1⟩ := x
        refine wp_region ?_
        have hx' : c.ops (c.body n) N ops ops.toList e m = some (e1, m1) := hx
        have := ops_sound hc hb (Q := Post c N ρ m w (.next, e1, m1)) ops.toList 0 rfl hx' hat (fun a' w' haf => ⟨trivial, haf⟩)
        rw [List.range_eq_range']
        simpa using this
      | true =>
        simp only at h
        split at h
        · split at h
          · rename_i hsd
            obtain ⟨x, hx, rfl⟩ := Option.map_eq_some_iff.1 h
            obtain ⟨e1, m1⟩ := x
            obtain ⟨hok, hmem⟩ := simple_mem hsd
            have hz := simple_zeros (P := c.P) ops.toList fun o ho => (hmem o ho).1
            have hx' := opsI_draws (c := c) (body := c.body n) (D := m.D) (n := m.fr.length) hsd ops.toList (fun o ho => ho) 0 m.fr.length e m _ hx
            have hm : ({ m with fr := m.fr ++ ([] : List Blk) } : Mc) = m := by simp
            exact hd (c.body n) hb N ops e e1 m m1 [] hok hz (by rw [hm]; exact hx') id ρ a w hat
          · cases h
        split at h
        · rename_i hok
          cases hz : zerosOf c.P ops.toList with
          | none => simp [hz] at h
          | some zs =>
            simp only [hz, Option.bind_some] at h
            obtain ⟨x, hx, rfl⟩ := Option.map_eq_some_iff.1 h
            obtain ⟨e1, m1⟩ := x
            exact hd (c.body n) hb N ops e e1 m m1 zs hok hz hx id ρ a w hat
        · cases h
    | seq x y =>
      simp only at h
      cases hx : c.ev n N x e m with
      | none => simp [hx] at h
      | some r1 =>
        obtain ⟨o, e1, m1⟩ := r1
        simp only [hx, Option.bind_some] at h
        have h1 := ih _ _ _ _ _ hx ρ a w hat
        refine wp_seq (wp_mono h1 fun z a' w' hp => ?_)
        cases o with
        | next =>
          simp only at h
          obtain ⟨hp1, ρ1, hat1, hx2, hx3⟩ := hp
          cases z with
          | normal => exact wp_mono (ih _ _ _ _ _ h ρ1 a' w' hat1) fun z a2 w2 hq => post_mono hx2 hx3 hq
          | _ => exact absurd hp1 (by simp [Oc.ex])
        | exit id =>
          injection h with h; subst h
          cases z <;> first | exact hp | exact absurd hp.1 (by simp [Oc.ex])
        | goto id =>
          injection h with h; subst h
          cases z <;> first | exact hp | exact absurd hp.1 (by simp [Oc.ex])
        | ret =>
          injection h with h; subst h
          cases z <;> first | exact hp | exact absurd hp.1 (by simp [Oc.ex])
    | cond x y z =>
      simp only at h
      split at h
      · rename_i t ht
        have hcond := (ht ▸ hat.env.rdV hat.sim.glob x : Rep ρ w (a.eval x) (.bool t)).bool_inv
        exact wp_cond hcond (ih _ _ _ _ _ h ρ a w hat)
      · cases h
    | block id y =>
      simp only at h
      obtain ⟨r1, hr, rfl⟩ := Option.map_eq_some_iff.1 h
      obtain ⟨o, e1, m1⟩ := r1
      refine wp_block (wp_mono (ih _ _ _ _ _ hr ρ a w hat) fun q a' w' hp => ?_)
      cases o with
      | next =>
        cases q with
        | normal => exact ⟨trivial, hp.2⟩
        | _ => exact absurd hp.1 (by simp [Oc.ex])
      | exit id' =>
        cases q with
        | exit id'' =>
          have he : id' = id'' := hp.1
          subst he
          simp only [Exit.inBlock, exitR]
          by_cases hid : id' = id
          · rw [if_pos hid, if_pos hid]
            exact ⟨trivial, hp.2⟩
          · rw [if_neg hid, if_neg hid]
            exact hp
        | _ => exact absurd hp.1 (by simp [Oc.ex])
      | goto l =>
        cases q with
        | goto l' => exact ⟨hp.1, hp.2⟩
        | _ => exact absurd hp.1 (by simp [Oc.ex])
      | ret =>
        cases q with
        | ret => exact ⟨trivial, hp.2⟩
        | _ => exact absurd hp.1 (by simp [Oc.ex])
    | loop y =>
      simp only at h
      exact wp_loop_rounds n (loop_sound hc (fun l hl r hr => hd_lt hl hr) (fun e m r hr => ih N y e m r hr) n e m r h ρ a w hat)
    | rangeFunc _ _ _ _ => cases h
    | scope y =>
      simp only at h
      exact wp_scope_run n (scope_sound (f := fun b e m => c.ev n N b e m) (fun b e m r hr => ih N b e m r hr) n y e m r h ρ a w hat)
    | goto l =>
      injection h with h; subst h
      exact wp_goto ⟨rfl, ρ, hat, Ext.refl .., rfl⟩
    | refuse _ => cases h

/-- A function's own run: its body with fuel n. -/
theorem body_sound (hc : CfgOk c) (hd : DrawsOk c) (n : Nat) : BodyOk c (c.body n) := body_of_code hc (ev_sound hc hd n)

end
end
end Go.Ab
