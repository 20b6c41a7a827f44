import Derived.Test.YtlpffainhdnaiaaGreatDoorAbSound3
/- Lengths, literals, and all operations that ask nothing of the state. -/
namespace Go.Ab
open Go

section
variable {P : Program} {G : Nat → AV} {ρ : Ren} {S : St} {w : World}

theorem len_sound {t ty : TypeId} {x : Value} {a v : AV} (hx : Rep ρ w x a) (h : aLen P t a = some v) : ∃ y, (Builtin.len_ #[t] ty #[x]).run P w = .ok y w ∧ Rep ρ w y v := by
  unfold aLen at h
  split at h
  · rename_i s hu
    injection h with h; subst h
    have e := hx.str_inv; subst e
    exact ⟨_, by simp [Builtin.len_, run_underlying hu, size_mk, goInt], .int _ _⟩
  · rename_i e es o hu
    injection h with h; subst h
    obtain ⟨ad, cap, _, _, _, _, rfl, _⟩ := hx.sl_inv
    exact ⟨_, by simp [Builtin.len_, run_underlying hu, goInt], .int _ _⟩
  · rename_i e d i off n c hu
    injection h with h; subst h
    obtain ⟨b, _, _, rfl, _⟩ := hx.ms_inv
    exact ⟨_, by simp [Builtin.len_, run_underlying hu, goInt], .int _ _⟩
  · rename_i n e hu
    injection h with h; subst h
    exact ⟨_, by simp [Builtin.len_, run_underlying hu, goInt], .int _ _⟩
  · cases h

theorem min_sound {ts : Array TypeId} {ty : TypeId} {ρo : Operand → Value} {av : Operand → AV} (hR : ∀ x, Rep ρ w (ρo x) (av x)) {xs : List Operand} {v : AV} (h : aMin (xs.map av) = some v) :
    ∃ y, (Builtin.min_ ts ty (xs.map ρo).toArray).run P w = .ok y w ∧ Rep ρ w y v := by
  unfold aMin at h
  split at h
  · rename_i k a k' b hl
    have hlen : xs.length = 2 := by simpa using congrArg List.length hl
    match xs, hlen, hl with
    | [x, y], _, hl =>
      simp only [List.map_cons, List.map_nil, List.cons.injEq, and_true] at hl
      have e1 := (hl.1 ▸ hR x : Rep ρ w (ρo x) (.int k a)).int_inv
      have e2 := (hl.2 ▸ hR y : Rep ρ w (ρo y) (.int k' b)).int_inv
      split at h
      · injection h with h; subst h
        refine ⟨_, ?_, .int _ _⟩
        simp only [List.map_cons, List.map_nil, e1, e2]
        exact run_min_int2 w ts ty k k' a b
      · cases h
  · cases h

theorem max_sound {ts : Array TypeId} {ty : TypeId} {ρo : Operand → Value} {av : Operand → AV} (hR : ∀ x, Rep ρ w (ρo x) (av x)) {xs : List Operand} {v : AV} (h : aMax (xs.map av) = some v) :
    ∃ y, (Builtin.max_ ts ty (xs.map ρo).toArray).run P w = .ok y w ∧ Rep ρ w y v := by
  unfold aMax at h
  split at h
  · rename_i k a k' b hl
    have hlen : xs.length = 2 := by simpa using congrArg List.length hl
    match xs, hlen, hl with
    | [x, y], _, hl =>
      simp only [List.map_cons, List.map_nil, List.cons.injEq, and_true] at hl
      have e1 := (hl.1 ▸ hR x : Rep ρ w (ρo x) (.int k a)).int_inv
      have e2 := (hl.2 ▸ hR y : Rep ρ w (ρo y) (.int k' b)).int_inv
      split at h
      · injection h with h; subst h
        refine ⟨_, ?_, .int _ _⟩
        simp only [List.map_cons, List.map_nil, e1, e2]
        exact run_max_int2 w ts ty k k' a b
      · cases h
  · cases h

theorem foldl_laid (off : Nat) : ∀ (vs : List Value) (k : Nat) (arr : Array Value), (vs.zipIdx k).foldl (fun cs x => cs.setIfInBounds (off + x.2) x.1) arr = laid arr (off + k) vs := by
  intro vs
  induction vs with
  | nil => intro k arr; rfl
  | cons v vs ih =>
    intro k arr
    simp only [List.zipIdx_cons, List.foldl_cons, laid]
    rw [ih]
    rfl

/-- A row of cells that reads as a list. -/
def Cells (ρ : Ren) (w : World) (A : Array Value) (cs : List AV) : Prop :=
  A.size = cs.length ∧ (∀ (j : Nat) v, A[j]? = some v → v.oneCell' = true) ∧ ∀ (j : Nat) v c, A[j]? = some v → cs[j]? = some c → Rep ρ w v c

theorem Cells.agg {A : Array Value} {cs : List AV} (h : Cells ρ w A cs) : Rep ρ w (.agg A) (.agg cs) := .agg A cs h.1 h.2.1 h.2.2

theorem cells_av1 {A : Array Value} (h : A.toList.all Value.oneCell' = true) : Cells ρ w A (A.toList.map av1) := by
  obtain ⟨A', e, h1, h2, h3⟩ := (cells_rep ρ w A h).agg_inv
  injection e with e
  subst e
  exact ⟨h1, h2, h3⟩

theorem fill_run {place place' : Nat → Option (Nat × Nat)} (hpl : ∀ i, place i = place' i) {ρo : Operand → Value} {av : Operand → AV} (hR : ∀ x, Rep ρ w (ρo x) (av x)) :
    ∀ (l : List (Nat × Operand)) (A : Array Value) (cs cs' : List AV), Cells ρ w A cs → aFill place' cs (l.map fun p => (p.1, av p.2)) = some cs' →
    ∃ A', Instr.fill place A (l.map fun p => (p.1, ρo p.2)) = some A' ∧ Cells ρ w A' cs' := by
  intro l
  induction l with
  | nil =>
    intro A cs cs' hA h
    simp [aFill] at h
    subst h
    exact ⟨A, rfl, hA⟩
  | cons p l ih =>
    intro A cs cs' hA h
    simp only [List.map_cons, aFill] at h
    rw [← hpl] at h
    cases hp : place p.1 with
    | none => simp [hp] at h
    | some os =>
      obtain ⟨off, size⟩ := os
      simp only [hp] at h
      split at h
      · rename_i hc
        simp only [Bool.and_eq_true, beq_iff_eq, decide_eq_true_eq] at hc
        obtain ⟨⟨hok, hsz⟩, hle⟩ := hc
        obtain ⟨c1, c2, c3⟩ := (hR p.2).cells_inv hok
        obtain ⟨a1, a2, a3⟩ := hA
        have hlaid : Cells ρ w (laid A off (ρo p.2).cells.toList) (splice cs off (av p.2).cells) := by
          have hl : (ρo p.2).cells.toList.length = (av p.2).cells.length := by simpa using c1
          refine ⟨by rw [laid_size, splice_length, a1], fun j v hj => ?_, fun j v c hj hcj => ?_⟩
          · rw [laid_get _ _ _ _ (by rw [hl, a1]; exact hle)] at hj
            split at hj
            · exact c2 (j - off) v (by simpa using hj)
            · exact a2 j v hj
          · rw [laid_get _ _ _ _ (by rw [hl, a1]; exact hle)] at hj
            rw [splice_get _ _ _ _ hle] at hcj
            rw [hl] at hj
            split at hj
            · rename_i hin
              rw [if_pos hin] at hcj
              exact c3 (j - off) v c (by simpa using hj) hcj
            · rename_i hin
              rw [if_neg hin] at hcj
              exact a3 j v c hj hcj
        obtain ⟨A', h1, h2⟩ := ih _ _ cs' hlaid h
        refine ⟨A', ?_, h2⟩
        simp only [List.map_cons, Instr.fill, hp]
        have hn : ¬ (((ρo p.2).cells.size ≠ size || off + (ρo p.2).cells.size > A.size) = true) := by
          simp only [Bool.or_eq_true, decide_eq_true_eq, ne_eq]
          omega
        rw [if_neg hn]
        rw [← Array.foldl_toList, Array.toList_zipIdx, foldl_laid]
        exact h1
      · cases h

theorem build_sound {t : TypeId} {ρo : Operand → Value} {av : Operand → AV} (hR : ∀ x, Rep ρ w (ρo x) (av x)) {parts : Array (Nat × Operand)} {v : AV} (h : aBuild P t (parts.toList.map fun p => (p.1, av p.2)) = some v) :
    ∃ y, (Instr.build t (parts.map fun (i, x) => (i, ρo x))).run P w = .ok y w ∧ Rep ρ w y v := by
  unfold aBuild at h
  split at h
  · rename_i z pl hb
    cases hf : aFill pl.at z (parts.toList.map fun p => (p.1, av p.2)) with
    | none => simp [hf] at h
    | some cs' =>
      simp [hf] at h
      subst h
      have key : ∃ A', P.built t (parts.map fun (i, x) => (i, ρo x)).toList = some A' ∧ Cells ρ w A' cs' := by
        unfold bldOf at hb
        unfold Program.built
        have hparts : (parts.map fun (i, x) => (i, ρo x)).toList = parts.toList.map fun p => (p.1, ρo p.2) := by simp
        rw [hparts]
        split at hb
        · rename_i it n e h1 h2
          simp only [h1, h2]
          split at hb
          · rename_i z' ie h3 h4
            simp only [h3, h4]
            split at hb
            · rename_i hall
              injection hb with hb
              injection hb with e1 e2
              subst e1 e2
              exact fill_run (fun i => rfl) hR parts.toList _ _ cs' (cells_av1 hall) hf
            · cases hb
          · cases hb
        · rename_i it fs h1 h2
          simp only [h1, h2]
          split at hb
          · rename_i z' places h3 h4
            simp only [h3, h4]
            split at hb
            · rename_i hall
              injection hb with hb
              injection hb with e1 e2
              subst e1 e2
              exact fill_run (fun i => by simp [Plc.at]) hR parts.toList _ _ cs' (cells_av1 hall) hf
            · cases hb
          · cases hb
        · cases hb
      obtain ⟨A', h1, h2⟩ := key
      exact ⟨_, run_build w t _ A' h1, h2.agg⟩
  · cases h

theorem map_rep {ρo : Operand → Value} {av : Operand → AV} (hR : ∀ x, Rep ρ w (ρo x) (av x)) (l : Array Operand) : (l.map ρo).size = (l.toList.map av).length ∧ ∀ (j : Nat) v c, (l.map ρo)[j]? = some v → (l.toList.map av)[j]? = some c → Rep ρ w v c := by
  refine ⟨by simp, fun j v c h1 h2 => ?_⟩
  rw [Array.getElem?_map] at h1
  rw [List.getElem?_map] at h2
  have e : l.toList[j]? = l[j]? := by simp
  rw [e] at h2
  cases hl : l[j]? with
  | none => simp [hl] at h1
  | some x =>
    simp [hl] at h1 h2
    subst h1 h2
    exact hR x

theorem equalIn_slice_nil {t e : TypeId} (hu : P.underlying t = some (.slice e)) (d : Nat) (a : Addr) (n k l c : Nat) : (Op.equalIn (d + 1) t (.slice (some a) n k) (.slice none l c)).run P w = .ok false w := by
  simp [Op.equalIn, run_underlying hu]

theorem eql_sl {t : TypeId} {x y : Option Addr} {n k l c : Nat} {r : Bool} (h : (Op.equalIn 10000 t (.slice x n k) (.slice y l c)).run P w = .ok r w) : (binOp .eql t (.slice x n k) (.slice y l c)).run P w = .ok (.bool r) w := by
  simp only [binOp]
  simp [Op.equal, Op.maxDepth, h]

theorem neq_sl {t : TypeId} {x y : Option Addr} {n k l c : Nat} {r : Bool} (h : (Op.equalIn 10000 t (.slice x n k) (.slice y l c)).run P w = .ok r w) : (binOp .neq t (.slice x n k) (.slice y l c)).run P w = .ok (.bool (!r)) w := by
  simp only [binOp]
  simp [Op.equal, Op.maxDepth, h]

theorem guard_sl (op : BinOp) (t : TypeId) (xo yo : Operand) (x y : Option Addr) (n k l c : Nat) : (eqGuard op t xo yo (.slice x n k) (.slice y l c)).run P w = .ok () w := by cases op <;> simp [eqGuard]

theorem nil_sound {op : BinOp} {t : TypeId} {x : Value} {a v : AV} {y : Operand} {ρo : Operand → Value} (hx : Rep ρ w x a) (hK : ∀ v, ρo (.const v) = v) (h : aNil P op t a y = some v) {xo : Operand} :
    ∃ z, (do eqGuard op t xo y x (ρo y); binOp op t x (ρo y) : Sem Value).run P w = .ok z w ∧ Rep ρ w z v := by
  unfold aNil at h
  split at h
  · rename_i l c
    rw [hK]
    split at h
    · rename_i el r es o hu
      have hsl : ∃ b off n k, x = .slice (some ⟨b, off, none⟩) n k := by
        cases hx with
        | sl a cap s es o b off f hc hfull hs ha h r => exact ⟨b, off, _, cap, by rw [ha (by simp)]⟩
      obtain ⟨b, off, n, k, rfl⟩ := hsl
      have hu' := run_underlying hu (w := w)
      split at h
      · injection h with h; subst h
        exact ⟨.bool false, by rw [Sem.run_bind, guard_sl, Result.andThen_ok]; exact eql_sl (equalIn_slice_nil hu 9999 _ _ _ _ _), .bool _⟩
      · injection h with h; subst h
        exact ⟨.bool true, by rw [Sem.run_bind, guard_sl, Result.andThen_ok]; exact neq_sl (equalIn_slice_nil hu 9999 _ _ _ _ _), .bool _⟩
      · cases h
    · cases h
  · cases h

theorem pure_sound {o : Oper} {ρo : Operand → Value} {av : Operand → AV} (hR : ∀ x, Rep ρ w (ρo x) (av x)) (hK : ∀ v, ρo (.const v) = v) {v : AV} (h : aPure P o av = some v) : ∃ y, (execOp ρo o).run P w = .ok (.value y) w ∧ Rep ρ w y v := by
  unfold aPure at h
  have lift : ∀ {s : Sem Value}, (∃ y, s.run P w = .ok y w ∧ Rep ρ w y v) → ∃ y, (do pure (.value (← s)) : Sem Next).run P w = .ok (.value y) w ∧ Rep ρ w y v := by
    rintro s ⟨y, h1, h2⟩
    exact ⟨y, by simp [h1], h2⟩
  unfold execOp
  split at h
  · rename_i x ho; injection h with h; subst h; simp only [ho]; exact ⟨_, rfl, hR x⟩
  · rename_i x ho; injection h with h; subst h; simp only [ho]; exact ⟨_, rfl, hR x⟩
  · rename_i c a b ho
    simp only [ho]
    split at h
    · rename_i t ht
      injection h with h
      have e := (ht ▸ hR c : Rep ρ w (ρo c) (.bool t)).bool_inv
      rw [e]
      cases t <;> simp at h <;> subst h
      · exact ⟨ρo b, by simp [asBool], hR b⟩
      · exact ⟨ρo a, by simp [asBool], hR a⟩
    · cases h
  · rename_i t parts ho; simp only [ho]; exact lift (build_sound hR h)
  · rename_i x ho
    simp only [ho]
    split at h
    · rename_i d i off hx
      injection h with h; subst h
      have hr := hx ▸ hR x
      obtain ⟨b, _, e⟩ := hr.mp_inv
      rw [e] at hr ⊢
      exact ⟨_, rfl, hr⟩
    · rename_i cs l hx
      injection h with h; subst h
      have hr := hx ▸ hR x
      obtain ⟨b, o', f, e, _⟩ := hr.ip_inv
      rw [e] at hr ⊢
      exact ⟨_, rfl, hr⟩
    · rename_i f a b hx
      injection h with h; subst h
      have hr := hx ▸ hR x
      obtain ⟨A1, A2, e, _⟩ := hr.fn_inv
      rw [e] at hr ⊢
      exact ⟨_, rfl, hr⟩
    · cases h
  · rename_i op t x y yt ho
    simp only [ho]
    split at h
    · rename_i v' hv
      injection h with h; subst h
      exact lift (nil_sound (hR x) hK hv)
    · exact lift (bin_sound (hR x) (hR y) h x y)
  · rename_i op t x ho; simp only [ho]; exact lift (un_sound (hR x) h)
  · rename_i s d x ho; simp only [ho]; exact lift (conv_sound (hR x) h)
  · rename_i t x ho
    simp only [ho]
    split at h
    · cases h
    · rename_i d hd hu
      injection h with h; subst h
      refine lift ⟨_, ?_, .ifc t (hR x)⟩
      simp only [Instr.makeInterface, Sem.run_bind, run_underlying hu, Result.andThen_ok]
      cases d <;> first | rfl | exact absurd rfl (hd _)
    · cases h
  · rename_i fn a b ho
    simp only [ho]
    injection h with h; subst h
    obtain ⟨a1, a2⟩ := map_rep hR a
    obtain ⟨b1, b2⟩ := map_rep hR b
    exact lift ⟨_, rfl, .fn _ _ _ _ _ a1 b1 a2 b2⟩
  · rename_i s x f ho; simp only [ho]; exact lift (fieldAddr_sound (hR x) h)
  · rename_i t x f ho; simp only [ho]; exact lift (field_sound (hR x) h)
  · rename_i t x i ho; simp only [ho]; exact lift (indexAddr_sound (hR x) (hR i) h)
  · rename_i t x i ho; simp only [ho]; exact lift (index_sound (hR x) (hR i) h)
  · rename_i t x lo hi mx ho; simp only [ho]; exact lift (slice_sound hR h)
  · rename_i x i ho
    simp only [ho]
    split at h
    · rename_i vs hx
      obtain ⟨A, e, h1, h2⟩ := (hx ▸ hR x : Rep ρ w (ρo x) (.tup vs)).tup_inv
      rw [e]
      have hlt : i < A.size := by rw [h1]; exact (List.getElem?_eq_some_iff.1 h).1
      refine lift ⟨A[i], ?_, h2 i _ v (Array.getElem?_eq_getElem hlt) h⟩
      simp [Instr.extract, hlt]
    · cases h
  · rename_i args argTypes ho
    split at h
    · rename_i x t hx ht
      have e1 : args = #[x] := by apply Array.toList_inj.1; simpa using hx
      have e2 : argTypes = #[t] := by apply Array.toList_inj.1; simpa using ht
      subst e1 e2
      obtain ⟨y, hy, hr⟩ := len_sound (ty := o.type) (hR x) h
      exact ⟨y, by simp [ho, resolve, invoke, builtin, hy], hr⟩
    · cases h
  · rename_i args argTypes ho
    obtain ⟨y, hy, hr⟩ := min_sound (P := P) (ts := argTypes) (ty := o.type) hR h
    have e : (args.toList.map ρo).toArray = args.map ρo := by apply Array.toList_inj.1; simp
    rw [e] at hy
    exact ⟨y, by simp [ho, resolve, invoke, builtin, hy], hr⟩
  · rename_i args argTypes ho
    obtain ⟨y, hy, hr⟩ := max_sound (P := P) (ts := argTypes) (ty := o.type) hR h
    have e : (args.toList.map ρo).toArray = args.map ρo := by apply Array.toList_inj.1; simp
    rw [e] at hy
    exact ⟨y, by simp [ho, resolve, invoke, builtin, hy], hr⟩
  · cases h

end
end Go.Ab
