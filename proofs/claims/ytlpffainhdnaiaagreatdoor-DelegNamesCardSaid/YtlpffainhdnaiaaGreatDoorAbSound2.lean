import Derived.Test.YtlpffainhdnaiaaGreatDoorAbSound1
/- Arithmetic, comparisons, conversions, strings: each does what ours says. -/
namespace Go.Ab
open Go

section
variable {P : Program} {G : Nat → AV} {ρ : Ren} {S : St} {w : World}

theorem toList_mk (s : List UInt8) : (ByteArray.mk s.toArray).toList = s := by rw [ByteArray.toList_eq]

theorem size_mk (s : List UInt8) : (ByteArray.mk s.toArray).size = s.length := by simp [ByteArray.size]

theorem append_mk (a b : List UInt8) : ByteArray.mk a.toArray ++ ByteArray.mk b.toArray = ByteArray.mk (a ++ b).toArray := by
  apply ByteArray.ext
  simp

theorem intArith_bin (op : BinOp) (t : TypeId) (k : IntKind) (a b : Int) {v : AV} (h : aInt op k a b = some v) :
    ∃ x, (binOp op t (.int k a) (.int k b)).run P w = .ok x w ∧ Rep ρ w x v := by
  unfold aInt at h
  cases op <;> simp only [Option.some.injEq, reduceCtorEq] at h
  case add => subst h; exact ⟨_, by simp [binOp, Op.intArith], .int _ _⟩
  case sub => subst h; exact ⟨_, by simp [binOp, Op.intArith], .int _ _⟩
  case mul => subst h; exact ⟨_, by simp [binOp, Op.intArith], .int _ _⟩
  case quo =>
    split at h
    · cases h
    · rename_i hb; injection h with h; subst h; exact ⟨_, by simp [binOp, Op.intDiv, hb], .int _ _⟩
  case rem =>
    split at h
    · cases h
    · rename_i hb; injection h with h; subst h; exact ⟨_, by simp [binOp, Op.intDiv, hb], .int _ _⟩
  case and => subst h; exact ⟨_, by simp only [binOp, Op.intBits, aBits, ne_eq, not_true_eq_false, if_false, Sem.run_pure], .int _ _⟩
  case or => subst h; exact ⟨_, by simp only [binOp, Op.intBits, aBits, ne_eq, not_true_eq_false, if_false, Sem.run_pure], .int _ _⟩
  case xor => subst h; exact ⟨_, by simp only [binOp, Op.intBits, aBits, ne_eq, not_true_eq_false, if_false, Sem.run_pure], .int _ _⟩
  case andNot => subst h; exact ⟨_, by simp only [binOp, Op.intBits, aBits, ne_eq, not_true_eq_false, if_false, Sem.run_pure], .int _ _⟩
  case eql => subst h; exact ⟨_, by simp [binOp, Op.intCmp], .bool _⟩
  case neq => subst h; exact ⟨_, by simp [binOp, Op.intCmp], .bool _⟩
  case lss => subst h; exact ⟨_, by simp [binOp, Op.intCmp], .bool _⟩
  case leq => subst h; exact ⟨_, by simp [binOp, Op.intCmp], .bool _⟩
  case gtr => subst h; exact ⟨_, by simp [binOp, Op.intCmp], .bool _⟩
  case geq => subst h; exact ⟨_, by simp [binOp, Op.intCmp], .bool _⟩

theorem str_bin (op : BinOp) (t : TypeId) (a b : List UInt8) {v : AV} (h : aStr op a b = some v) :
    ∃ x, (binOp op t (.string ⟨a.toArray⟩) (.string ⟨b.toArray⟩)).run P w = .ok x w ∧ Rep ρ w x v := by
  unfold aStr at h
  cases op <;> simp only [Option.some.injEq, reduceCtorEq] at h
  case add =>
    split at h
    · rename_i hl
      injection h with h
      subst h
      refine ⟨_, ?_, .str _⟩
      have hm : ¬ (((a.length + b.length : Nat) : Int) > IntKind.i64.max) := by
        have : IntKind.i64.max = 9223372036854775807 := by decide
        omega
      simp only [binOp, Op.stringOp, size_mk, hm, if_false, Sem.run_pure, append_mk]
    · cases h
  case eql => subst h; exact ⟨_, by simp only [binOp, Op.stringOp, toList_mk, Sem.run_pure], .bool _⟩
  case neq => subst h; exact ⟨_, by simp only [binOp, Op.stringOp, toList_mk, Sem.run_pure], .bool _⟩
  case lss => subst h; exact ⟨_, by simp only [binOp, Op.stringOp, toList_mk, Sem.run_pure], .bool _⟩
  case leq => subst h; exact ⟨_, by simp only [binOp, Op.stringOp, toList_mk, Sem.run_pure], .bool _⟩
  case gtr => subst h; exact ⟨_, by simp only [binOp, Op.stringOp, toList_mk, Sem.run_pure], .bool _⟩
  case geq => subst h; exact ⟨_, by simp only [binOp, Op.stringOp, toList_mk, Sem.run_pure], .bool _⟩

theorem eqFields_strs (d : Nat) : ∀ (fs : List Field) (k : Nat) (A B : Array Value) (xs ys : List AV) (r : Bool), eqStrs (xs.drop k) (ys.drop k) = some r →
    Rep ρ w (.agg A) (.agg xs) → Rep ρ w (.agg B) (.agg ys) → fs.length + k = xs.length → fs.length + k = ys.length →
    (∀ (i : Nat) f, fs[i]? = some f → f.name ≠ "_" ∧ f.offset = k + i ∧ P.underlying f.type = some .string ∧ ∃ L, layOf P f.type = some L ∧ L.agg = false ∧ L.size = 1) →
    (Op.eqFields (d + 1) A B fs).run P w = .ok r w := by
  intro fs
  induction fs with
  | nil =>
    intro k A B xs ys r h _ _ h1 h2 _
    have e1 : xs.drop k = [] := List.drop_eq_nil_iff.2 (by simp at h1; omega)
    have e2 : ys.drop k = [] := List.drop_eq_nil_iff.2 (by simp at h2; omega)
    rw [e1, e2] at h
    simp [eqStrs] at h
    subst h
    simp [Op.eqFields]
  | cons f fs ih =>
    intro k A B xs ys r h hA hB h1 h2 hf
    simp only [List.length_cons] at h1 h2
    obtain ⟨f1, f2, f3, L, f4, f5, f6⟩ := hf 0 f rfl
    have lx : k < xs.length := by omega
    have ly : k < ys.length := by omega
    rw [List.drop_eq_getElem_cons lx, List.drop_eq_getElem_cons ly] at h
    have hx1 : mkVal L.agg ((xs.drop f.offset).take L.size) = some xs[k] := by
      rw [f5, f6, show f.offset = k from by omega, List.drop_eq_getElem_cons lx]
      rfl
    have hy1 : mkVal L.agg ((ys.drop f.offset).take L.size) = some ys[k] := by
      rw [f5, f6, show f.offset = k from by omega, List.drop_eq_getElem_cons ly]
      rfl
    have px := part_run (off := f.offset) f4 hA (by omega) hx1
    have py := part_run (off := f.offset) f4 hB (by omega) hy1
    obtain ⟨x, px, rx⟩ := px
    obtain ⟨y, py, ry⟩ := py
    generalize xs[k] = cx at h rx
    generalize ys[k] = cy at h ry
    obtain ⟨sa, sb, ea, eb, hh⟩ : ∃ sa sb, cx = .str sa ∧ cy = .str sb ∧ (if sa = sb then eqStrs (xs.drop (k + 1)) (ys.drop (k + 1)) else if (eqStrs (xs.drop (k + 1)) (ys.drop (k + 1))).isSome then some false else none) = some r := by
      unfold eqStrs at h
      split at h
      · rename_i e _; simp at e
      · rename_i sa xs' sb ys' e1 e2
        injection e1 with e1 e1'
        injection e2 with e2 e2'
        exact ⟨sa, sb, e1, e2, by rw [e1', e2']; exact h⟩
      · cases h
    clear h
    subst ea eb
    have h := hh
    have ex := rx.str_inv
    have ey := ry.str_inv
    subst ex ey
    simp only [Op.eqFields, f1, ne_eq, not_false_iff, if_true, Sem.run_bind, px, py, Result.andThen_ok]
    rw [run_equalIn_string w d f.type _ _ f3]
    simp only [Result.andThen_ok, toList_mk]
    have ihr := ih (k + 1) A B xs ys
    by_cases hab : sa = sb
    · subst hab
      rw [if_pos rfl] at h
      simp only [beq_self_eq_true, Bool.not_true, Bool.false_eq_true, if_false]
      exact ihr r h hA hB (by omega) (by omega) (fun i g hg => by
        obtain ⟨a1, a2, a3⟩ := hf (i + 1) g (by simpa using hg)
        exact ⟨a1, by omega, a3⟩)
    · rw [if_neg hab] at h
      have hne : (sa == sb) = false := by simpa using hab
      simp only [hne, Bool.not_false, if_true, Sem.run_pure]
      split at h
      · injection h with h; subst h; rfl
      · cases h

theorem strStruct_inv {t : TypeId} {n : Nat} (h : strStruct P t = some n) : ∃ fs : Array Field, P.underlying t = some (.struct fs) ∧ fs.size = n ∧ P.stoodInHeld t = false ∧ P.eqGuardType P.depth t = false ∧
    ∀ (i : Nat) f, fs.toList[i]? = some f → f.name ≠ "_" ∧ f.offset = i ∧ P.underlying f.type = some .string ∧ ∃ L, layOf P f.type = some L ∧ L.agg = false ∧ L.size = 1 := by
  unfold strStruct at h
  split at h
  · rename_i fs hu
    split at h
    · rename_i hc
      injection h with h
      simp only [Bool.and_eq_true, Bool.not_eq_true', List.all_eq_true] at hc
      refine ⟨fs, hu, h, hc.1.2, hc.2, fun i f hi => ?_⟩
      have hm := hc.1.1 (f, i) (by
        rw [List.mem_iff_getElem?]
        exact ⟨i, by simp [List.getElem?_zipIdx, hi]⟩)
      simp only [bne_iff_ne, beq_iff_eq] at hm
      obtain ⟨⟨m1, m2⟩, m3⟩ := hm
      split at m3
      · rename_i L hL hs
        simp only [Bool.and_eq_true, Bool.not_eq_true', beq_iff_eq] at m3
        exact ⟨m1, m2, hs, L, hL, m3.1, m3.2⟩
      · cases m3
    · cases h
  · cases h

theorem fieldsOf_of {t : TypeId} {fs : Array Field} (h : P.underlying t = some (.struct fs)) : P.fieldsOf t = fs := by simp [Program.fieldsOf, h]

theorem eql_ptr {t : TypeId} {a b : Option Addr} {r : Bool} (h : (Op.equalIn 10000 t (.pointer a) (.pointer b)).run P w = .ok r w) : (binOp .eql t (.pointer a) (.pointer b)).run P w = .ok (.bool r) w := by
  simp only [binOp]
  simp [Op.equal, Op.maxDepth, h]

theorem neq_ptr {t : TypeId} {a b : Option Addr} {r : Bool} (h : (Op.equalIn 10000 t (.pointer a) (.pointer b)).run P w = .ok r w) : (binOp .neq t (.pointer a) (.pointer b)).run P w = .ok (.bool (!r)) w := by
  simp only [binOp]
  simp [Op.equal, Op.maxDepth, h]

theorem equalIn_nil_ptr {t e : TypeId} (hu : P.underlying t = some (.pointer e)) (d : Nat) (b : Option Addr) : (Op.equalIn (d + 1) t (.pointer none) (.pointer b)).run P w = .ok b.isNone w := by
  simp [Op.equalIn, run_underlying hu]

theorem equalIn_ptr_nil {t e : TypeId} (hu : P.underlying t = some (.pointer e)) (d : Nat) (b : Option Addr) : (Op.equalIn (d + 1) t (.pointer b) (.pointer none)).run P w = .ok b.isNone w := by
  cases b <;> simp [Op.equalIn, run_underlying hu]

theorem guard_ptr (op : BinOp) (t : TypeId) (xo yo : Operand) (a b : Option Addr) : (eqGuard op t xo yo (.pointer a) (.pointer b)).run P w = .ok () w := by cases op <;> simp [eqGuard]
theorem guard_bool (op : BinOp) (t : TypeId) (xo yo : Operand) (a b : Bool) : (eqGuard op t xo yo (.bool a) (.bool b)).run P w = .ok () w := by cases op <;> simp [eqGuard]

mutual
theorem AV.dif_rep : ∀ (a b : AV) {v : Value}, Rep ρ w v a → Rep ρ w v b → AV.dif a b = false
  | .bool a, b, v, ha, hb => by
    cases b <;> try rfl
    rw [ha.bool_inv] at hb
    cases hb
    simp [AV.dif]
  | .int k a, b, v, ha, hb => by
    cases b <;> try rfl
    rw [ha.int_inv] at hb
    cases hb
    simp [AV.dif]
  | .str a, b, v, ha, hb => by
    cases b <;> try rfl
    have e1 := ha.str_inv
    have e2 := hb.str_inv
    rw [e1] at e2
    injection e2 with e2
    injection e2 with e2
    simp only [AV.dif, bne_eq_false_iff_eq]
    simpa using e2
  | .sl es o, b, v, ha, hb => by
    cases b <;> try rfl
    rename_i fs o'
    obtain ⟨a1, c1, s1, b1, f1, g1, e1, _, _, hs1, ha1, hc1, hr1⟩ := ha.sl_inv
    obtain ⟨a2, c2, s2, b2, f2, g2, e2, _, _, hs2, ha2, hc2, hr2⟩ := hb.sl_inv
    rw [e1] at e2
    injection e2 with q1 q2 q3
    simp only [AV.dif, Bool.or_eq_false_iff, bne_eq_false_iff_eq, Bool.and_eq_false_iff]
    refine ⟨q2, ?_⟩
    cases hm : (es.map List.length == fs.map List.length) with
    | false => exact .inl rfl
    | true =>
      refine .inr ?_
      have hm' : es.map List.length = fs.map List.length := by simpa using hm
      cases es with
      | nil => cases fs <;> rfl
      | cons x xs =>
        cases fs with
        | nil => rfl
        | cons y ys =>
          have h1 := ha1 (by simp)
          have h2 := ha2 (by simp)
          have hs : s1 = s2 := by
            rw [← hs1 x (by simp), ← hs2 y (by simp)]
            simp only [List.map_cons, List.cons.injEq] at hm'
            exact hm'.1
          subst hs
          rw [h1, h2] at q1
          injection q1 with q1
          injection q1 with q1 q4
          subst q1 q4
          refine difLL_rep (x :: xs) (y :: ys) (fun i j => w.cell? ⟨b1, f1 + (i * s1 + j), none⟩) (fun i e j c hi hj => ?_) fun i e j c hi hj => ?_
          · exact ⟨_, (hc1 i e j c hi hj).2.1, hr1 i e j c hi hj⟩
          · exact ⟨_, (hc2 i e j c hi hj).2.1, hr2 i e j c hi hj⟩
  | .any, b, _, _, _ | .np, b, _, _, _ | .mp _ _ _, b, _, _, _ | .ip _ _, b, _, _, _ | .ms _ _ _ _ _, b, _, _, _ | .nmap, b, _, _, _ | .map _ _, b, _, _, _ | .itr _ _, b, _, _, _ | .fn _ _ _, b, _, _, _ | .nfn, b, _, _, _ | .ifc _ _, b, _, _, _ | .nif, b, _, _, _ | .agg _, b, _, _, _ | .tup _, b, _, _, _ => by
    cases b <;> rfl
theorem difL_rep : ∀ (xs ys : List AV) (f : Nat → Option Value), (∀ j c, xs[j]? = some c → ∃ v, f j = some v ∧ Rep ρ w v c) → (∀ j c, ys[j]? = some c → ∃ v, f j = some v ∧ Rep ρ w v c) → difL xs ys = false
  | [], ys, f, _, _ => by cases ys <;> rfl
  | x :: xs, [], f, _, _ => rfl
  | x :: xs, y :: ys, f, h1, h2 => by
    simp only [difL, Bool.or_eq_false_iff]
    obtain ⟨v, q1, q2⟩ := h1 0 x rfl
    obtain ⟨u, q3, q4⟩ := h2 0 y rfl
    rw [q1] at q3
    injection q3 with q3
    subst q3
    exact ⟨AV.dif_rep x y q2 q4, difL_rep xs ys (fun j => f (j + 1)) (fun j c h => h1 (j + 1) c (by simpa using h)) fun j c h => h2 (j + 1) c (by simpa using h)⟩
theorem difLL_rep : ∀ (xs ys : List (List AV)) (f : Nat → Nat → Option Value), (∀ i e j c, xs[i]? = some e → e[j]? = some c → ∃ v, f i j = some v ∧ Rep ρ w v c) → (∀ i e j c, ys[i]? = some e → e[j]? = some c → ∃ v, f i j = some v ∧ Rep ρ w v c) → difLL xs ys = false
  | [], ys, f, _, _ => by cases ys <;> rfl
  | x :: xs, [], f, _, _ => rfl
  | x :: xs, y :: ys, f, h1, h2 => by
    simp only [difLL, Bool.or_eq_false_iff]
    exact ⟨difL_rep x y (f 0) (fun j c h => h1 0 x j c rfl h) fun j c h => h2 0 y j c rfl h, difLL_rep xs ys (fun i => f (i + 1)) (fun i e j c hi h => h1 (i + 1) e j c (by simpa using hi) h) fun i e j c hi h => h2 (i + 1) e j c (by simpa using hi) h⟩
end

theorem difL_some {xs ys : List AV} (h : difL xs ys = true) : (∃ c, xs[0]? = some c) ∧ ∃ c, ys[0]? = some c := by
  cases xs with
  | nil => simp [difL] at h
  | cons x xs =>
    cases ys with
    | nil => simp [difL] at h
    | cons y ys => exact ⟨⟨x, rfl⟩, ⟨y, rfl⟩⟩

/-- Two places in blocks without marks. -/
theorem sameAddr_plain {b o b' o' : Nat} (h1 : zf w b) (h2 : zf w b') (hne : ¬ (b = b' ∧ o = o')) : (sameAddr ⟨b, o, none⟩ ⟨b', o', none⟩).run P w = .ok false w := by
  obtain ⟨arr, T, h1⟩ := h1
  obtain ⟨arr', T', h2⟩ := h2
  have f1 : ∀ j, w.frozen? ⟨b, j, none⟩ = false := fun j => frozen_of_row h1 j
  have f2 : ∀ j, w.frozen? ⟨b', j, none⟩ = false := fun j => frozen_of_row h2 j
  have s1 : w.shape? b = some (T, arr.size) := by simp [World.shape?, h1]
  have s2 : w.shape? b' = some (T', arr'.size) := by simp [World.shape?, h2]
  unfold sameAddr
  by_cases hb : b = b'
  · subst hb
    have ho : o ≠ o' := fun e => hne ⟨rfl, e⟩
    simp
  · simp [hb, frozen, shape, Sem.run, f1, f2, noView, viewAt, mayBeOne, stringish, s1, s2]

theorem equalIn_pp {t e : TypeId} (hu : P.underlying t = some (.pointer e)) (d : Nat) {a b : Addr} {r : Bool} {n : Nat} (hz : (sizeOf e).run P w = .ok n w) (hn : n ≠ 0) (h : (sameAddr a b).run P w = .ok r w) : (Op.equalIn (d + 1) t (.pointer (some a)) (.pointer (some b))).run P w = .ok r w := by
  simp [Op.equalIn, run_underlying hu, samePointer, hz, hn, h]

theorem aEq_run {t : TypeId} {x y : Value} {a b : AV} {r : Bool} (hx : Rep ρ w x a) (hy : Rep ρ w y b) (h : aEq P t a b = some r) (xo yo : Operand) :
    (do eqGuard .eql t xo yo x y; binOp .eql t x y : Sem Value).run P w = .ok (.bool r) w ∧ (do eqGuard .neq t xo yo x y; binOp .neq t x y : Sem Value).run P w = .ok (.bool (!r)) w := by
  unfold aEq at h
  split at h
  · rename_i hu
    split at h
    · injection h with h
      subst h
      have e1 := hx.bool_inv
      have e2 := hy.bool_inv
      subst e1 e2
      simp only [Sem.run_bind, guard_bool, Result.andThen_ok, run_eql_bool w t _ _ hu, run_neq_bool w t _ _ hu, and_self]
    · cases h
  · rename_i e hu
    have hnil : ∀ {u : AV} {z : Value} {q : Bool}, isNilAV u = some q → Rep ρ w z u → ∃ o : Option Addr, z = .pointer o ∧ o.isNone = q := by
      intro u z q hq hz
      unfold isNilAV at hq
      split at hq
      · injection hq with hq; subst hq; exact ⟨none, hz.np_inv, rfl⟩
      · injection hq with hq; subst hq; obtain ⟨b, _, rfl⟩ := hz.mp_inv; exact ⟨_, rfl, rfl⟩
      · injection hq with hq; subst hq; obtain ⟨b, o, f, rfl, _⟩ := hz.ip_inv; exact ⟨_, rfl, rfl⟩
      · cases hq
    split at h
    · obtain ⟨o, rfl, rfl⟩ := hnil h hy
      have e1 := hx.np_inv
      subst e1
      have he := equalIn_nil_ptr (w := w) hu 9999 o
      simp only [Sem.run_bind, guard_ptr, Result.andThen_ok, eql_ptr he, neq_ptr he, and_self]
    · obtain ⟨o, rfl, rfl⟩ := hnil h hx
      have e1 := hy.np_inv
      subst e1
      have he := equalIn_ptr_nil (w := w) hu 9999 o
      simp only [Sem.run_bind, guard_ptr, Result.andThen_ok, eql_ptr he, neq_ptr he, and_self]
    · rename_i cs l ds k
      split at h
      case h_2 => cases h
      rename_i L hL
      split at h
      · rename_i hc
        obtain ⟨hl, hk, hn, hd⟩ := hc
        injection h with h
        subst h
        obtain ⟨b1, o1, f1, rfl, p1, p2⟩ := hx.ip_inv
        obtain ⟨b2, o2, f2, rfl, p3, p4⟩ := hy.ip_inv
        obtain ⟨⟨c1, q1⟩, c2, q2⟩ := difL_some hd
        have z1 := (p1 0 c1 q1).2.2.2.2 hl
        have z2 := (p3 0 c2 q2).2.2.2.2 hk
        have hne : ¬ (b1 = b2 ∧ o1 = o2) := by
          rintro ⟨rfl, rfl⟩
          have := difL_rep (ρ := ρ) (w := w) cs ds (fun j => w.cell? ⟨b1, o1 + j, none⟩) (fun j c h => ⟨_, (p1 j c h).2.1, p2 j c h⟩) fun j c h => ⟨_, (p3 j c h).2.1, p4 j c h⟩
          rw [hd] at this
          cases this
        have he : (Op.equalIn 10000 t (.pointer (some ⟨b1, o1, none⟩)) (.pointer (some ⟨b2, o2, none⟩))).run P w = .ok false w := equalIn_pp hu 9999 (lay_size hL) hn (sameAddr_plain z1 z2 hne)
        simp only [Sem.run_bind, guard_ptr, Result.andThen_ok, eql_ptr he, neq_ptr he, and_self]
      · cases h
    · cases h
  · rename_i fs hu
    split at h
    · rename_i n xs ys hs
      obtain ⟨fs', hu', hn, hp, hg, hf⟩ := strStruct_inv hs
      split at h
      · rename_i hl
        obtain ⟨A, rfl, _⟩ := hx.agg_inv
        obtain ⟨B, rfl, _⟩ := hy.agg_inv
        have hfo := fieldsOf_of hu'
        have hr := eqFields_strs (P := P) 9998 fs'.toList 0 A B xs ys r (by simpa using h) hx hy (by simp; omega) (by simp; omega) (fun i f hi => by simpa using hf i f hi)
        have he : (Op.equalIn 10000 t (.agg A) (.agg B)).run P w = .ok r w := by
          rw [run_equalIn_agg w 9999 t A B (by rw [hfo]; exact hu') hp, hfo]
          exact hr
        refine ⟨?_, ?_⟩
        · rw [Sem.run_bind, run_eqGuard_agg w .eql t xo yo A B hg, Result.andThen_ok, run_eql_struct, he]; rfl
        · rw [Sem.run_bind, run_eqGuard_agg w .neq t xo yo A B hg, Result.andThen_ok, run_neq_struct, he]; rfl
      · cases h
    · cases h
  · cases h

theorem guard_int (op : BinOp) (t : TypeId) (xo yo : Operand) (k k' : IntKind) (a b : Int) : (eqGuard op t xo yo (.int k a) (.int k' b)).run P w = .ok () w := by cases op <;> simp [eqGuard]
theorem guard_str (op : BinOp) (t : TypeId) (xo yo : Operand) (a b : ByteArray) : (eqGuard op t xo yo (.string a) (.string b)).run P w = .ok () w := by cases op <;> simp [eqGuard]

theorem bin_sound {op : BinOp} {t : TypeId} {x y : Value} {a b v : AV} (hx : Rep ρ w x a) (hy : Rep ρ w y b) (h : aBin P op t a b = some v) (xo yo : Operand) :
    ∃ z, (do eqGuard op t xo yo x y; binOp op t x y : Sem Value).run P w = .ok z w ∧ Rep ρ w z v := by
  unfold aBin at h
  split at h
  · rename_i k m k' n
    have e1 := hx.int_inv
    have e2 := hy.int_inv
    subst e1 e2
    simp only [Sem.run_bind, guard_int, Result.andThen_ok]
    split at h
    · split at h
      · rename_i hb
        injection h with h
        subst h
        exact ⟨_, by simp [binOp, Op.shift, show ¬ n < 0 from by omega], .int _ _⟩
      · cases h
    · split at h
      · rename_i hb
        injection h with h
        subst h
        exact ⟨_, by simp [binOp, Op.shift, show ¬ n < 0 from by omega], .int _ _⟩
      · cases h
    · split at h
      · rename_i hk
        subst hk
        exact intArith_bin op t k m n h
      · cases h
  · rename_i s u
    have e1 := hx.str_inv
    have e2 := hy.str_inv
    subst e1 e2
    simp only [Sem.run_bind, guard_str, Result.andThen_ok]
    exact str_bin op t s u h
  · split at h
    · cases he : aEq P t a b with
      | none => simp [he] at h
      | some r =>
        simp [he] at h
        subst h
        exact ⟨_, (aEq_run hx hy he xo yo).1, .bool _⟩
    · cases he : aEq P t a b with
      | none => simp [he] at h
      | some r =>
        simp [he] at h
        subst h
        exact ⟨_, (aEq_run hx hy he xo yo).2, .bool _⟩
    · cases h

theorem un_sound {op : UnOp} {x : Value} {a v : AV} (hx : Rep ρ w x a) (h : aUn op a = some v) : ∃ z, (Op.unary op x).run P w = .ok z w ∧ Rep ρ w z v := by
  unfold aUn at h
  split at h
  · injection h with h; subst h; have e1 := hx.int_inv; subst e1; exact ⟨_, by simp [Op.unary, Op.intArith], .int _ _⟩
  · injection h with h; subst h; have e1 := hx.int_inv; subst e1; exact ⟨_, by simp only [Op.unary, Op.intBits, aBits, Sem.run_pure], .int _ _⟩
  · injection h with h; subst h; have e1 := hx.bool_inv; subst e1; exact ⟨_, by simp [Op.unary], .bool _⟩
  · cases h

end
end Go.Ab
