import Derived.Test.YtlpffainhdnaiaaGreatDoorAbSound2
/- Conversions, slices, lengths, literals: each does what ours says. -/
namespace Go.Ab
open Go

section
variable {P : Program} {G : Nat → AV} {ρ : Ren} {S : St} {w : World}

theorem bytesOf_get : ∀ (es : List (List AV)) (bs : List UInt8), bytesOf es = some bs → ∃ ns : List Int, es = ns.map (fun n => [AV.int .u8 n]) ∧ bs = ns.map (fun n => UInt8.ofNat n.toNat) := by
  intro es
  induction es with
  | nil => intro bs h; simp [bytesOf] at h; subst h; exact ⟨[], rfl, rfl⟩
  | cons e es ih =>
    intro bs h
    unfold bytesOf at h
    split at h
    · rename_i e1; cases e1
    · rename_i n r e1
      injection e1 with e1 e2
      subst e1 e2
      cases hr : bytesOf es with
      | none => simp [hr] at h
      | some bs' =>
        simp [hr] at h
        subst h
        obtain ⟨ns, h1, h2⟩ := ih bs' hr
        exact ⟨n :: ns, by simp [h1], by simp [h2]⟩
    · cases h

theorem foldl_push : ∀ (ns : List Int) (s : List UInt8), ns.foldl (fun r n => r.push (UInt8.ofNat n.toNat)) (ByteArray.mk s.toArray) = ByteArray.mk (s ++ ns.map (fun n => UInt8.ofNat n.toNat)).toArray := by
  intro ns
  induction ns with
  | nil => intro s; simp
  | cons n ns ih =>
    intro s
    have hp : (ByteArray.mk s.toArray).push (UInt8.ofNat n.toNat) = ByteArray.mk (s ++ [UInt8.ofNat n.toNat]).toArray := by
      apply ByteArray.ext
      simp [ByteArray.push]
    rw [List.foldl_cons, hp, ih]
    simp

theorem conv_sound {s d : TypeId} {x : Value} {a v : AV} (hx : Rep ρ w x a) (h : aConv P s d a = some v) : ∃ y, (convert s d x).run P w = .ok y w ∧ Rep ρ w y v := by
  unfold aConv at h
  split at h
  · rename_i d1 k k' n h1 h2
    injection h with h
    subst h
    have e1 := hx.int_inv
    subst e1
    exact ⟨_, by simp [convert, run_underlying h1, run_underlying h2, Conv.intToInt], .int _ _⟩
  · rename_i d1 b h1 h2
    injection h with h
    subst h
    have e1 := hx.str_inv
    subst e1
    exact ⟨_, by simp [convert, run_underlying h1, run_underlying h2], .str _⟩
  · rename_i e es o h1 h2
    split at h
    · rename_i hu
      cases hb : bytesOf es with
      | none => simp [hb] at h
      | some bs =>
        simp [hb] at h
        subst h
        obtain ⟨ns, rfl, rfl⟩ := bytesOf_get es bs hb
        obtain ⟨ad, cap, sz, b, off, f, rfl, c1, c2, c3, c4, c5, c6⟩ := hx.sl_inv
        refine ⟨_, ?_, .str _⟩
        have hcv : ∀ y : Value, (∃ a n c, y = .slice a n c) → (convert s d y).run P w = (Conv.bytesToString y).run P w := by
          rintro _ ⟨a, n, c, rfl⟩
          simp [convert, run_underlying h1, run_underlying h2, run_underlying hu]
        rw [hcv _ ⟨_, _, _, rfl⟩]
        cases hns : ns with
        | nil =>
          subst hns
          simp only [List.map_nil, List.length_nil]
          cases ad with
          | none => simp [Conv.bytesToString, ByteArray.empty, ByteArray.emptyWithCapacity]; try rfl
          | some ad =>
            rw [run_bytesToString w ad 0 cap [] (by simp [loadCells, loadCellsFrom])]
            simp [ByteArray.empty, ByteArray.emptyWithCapacity]; try rfl
        | cons n0 ns0 =>
          rw [← hns]
          have hne : (ns.map fun n => [AV.int .u8 n]) ≠ [] := by rw [hns]; simp
          have hs : sz = 1 := by
            have := c3 [AV.int .u8 n0] (by rw [hns]; simp)
            simpa using this.symm
          subst hs
          rw [c4 hne]
          have hl : (loadCells ⟨b, off, none⟩ ns.length).run P w = .ok (ns.map (Value.int .u8)).toArray w := by
            have hc : ∀ j, j < ns.length → w.cell? ⟨b, off + j, none⟩ = some (.int .u8 (ns.getD j 0)) := by
              intro j hj
              have hj1 : (ns.map fun n => [AV.int .u8 n])[j]? = some [AV.int .u8 (ns.getD j 0)] := by simp [List.getElem?_eq_getElem hj]
              have h5 := c5 j _ 0 _ hj1 rfl
              have h6 := (c6 j _ 0 _ hj1 rfl).int_inv
              rw [show off + (j * 1 + 0) = off + j from by omega] at h5
              rw [h5.2.1, h6]
            rw [run_loadCells (fun j => .int .u8 (ns.getD j 0)) ns.length hc]
            congr 2
            apply List.ext_getElem
            · simp
            · intro j h1 h2; simp at h1; simp [h1]
          rw [List.length_map, run_bytesToString w _ ns.length cap ns hl]
          have := foldl_push ns []
          simp only [List.nil_append] at this
          rw [← this]
          simp [ByteArray.empty, ByteArray.emptyWithCapacity]; try rfl
    · cases h
  · cases h

theorem bnd_spec {n y : Int} (h : bnd n y = true) : 0 ≤ n ∧ n ≤ y := by simpa [bnd] using h

theorem bounds_run {isS : Bool} {len cap : Nat} {lo hi : Option Operand} {ρo : Operand → Value} {av : Operand → AV} (hR : ∀ x, Rep ρ w (ρo x) (av x)) {x : Nat × Nat} (hb : bnds len (lo.map av) (hi.map av) = some x)
    (hc : len ≤ cap) : (Instr.sliceBounds isS len cap (lo.map ρo) (hi.map ρo) none).run P w = .ok (x.1, x.2, cap) w ∧ x.1 ≤ x.2 ∧ x.2 ≤ len := by
  unfold bnds at hb
  split at hb
  case h_2 => cases hb
  rename_i l h hl hh
  split at hb
  case isFalse => cases hb
  rename_i hbb
  simp only [Bool.and_eq_true] at hbb
  obtain ⟨b1, b2⟩ := hbb
  injection hb with hb
  subst hb
  obtain ⟨p1, p2⟩ := bnd_spec b1
  obtain ⟨q1, q2⟩ := bnd_spec b2
  have hop : ∀ (x : Operand) (n : Int) (k : IntKind), av x = .int k n → ρo x = .int k n := fun x n k hx => (hx ▸ hR x : Rep ρ w (ρo x) (.int k n)).int_inv
  obtain ⟨H, rfl⟩ : ∃ H : Nat, h = H := ⟨h.toNat, (Int.toNat_of_nonneg p1).symm⟩
  obtain ⟨L, rfl⟩ : ∃ L : Nat, l = L := ⟨l.toNat, (Int.toNat_of_nonneg q1).symm⟩
  have hHc : H ≤ cap := by omega
  have hLH : L ≤ H := by omega
  refine ⟨?_, by simp; omega, by simp; omega⟩
  have s1 : ∀ k code, (Instr.sliceBound (.int k (H : Int)) cap code).run P w = .ok H w := fun k code => by
    rw [run_sliceBound w k H cap code p1 (by omega)]; simp
  have s2 : ∀ k code, (Instr.sliceBound (.int k (L : Int)) H code).run P w = .ok L w := fun k code => by
    rw [run_sliceBound w k L H code q1 (by omega)]; simp
  cases hi with
  | none =>
    simp only [Option.map_none, hiOf, Option.some.injEq] at hh
    have : H = len := by omega
    subst this
    cases lo with
    | none =>
      simp only [Option.map_none, loOf, Option.some.injEq] at hl
      have : L = 0 := by omega
      subst this
      simp [Instr.sliceBounds]
    | some x =>
      simp only [Option.map_some] at hl ⊢
      cases hx : av x <;> simp only [loOf, hx, Option.some.injEq, reduceCtorEq] at hl
      subst hl
      rw [hop x _ _ hx]
      simp [Instr.sliceBounds, s2]
  | some y =>
    simp only [Option.map_some] at hh ⊢
    cases hy : av y <;> simp only [hiOf, hy, Option.some.injEq, reduceCtorEq] at hh
    subst hh
    rw [hop y _ _ hy]
    cases lo with
    | none =>
      simp only [Option.map_none, loOf, Option.some.injEq] at hl
      have : L = 0 := by omega
      subst this
      simp [Instr.sliceBounds, s1]
    | some x =>
      simp only [Option.map_some] at hl ⊢
      cases hx : av x <;> simp only [loOf, hx, Option.some.injEq, reduceCtorEq] at hl
      subst hl
      rw [hop x _ _ hx]
      simp [Instr.sliceBounds, s1, s2]

theorem extract_mk (s : List UInt8) (l h : Nat) : (ByteArray.mk s.toArray).extract l h = ByteArray.mk ((s.drop l).take (h - l)).toArray := by
  apply ByteArray.ext
  simp [ByteArray.data_extract, List.extract_toArray]

theorem lenOk_spec {n : Nat} {es : List (List AV)} (h : lenOk n es = true) : ∀ e ∈ es, e.length = n := by
  unfold lenOk at h
  simpa using h

theorem slice_sl {es : List (List AV)} {o : Own} {a : Option Addr} {cap n : Nat} (hx : Rep ρ w (.slice a es.length cap) (.sl es o)) (hn : ∀ e ∈ es, e.length = n) {l h : Nat} (h1 : l ≤ h) (h2 : h ≤ es.length) :
    Rep ρ w (.slice (if cap = l then a else a.map (·.add (l * n))) (h - l) (cap - l)) (.sl ((es.drop l).take (h - l)) (if o = .unk then .unk else .frs)) := by
  obtain ⟨a', cap', s, b, off, f, e, c1, c2, c3, c4, c5, c6⟩ := hx.sl_inv
  injection e with e1 e2 e3
  subst e1 e3
  have hlen : ((es.drop l).take (h - l)).length = h - l := by simp; omega
  have hget : ∀ (i : Nat) e, ((es.drop l).take (h - l))[i]? = some e → i < h - l ∧ es[l + i]? = some e := by
    intro i e he
    rw [List.getElem?_take] at he
    split at he
    · rename_i hi
      rw [List.getElem?_drop] at he
      exact ⟨hi, he⟩
    · cases he
  have key := Rep.sl (ρ := ρ) (w := w) (if cap = l then a else a.map (·.add (l * n))) (cap - l) n ((es.drop l).take (h - l)) (if o = .unk then .unk else .frs) b (off + l * n) (fun i j => f (l + i) j)
    (by omega) (fun hf => by split at hf <;> cases hf) (fun e he => hn e (List.drop_subset _ _ (List.take_subset _ _ he)))
    (fun hne => by
      have hpos : 0 < ((es.drop l).take (h - l)).length := List.length_pos_iff.2 hne
      have hne' : es ≠ [] := by intro e; subst e; simp at hpos
      rw [if_neg (by omega), c4 hne', Option.map_some, add_mk])
    (fun i e j c hi hj => by
      obtain ⟨_, hi'⟩ := hget i e hi
      have hs : s = n := (c3 e (List.mem_of_getElem? hi')).symm.trans (hn e (List.mem_of_getElem? hi'))
      subst hs
      obtain ⟨q1, q2, q3, q4, q5⟩ := c5 (l + i) e j c hi' hj
      have ea : off + ((l + i) * s + j) = off + l * s + (i * s + j) := by rw [Nat.add_mul]; omega
      rw [ea] at q1 q2
      refine ⟨q1, q2, q3, q4, fun ho => q5 fun e => ?_⟩
      subst e
      exact ho rfl)
    (fun i e j c hi hj => c6 (l + i) e j c (hget i e hi).2 hj)
  rw [hlen] at key
  exact key

theorem slice_sound {t : TypeId} {ρo : Operand → Value} {av : Operand → AV} (hR : ∀ x, Rep ρ w (ρo x) (av x)) {xo : Operand} {lo hi mx : Option Operand} {v : AV} (h : aSlice P t (av xo) (lo.map av) (hi.map av) (mx.map av) = some v) :
    ∃ y, (Instr.sliceAt t (ρo xo) (lo.map ρo) (hi.map ρo) (mx.map ρo)).run P w = .ok y w ∧ Rep ρ w y v := by
  have hx := hR xo
  generalize hX : ρo xo = X at hx ⊢
  generalize hA : av xo = A at hx h
  unfold aSlice at h
  split at h
  · rename_i s hu
    split at h
    · rename_i hm
      have hmx : mx = none := by cases mx <;> simp at hm ⊢
      subst hmx
      cases hb : bnds s.length (lo.map av) (hi.map av) with
      | none => simp [hb] at h
      | some b =>
        simp [hb] at h
        subst h
        have e1 := hx.str_inv
        subst e1
        obtain ⟨r1, r2, r3⟩ := bounds_run (P := P) (isS := false) hR hb (Nat.le_refl s.length)
        refine ⟨_, ?_, .str _⟩
        have : (Instr.slice t (.string ⟨s.toArray⟩) (lo.map ρo) (hi.map ρo) none).run P w = .ok (.string ((ByteArray.mk s.toArray).extract b.1 b.2)) w := by
          simp [Instr.slice, run_underlying hu, size_mk, r1]
        rw [extract_mk] at this
        simpa [Instr.sliceAt, run_underlying hu] using this
    · cases h
  · rename_i e es o hu
    split at h
    · rename_i L hL
      split at h
      · rename_i hok
        have hn := lenOk_spec hok
        obtain ⟨ad, cap, _, _, _, _, rfl, hc, _⟩ := hx.sl_inv
        split at h
        · rename_i hm
          have hmx : mx = none := by cases mx <;> simp at hm ⊢
          subst hmx
          cases hb : bnds es.length (lo.map av) (hi.map av) with
          | none => simp [hb] at h
          | some b =>
            simp [hb] at h
            subst h
            obtain ⟨r1, r2, r3⟩ := bounds_run (P := P) (isS := true) hR hb hc
            refine ⟨_, ?_, slice_sl hx hn r2 r3⟩
            simp [Instr.sliceAt, Instr.slice, run_underlying hu, r1, lay_size hL]
        · rename_i k m hm
          split at h
          · rename_i k' hh h1 h2
            split at h
            · rename_i hz
              obtain ⟨rfl, rfl⟩ := hz
              injection h with h
              subst h
              have hlo : lo = none := by cases lo <;> simp at h1 ⊢
              subst hlo
              cases mx with
              | none => simp at hm
              | some mo =>
                cases hi with
                | none => simp at h2
                | some ho =>
                  simp only [Option.map_some, Option.some.injEq] at hm h2
                  have em := (hm ▸ hR mo : Rep ρ w (ρo mo) (.int k 0)).int_inv
                  have eh := (h2 ▸ hR ho : Rep ρ w (ρo ho) (.int k' 0)).int_inv
                  simp only [Option.map_some, Option.map_none, em, eh]
                  refine ⟨.slice ad 0 0, ?_, .sl ad 0 0 [] .full 0 0 (fun _ _ => .nilFunc) (Nat.le_refl _) (fun _ => rfl) (by simp) (fun h => absurd rfl h) (by simp) (by simp)⟩
                  have s0 : ∀ kk (y : Nat) code, (Instr.sliceBound (.int kk (0 : Int)) y code).run P w = .ok 0 w := fun kk y code => by
                    rw [run_sliceBound w kk 0 y code (Int.le_refl _) (by omega)]; rfl
                  simp [Instr.sliceAt, Instr.slice, run_underlying hu, Instr.sliceBounds, s0, lay_size hL]
            · cases h
          · cases h
        · cases h
      · cases h
    · cases h
  · cases h

end
end Go.Ab
