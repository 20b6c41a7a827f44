import Derived.Test.YtlpffainhdnaiaaGreatDoorAbInv
/- Each pure operation does what ours says. -/
namespace Go.Ab
open Go

section
variable {P : Program} {G : Nat → AV} {ρ : Ren} {S : St} {w : World}

theorem fldOf_inv {t : TypeId} {f : Nat} {off sz : Nat} {ag : Bool} (h : fldOf P t f = some (off, sz, ag)) :
    ∃ fs fd L, P.underlying t = some (.struct fs) ∧ fs[f]? = some fd ∧ layOf P fd.type = some L ∧ fd.offset = off ∧ L.size = sz ∧ L.agg = ag := by
  unfold fldOf at h
  split at h
  · rename_i fs hu
    split at h
    · rename_i fd hf
      split at h
      · rename_i L hL
        simp only [Option.some.injEq, Prod.mk.injEq] at h
        exact ⟨fs, fd, L, hu, hf, hL, h.1, h.2.1, h.2.2⟩
      · cases h
    · cases h
  · cases h

theorem eltOf_slice {t : TypeId} {L : Lay} (h : eltOf P t = some (none, L)) : ∃ e, P.underlying t = some (.slice e) ∧ layOf P e = some L := by
  unfold eltOf at h
  split at h
  · rename_i e hu
    cases hL : layOf P e with
    | none => simp [hL] at h
    | some L' => simp [hL] at h; exact ⟨e, hu, by rw [hL, h]⟩
  · rename_i n e hu
    cases hL : layOf P e with
    | none => simp [hL] at h
    | some L' => simp [hL] at h
  · cases h

theorem eltOf_array {t : TypeId} {L : Lay} {n : Nat} (h : eltOf P t = some (some n, L)) : ∃ e, P.underlying t = some (.array n e) ∧ layOf P e = some L := by
  unfold eltOf at h
  split at h
  · rename_i e hu
    cases hL : layOf P e with
    | none => simp [hL] at h
    | some L' => simp [hL] at h
  · rename_i n' e hu
    cases hL : layOf P e with
    | none => simp [hL] at h
    | some L' => simp [hL] at h; exact ⟨e, by rw [hu, h.1], by rw [hL, h.2]⟩
  · cases h

theorem agg_part {A : Array Value} {cs : List AV} (h : Rep ρ w (.agg A) (.agg cs)) {off n : Nat} (hn : off + n ≤ cs.length) :
    Rep ρ w (.agg (A.extract off (off + n))) (.agg ((cs.drop off).take n)) := by
  obtain ⟨A', e, h1, h2, h3⟩ := h.agg_inv
  injection e with e
  subst e
  refine .agg _ _ ?_ (fun j v hj => ?_) fun j v c hj hc => ?_
  · simp; omega
  · rw [Array.getElem?_extract] at hj
    split at hj
    · exact h2 _ v hj
    · cases hj
  · rw [Array.getElem?_extract] at hj
    rw [List.getElem?_take] at hc
    split at hj
    · split at hc
      · rw [List.getElem?_drop] at hc
        exact h3 _ v c hj hc
      · cases hc
    · cases hj

theorem part_run {t : TypeId} {L : Lay} (hL : layOf P t = some L) {A : Array Value} {cs : List AV} (h : Rep ρ w (.agg A) (.agg cs)) {off : Nat} (hn : off + L.size ≤ cs.length) {v : AV}
    (hv : mkVal L.agg ((cs.drop off).take L.size) = some v) : ∃ x, (part t A off).run P w = .ok x w ∧ Rep ρ w x v := by
  obtain ⟨A', e, h1, h2, h3⟩ := h.agg_inv
  injection e with e
  subst e
  unfold part
  simp only [Sem.run_bind, lay_agg hL, Result.andThen_ok]
  unfold mkVal at hv
  cases ha : L.agg with
  | true =>
    rw [ha] at hv
    simp only [if_true, Option.some.injEq] at hv
    subst hv
    simp only [if_true, Sem.run_bind, lay_size hL, Result.andThen_ok, Sem.run_pure]
    exact ⟨_, rfl, agg_part h hn⟩
  | false =>
    have h1s := lay_one hL ha
    rw [ha, h1s] at hv
    simp only [Bool.false_eq_true, if_false] at hv ⊢
    have hlt : off < A.size := by omega
    rw [Array.getElem?_eq_getElem hlt]
    refine ⟨_, rfl, h3 off _ v (Array.getElem?_eq_getElem hlt) ?_⟩
    rw [← hv]
    simp [List.getElem?_drop]

theorem field_sound {t : TypeId} {f : Nat} {x : Value} {a v : AV} (hx : Rep ρ w x a) (h : aField (fldOf P t f) a = some v) : ∃ y, (Instr.field t x f).run P w = .ok y w ∧ Rep ρ w y v := by
  unfold aField at h
  split at h
  · rename_i off sz ag cs hf
    split at h
    · rename_i hle
      obtain ⟨fs, fd, L, h1, h2, h3, rfl, rfl, rfl⟩ := fldOf_inv hf
      obtain ⟨A, rfl, _⟩ := hx.agg_inv
      obtain ⟨y, hy, hr⟩ := part_run h3 hx hle h
      refine ⟨y, ?_, hr⟩
      unfold Instr.field
      simp only [Sem.run_bind, run_underlying h1, Result.andThen_ok, h2]
      simpa [asAgg] using hy
    · cases h
  · cases h

theorem drop_ip {cs : List AV} {l : Own} {x : Value} (h : Rep ρ w x (.ip cs l)) (n : Nat) : ∃ b o, x = .pointer (some ⟨b, o, none⟩) ∧ Rep ρ w (.pointer (some ⟨b, o + n, none⟩)) (.ip (cs.drop n) l) := by
  obtain ⟨b, o, f, rfl, h1, h2⟩ := h.ip_inv
  refine ⟨b, o, rfl, .ip b (o + n) _ l (fun j => f (n + j)) (fun j c hj => ?_) fun j c hj => ?_⟩
  · rw [List.getElem?_drop] at hj
    have := h1 (n + j) c hj
    rw [show o + n + j = o + (n + j) from by omega]
    exact this
  · rw [List.getElem?_drop] at hj
    exact h2 (n + j) c hj

theorem fieldPlace_run {fd : Field} {L : Lay} (hL : layOf P fd.type = some L) (hs : L.size ≠ 0) (b o : Nat) : (fieldPlace ⟨b, o, none⟩ fd).run P w = .ok ⟨b, o + fd.offset, none⟩ w := by
  unfold fieldPlace
  simp only [Sem.run_bind, lay_size hL, Result.andThen_ok, hs, if_false, Sem.run_pure, add_mk]

theorem fieldAddr_sound {t : TypeId} {f : Nat} {x : Value} {a v : AV} (hx : Rep ρ w x a) (h : aFieldAddr (fldOf P t f) a = some v) : ∃ y, (Instr.fieldAt t x f).run P w = .ok y w ∧ Rep ρ w y v := by
  unfold aFieldAddr at h
  have key : ∀ off sz ag, fldOf P t f = some (off, sz, ag) → sz ≠ 0 → ∀ b o, x = .pointer (some ⟨b, o, none⟩) → (Instr.fieldAt t x f).run P w = .ok (.pointer (some ⟨b, o + off, none⟩)) w := by
    intro off sz ag hf hs b o e
    obtain ⟨fs, fd, L, h1, h2, h3, rfl, rfl, rfl⟩ := fldOf_inv hf
    subst e
    unfold Instr.fieldAt
    simp only [Sem.run_bind, run_underlying h1, Result.andThen_ok, h2, Instr.sureAddr, Sem.run_pure, fieldPlace_run h3 hs]
  split at h
  · rename_i off sz ag d i o hf
    split at h
    · cases h
    · rename_i hs
      injection h with h
      subst h
      obtain ⟨b, hb, rfl⟩ := hx.mp_inv
      exact ⟨_, key off sz ag hf hs b o rfl, .mp _ hb⟩
  · rename_i off sz ag cs l hf
    split at h
    · cases h
    · rename_i hs
      injection h with h
      subst h
      obtain ⟨b, o, rfl, hr⟩ := drop_ip hx off
      exact ⟨_, key off sz ag hf hs b o rfl, hr⟩
  · cases h

theorem elem_ip {n : Nat} {es : List (List AV)} {o : Own} {x : Value} (hx : Rep ρ w x (.sl es o)) {i : Nat} {e : List AV} (he : es[i]? = some e) (hn : e.length = n) :
    ∃ b off cap, x = .slice (some ⟨b, off, none⟩) es.length cap ∧ i < es.length ∧ Rep ρ w (.pointer (some ⟨b, off + i * n, none⟩)) (.ip e o) := by
  obtain ⟨a, cap, s, b, off, f, rfl, h1, h2, h3, h4, h5, h6⟩ := hx.sl_inv
  have hi : i < es.length := (List.getElem?_eq_some_iff.1 he).1
  have hne : es ≠ [] := by intro e'; subst e'; simp at hi
  have hs : s = n := (h3 e (List.mem_of_getElem? he)).symm.trans hn
  subst hs
  rw [h4 hne]
  refine ⟨b, off, cap, rfl, hi, .ip b (off + i * s) e o (fun j => f i j) (fun j c hj => ?_) fun j c hj => h6 i e j c he hj⟩
  have := h5 i e j c he hj
  rw [show off + i * s + j = off + (i * s + j) from by omega]
  exact this

theorem indexAddr_sound {t : TypeId} {x y : Value} {a b v : AV} (hx : Rep ρ w x a) (hy : Rep ρ w y b) (h : aIndexAddr (eltOf P t) a b = some v) :
    ∃ z, (Instr.indexAt t x y).run P w = .ok z w ∧ Rep ρ w z v := by
  unfold aIndexAddr at h
  split at h
  · rename_i L es o k n hel
    obtain ⟨e, hu, hL⟩ := eltOf_slice hel
    have e1 := hy.int_inv
    subst e1
    split at h
    · rename_i hn
      cases he : es[n.toNat]? with
      | none => simp [he] at h
      | some e' =>
        simp [he] at h
        obtain ⟨hlen, h⟩ := h
        subst h
        obtain ⟨b, off, cap, rfl, hi, hr⟩ := elem_ip hx he hlen
        refine ⟨_, ?_, hr⟩
        unfold Instr.indexAt
        have hlt : 0 ≤ n ∧ n < (es.length : Int) := ⟨hn, by omega⟩
        simp [asIntOf, run_underlying hu, hlt, lay_size hL, add_mk]
    · cases h
  · rename_i L d i off len cap k n hel
    obtain ⟨e, hu, hL⟩ := eltOf_slice hel
    have e1 := hy.int_inv
    subst e1
    split at h
    · rename_i hc
      injection h with h
      subst h
      obtain ⟨b, cc, hb, rfl, _⟩ := hx.ms_inv
      refine ⟨_, ?_, .mp _ hb⟩
      unfold Instr.indexAt
      simp [asIntOf, run_underlying hu, hc, lay_size hL, add_mk]
    · cases h
  · rename_i N L d i off k n hel
    obtain ⟨e, hu, hL⟩ := eltOf_array hel
    have e1 := hy.int_inv
    subst e1
    split at h
    · rename_i hc
      injection h with h
      subst h
      obtain ⟨b, hb, rfl⟩ := hx.mp_inv
      refine ⟨_, ?_, .mp _ hb⟩
      unfold Instr.indexAt
      simp [asIntOf, run_underlying hu, hc, lay_size hL, add_mk, Instr.sureAddr]
    · cases h
  · rename_i N L cs l k n hel
    obtain ⟨e, hu, hL⟩ := eltOf_array hel
    have e1 := hy.int_inv
    subst e1
    split at h
    · rename_i hc
      injection h with h
      subst h
      obtain ⟨b, o, rfl, hr⟩ := drop_ip hx (n.toNat * L.size)
      refine ⟨_, ?_, hr⟩
      unfold Instr.indexAt
      simp [asIntOf, run_underlying hu, hc, lay_size hL, add_mk, Instr.sureAddr]
    · cases h
  · cases h

theorem index_sound {t : TypeId} {x y : Value} {a b v : AV} (hx : Rep ρ w x a) (hy : Rep ρ w y b) (h : aIndex P t a b = some v) :
    ∃ z, (Instr.index t x y).run P w = .ok z w ∧ Rep ρ w z v := by
  unfold aIndex at h
  split at h
  · rename_i s k n
    have e1 := hy.int_inv
    have e2 := hx.str_inv
    subst e1 e2
    split at h
    · rename_i hu
      split at h
      · rename_i hn
        cases hb : s[n.toNat]? with
        | none => simp [hb] at h
        | some c =>
          simp [hb] at h
          subst h
          refine ⟨_, ?_, .int _ _⟩
          unfold Instr.index
          have hlt := (List.getElem?_eq_some_iff.1 hb)
          obtain ⟨h1, h2⟩ := hlt
          have hg : (ByteArray.mk s.toArray)[n.toNat]? = some c := by
            have hsz : n.toNat < (ByteArray.mk s.toArray).size := by simpa [ByteArray.size] using h1
            rw [getElem?_pos (ByteArray.mk s.toArray) n.toNat hsz]
            refine congrArg some ?_
            show s.toArray[n.toNat]'(by simpa using h1) = c
            simp [h2]
          simp [asIntOf, run_underlying hu, hn, hg]
      · cases h
    · cases h
  · rename_i cs k n
    have e1 := hy.int_inv
    subst e1
    split at h
    · rename_i N L hel
      obtain ⟨e, hu, hL⟩ := eltOf_array hel
      split at h
      · rename_i hc
        obtain ⟨A, rfl, _⟩ := hx.agg_inv
        obtain ⟨z, hz, hr⟩ := part_run hL hx hc.2.2 h
        refine ⟨z, ?_, hr⟩
        unfold Instr.index
        simp only [asIntOf, Sem.run_bind, Sem.run_pure, Result.andThen_ok, run_underlying hu, Sem.run_ite, hc.1, hc.2.1, and_self, if_true, lay_size hL]
        exact hz
      · cases h
    · cases h
  · cases h

end
end Go.Ab
