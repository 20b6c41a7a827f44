import Derived.Test.YtlpffainhdnaiaaGreatDoorAbOp4
/- Maps from strings to numbers. -/
namespace Go.Ab
open Go
noncomputable section

section
variable {P : Program} {G : Nat → AV} {ρ ρ' : Ren} {S : St} {w w' : World} {m : Mc}

inductive MapRel : List MapEntry → List (List UInt8 × Int) → Prop
  | nil : MapRel [] []
  | cons {e : MapEntry} {es : List MapEntry} {k : List UInt8} {n : Int} {l : List (List UInt8 × Int)} (h1 : e.key = .string ⟨k.toArray⟩) (h2 : e.val = .int .i64 n) (h : MapRel es l) : MapRel (e :: es) ((k, n) :: l)

theorem MapRel.of : ∀ (es : List MapEntry) (l : List (List UInt8 × Int)), es.length = l.length → (∀ (j : Nat) e k, es[j]? = some e → l[j]? = some k → e.key = .string ⟨k.1.toArray⟩ ∧ e.val = .int .i64 k.2) → MapRel es l
  | [], [], _, _ => .nil
  | e :: es, k :: l, hl, h => by
    obtain ⟨h1, h2⟩ := h 0 e k rfl rfl
    exact .cons h1 h2 (MapRel.of es l (by simpa using hl) fun j e' k' he hk => h (j + 1) e' k' (by simpa using he) (by simpa using hk))
  | [], _ :: _, hl, _ => by simp at hl
  | _ :: _, [], hl, _ => by simp at hl

theorem MapRel.length {es : List MapEntry} {l : List (List UInt8 × Int)} (h : MapRel es l) : es.length = l.length := by
  induction h with
  | nil => rfl
  | cons _ _ _ ih => simp [ih]

theorem MapRel.get {es : List MapEntry} {l : List (List UInt8 × Int)} (h : MapRel es l) : ∀ (j : Nat) e k, es[j]? = some e → l[j]? = some k → e.key = .string ⟨k.1.toArray⟩ ∧ e.val = .int .i64 k.2 := by
  induction h with
  | nil => intro j e k h; simp at h
  | cons h1 h2 _ ih =>
    intro j e k he hk
    cases j with
    | zero => simp at he hk; subst he hk; exact ⟨h1, h2⟩
    | succ j => exact ih j e k (by simpa using he) (by simpa using hk)

theorem beq_mk (a b : List UInt8) : ((ByteArray.mk a.toArray) == (ByteArray.mk b.toArray)) = (a == b) := by
  rw [beq_toListBytes, toList_mk, toList_mk]

theorem findNow_rel (s : List UInt8) {es : List MapEntry} {l : List (List UInt8 × Int)} (h : MapRel es l) : ∀ i, Instr.findNow .string (.string ⟨s.toArray⟩) es i =
    some (match l.lookup s with | none => none | some n => some (i + l.findIdx (fun x => x.1 == s), .int .i64 n)) := by
  induction h with
  | nil => intro i; rfl
  | cons h1 h2 _ ih =>
    rename_i e es k n l _
    intro i
    unfold Instr.findNow
    rw [h1]
    simp only [Instr.sameNow, beq_mk]
    by_cases hk : s = k
    · subst hk
      simp [h2, List.findIdx_cons]
    · have hk' : (s == k) = false := by simpa using hk
      have hk'' : (k == s) = false := by simpa using fun e => hk e.symm
      simp only [hk', List.lookup_cons, ih, List.findIdx_cons, hk'', cond_false]
      cases l.lookup s with
      | none => rfl
      | some n' => simp; omega

theorem mapTy_spec {t : TypeId} (h : mapTy P t = true) : ∃ k e, P.underlying t = some (.map k e) ∧ P.underlying k = some .string ∧ ∀ w, (zeroValue e).run P w = .ok (.int .i64 0) w := by
  unfold mapTy at h
  split at h
  · rename_i k e hu
    simp only [Bool.and_eq_true] at h
    obtain ⟨h1, h2⟩ := h
    split at h1
    · rename_i hk
      split at h2
      · rename_i n hz
        simp only [beq_iff_eq] at h2
        subst h2
        cases hi : P.info? e with
        | none => simp [hi] at hz
        | some i =>
          simp only [hi, Option.bind_some] at hz
          exact ⟨k, e, hu, hk, fun w => by simp [zeroValue, run_info hi, hz]⟩
      · cases h2
    · cases h1
  · cases h

theorem run_check {em : Bool} {kt : TypeId} (hks : P.underlying kt = some .string) (s : ByteArray) : (Instr.checkKey em 10000 kt (.string s)).run P w = .ok () w := by
  have h : ∀ d : Nat, (Instr.checkKey em (d + 1) kt (.string s)).run P w = .ok () w := fun d => by simp [Instr.checkKey, run_underlying hks]
  exact h 9999

theorem mapOf_spec (hs : Sim G ρ m.st w) {x : Value} {xa : AV} (hx : Rep ρ w x xa) {l : List (List UInt8 × Int)} (h : mapOf m xa = some l) :
    (x = .map none ∧ l = []) ∨ ∃ b ents clock, x = .map (some b) ∧ w.heap[b]? = some (.map ents clock) ∧ MapRel ents.toList l := by
  unfold mapOf at h
  split at h
  · injection h with h
    subst h
    exact .inl ⟨by cases hx; rfl, rfl⟩
  · rename_i d i
    split at h
    · rename_i l' hb
      injection h with h
      subst h
      obtain ⟨b, hmb, rfl⟩ := hx.map_inv
      obtain ⟨_, ents, clock, hh, hsz, hrel⟩ := hs.ok d i _ ((Mc.st_blk m d i).trans hb) b hmb
      exact .inr ⟨b, ents, clock, rfl, hh, MapRel.of _ _ (by simpa using hsz) (fun j e k he hk => hrel j e k (by simpa using he) hk)⟩
    · cases h
  · cases h

theorem lookup_sound (hs : Sim G ρ m.st w) {t : TypeId} {x k : Value} {xa ka v : AV} (hx : Rep ρ w x xa) (hk : Rep ρ w k ka) {ok : Bool} (h : aLookup P m t xa ka ok = some v) : ∃ y, (Instr.lookup t x k ok).run P w = .ok y w ∧ Rep ρ w y v := by
  unfold aLookup at h
  split at h
  · cases h
  rename_i hty
  obtain ⟨kt, e, hu, hks, hz⟩ := mapTy_spec (by simpa using hty)
  split at h
  case h_2 => cases h
  rename_i l s hl
  injection h with h
  subst h
  have e1 := hk.str_inv
  subst e1
  have htup : ∀ (n : Int) (b : Bool), Rep ρ w (.tuple #[.int .i64 n, .bool b]) (.tup [.int .i64 n, .bool b]) := by
    intro n b
    refine .tup _ _ rfl fun j v c hj hc => ?_
    match j, hj, hc with
    | 0, hj, hc => simp at hj hc; subst hj hc; exact .int _ _
    | 1, hj, hc => simp at hj hc; subst hj hc; exact .bool _
    | j + 2, hj, hc => simp at hj
  rcases mapOf_spec hs hx hl with ⟨rfl, rfl⟩ | ⟨b, es, clock, rfl, hh, hrel⟩
  · have hfind : (Instr.findKey kt (.string ⟨s.toArray⟩) (#[] : Array MapEntry).toList).run P w = .ok none w := by
      simp [Instr.findKey, run_underlying hks, Instr.findNow]
    unfold Instr.lookup
    simp only [Sem.run_bind, run_underlying hu, Result.andThen_ok, Sem.run_pure, run_check hks, hfind, hz]
    cases ok
    · exact ⟨_, rfl, .int _ _⟩
    · exact ⟨_, rfl, htup _ _⟩
  · have hfind : (Instr.findKey kt (.string ⟨s.toArray⟩) es.toList).run P w = .ok (match l.lookup s with | none => none | some n => some (0 + l.findIdx (fun x => x.1 == s), .int .i64 n)) w := by
      simp [Instr.findKey, run_underlying hks, findNow_rel s hrel]
    unfold Instr.lookup
    simp only [Sem.run_bind, run_underlying hu, Result.andThen_ok, MapKept.run_getObj_map hh, Sem.run_pure, run_check hks, hfind]
    cases hlk : l.lookup s with
    | none =>
      simp only [Option.getD_none, Option.isSome_none, Sem.run_bind, hz, Result.andThen_ok, Sem.run_pure]
      cases ok
      · exact ⟨_, rfl, .int _ _⟩
      · exact ⟨_, rfl, htup _ _⟩
    | some n =>
      simp only [Option.getD_some, Option.isSome_some]
      cases ok
      · exact ⟨_, rfl, .int _ _⟩
      · exact ⟨_, rfl, htup _ _⟩

theorem mapPut_some {l : List (List UInt8 × Int)} {s : List UInt8} {n v : Int} (h : l.lookup s = some n) : mapPut l s v = l.set (l.findIdx (fun x => x.1 == s)) (s, v) := by
  induction l with
  | nil => simp at h
  | cons x l ih =>
    obtain ⟨k, u⟩ := x
    unfold mapPut
    by_cases hk : s = k
    · subst hk
      simp [List.findIdx_cons]
    · have hk' : (s == k) = false := by simpa using hk
      have hk'' : (k == s) = false := by simpa using fun e => hk e.symm
      rw [if_neg hk]
      simp only [List.lookup_cons, hk'] at h
      rw [ih h, List.findIdx_cons]
      simp [hk'']

theorem mapPut_none {l : List (List UInt8 × Int)} {s : List UInt8} {v : Int} (h : l.lookup s = none) : mapPut l s v = l ++ [(s, v)] := by
  induction l with
  | nil => rfl
  | cons x l ih =>
    obtain ⟨k, u⟩ := x
    unfold mapPut
    by_cases hk : s = k
    · subst hk; simp at h
    · have hk' : (s == k) = false := by simpa using hk
      rw [if_neg hk]
      simp only [List.lookup_cons, hk'] at h
      rw [ih h]
      rfl

theorem lookup_idx {l : List (List UInt8 × Int)} {s : List UInt8} {n : Int} (h : l.lookup s = some n) : l[l.findIdx (fun x => x.1 == s)]? = some (s, n) := by
  induction l with
  | nil => simp at h
  | cons x l ih =>
    obtain ⟨k, u⟩ := x
    by_cases hk : s = k
    · subst hk
      simp at h
      simp [List.findIdx_cons, h]
    · have hk' : (s == k) = false := by simpa using hk
      have hk'' : (k == s) = false := by simpa using fun e => hk e.symm
      simp only [List.lookup_cons, hk'] at h
      simp [List.findIdx_cons, hk'', ih h]

theorem mapUpdate_sound (hs : Sim G ρ m.st w) {t : TypeId} {x k v : Value} {xa ka va : AV} (hx : Rep ρ w x xa) (hk : Rep ρ w k ka) (hv : Rep ρ w v va) {m' : Mc} (h : aMapUpdate P m t xa ka va = some m') :
    ∃ w', (Instr.mapUpdate t x k v).run P w = .ok () w' ∧ Sim G ρ m'.st w' ∧ Ext m.D ρ m.st w ρ m'.st w' ∧ m'.base.length = m.base.length := by
  unfold aMapUpdate at h
  split at h
  · cases h
  rename_i hty
  obtain ⟨kt, e, hu, hks, hz⟩ := mapTy_spec (by simpa using hty)
  split at h
  case h_2 => cases h
  rename_i d i s n
  split at h
  case h_2 => cases h
  rename_i l hb
  injection h with h
  subst h
  have e1 := hk.str_inv
  have e2 := hv.int_inv
  subst e1 e2
  obtain ⟨b, hmb, rfl⟩ := hx.map_inv
  have hS := (Mc.st_blk m d i).trans hb
  obtain ⟨hni, ents, clock, hh, hsz, hrel0⟩ := hs.ok d i _ hS b hmb
  have hrel := MapRel.of ents.toList l (by simpa using hsz) (fun j e k he hk => hrel0 j e k (by simpa using he) hk)
  have hfind : (Instr.findKey kt (.string ⟨s.toArray⟩) ents.toList).run P w = .ok (match l.lookup s with | none => none | some n => some (0 + l.findIdx (fun x => x.1 == s), .int .i64 n)) w := by
    simp [Instr.findKey, run_underlying hks, findNow_rel s hrel]
  have hchk : (Instr.checkKey false 10000 kt (.string ⟨s.toArray⟩)).run P w = .ok () w := run_check hks _
  have main : ∀ (ents' : Array MapEntry) (clock' : Nat), ents'.size = (mapPut l s n).length → (∀ (j : Nat) e k, ents'[j]? = some e → (mapPut l s n)[j]? = some k → e.key = .string ⟨k.1.toArray⟩ ∧ e.val = .int .i64 k.2) →
      Sim G ρ (m.upd d i (.map (mapPut l s n))).st (World.setB w b (.map ents' clock')) ∧ Ext m.D ρ m.st w ρ (m.upd d i (.map (mapPut l s n))).st (World.setB w b (.map ents' clock')) := by
    intro ents' clock' h1 h2
    have := sim_upd (D := m.D) hs hS (by simp) hmb (.map (mapPut l s n)) (.map ents' clock') (fun arr T fz hr => by rw [hh] at hr; injection hr with hr; cases hr) (Moved.id ρ) (fun _ _ _ _ => rfl) (fun _ _ _ => rfl) (fun w' _ hw' b' hb' => by
      simp only [hmb] at hb'
      injection hb' with hb'
      subst hb'
      exact ⟨hni, ents', clock', hw', h1, h2⟩)
    rw [← Mc.st_upd] at this
    exact this
  unfold Instr.mapUpdate
  simp only [Sem.run_bind, run_underlying hu, Result.andThen_ok, MapKept.run_getObj_map hh, hchk, hfind]
  cases hlk : l.lookup s with
  | none =>
    simp only [MapKept.run_setObj_map _ hh]
    refine ⟨_, rfl, ?_⟩
    obtain ⟨g1, g2⟩ := main (ents.push { key := .string ⟨s.toArray⟩, val := .int .i64 n, born := clock }) (clock + 1) (by rw [mapPut_none hlk]; simp [hsz]) (fun j e k he hk => by
      rw [mapPut_none hlk] at hk
      rw [Array.getElem?_push] at he
      split at he
      · rename_i hj
        injection he with he
        rw [hj, hsz] at hk
        simp at hk
        subst he hk
        exact ⟨rfl, rfl⟩
      · rename_i hj
        have hlt := (Array.getElem?_eq_some_iff.1 he).1
        rw [List.getElem?_append_left (by omega)] at hk
        exact hrel0 j e k he hk)
    exact ⟨g1, g2, Mc.upd_len ..⟩
  | some n0 =>
    have hix := lookup_idx hlk
    have hlt : l.findIdx (fun x => x.1 == s) < ents.size := by rw [hsz]; exact (List.getElem?_eq_some_iff.1 hix).1
    have hkey := (hrel0 _ _ _ (Array.getElem?_eq_getElem hlt) hix).1
    have hstay : (Instr.keyThatStays (.string ⟨s.toArray⟩) (.string ⟨s.toArray⟩)).run P w = .ok (.string ⟨s.toArray⟩) w := by
      have hsb : ∀ d : Nat, Instr.sameBits d (.string ⟨s.toArray⟩) (.string ⟨s.toArray⟩) = true := fun d => by
        cases d <;> simp [Instr.sameBits, beq_mk]
      have := hsb 10000
      simp [Instr.keyThatStays, this]
    simp only [Nat.zero_add, Array.getElem?_eq_getElem hlt, Option.map_some, Option.getD_some, hkey, Sem.run_bind, hstay, Result.andThen_ok, MapKept.run_setObj_map _ hh]
    refine ⟨_, rfl, ?_⟩
    obtain ⟨g1, g2⟩ := main (ents.modify (l.findIdx (fun x => x.1 == s)) fun e => { e with key := .string ⟨s.toArray⟩, val := .int .i64 n }) clock (by rw [mapPut_some hlk]; simp [hsz]) (fun j e k he hk => by
      rw [mapPut_some hlk] at hk
      rw [Array.getElem?_modify] at he
      rw [List.getElem?_set] at hk
      split at he
      · rename_i hj
        rw [if_pos hj] at hk
        rw [if_pos (by rw [← hsz]; exact hlt)] at hk
        injection hk with hk
        subst hk
        rw [← hj, Array.getElem?_eq_getElem hlt] at he
        simp at he
        subst he
        exact ⟨rfl, rfl⟩
      · rename_i hj
        rw [if_neg hj] at hk
        exact hrel0 j e k he hk)
    exact ⟨g1, g2, Mc.upd_len ..⟩

end
end
end Go.Ab
