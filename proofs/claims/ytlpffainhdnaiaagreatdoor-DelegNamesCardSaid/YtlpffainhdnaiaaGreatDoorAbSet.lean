import Derived.Test.YtlpffainhdnaiaaGreatDoorAbPush
/- A block of our own machine's is written. -/
namespace Go.Ab
open Go

def tsDel (ts : List (Nat × Tag)) (p : Nat → Bool) : List (Nat × Tag) := ts.filter fun x => !p x.1
def tsIns (j : Nat) (t : Tag) : List (Nat × Tag) → List (Nat × Tag)
  | [] => [(j, t)]
  | (j', t') :: l => if j = j' then (j, t) :: l else if j < j' then (j, t) :: (j', t') :: l else (j', t') :: tsIns j t l
def tsSet (ts : List (Nat × Tag)) (j : Nat) (t : Tag) : List (Nat × Tag) := if t = .no then tsDel ts (· == j) else tsIns j t ts

theorem tagAt_del (ts : List (Nat × Tag)) (p : Nat → Bool) (j : Nat) : tagAt (tsDel ts p) j = if p j then .no else tagAt ts j := by
  unfold tagAt tsDel
  induction ts with
  | nil => simp
  | cons x l ih =>
    obtain ⟨a, t⟩ := x
    simp only [List.filter_cons, List.lookup_cons]
    by_cases hj : j = a
    · subst hj
      cases hp : p j with
      | true => simp only [hp, Bool.not_true, Bool.false_eq_true, if_false, if_true] at ih ⊢; exact ih
      | false => simp
    · have hj' : (j == a) = false := by simpa using hj
      cases hp : p a with
      | true => simp only [Bool.not_true, Bool.false_eq_true, if_false, hj']; exact ih
      | false => simp only [Bool.not_false, if_true, List.lookup_cons, hj']; exact ih

theorem tagAt_ins (j : Nat) (t : Tag) : ∀ (ts : List (Nat × Tag)) (j' : Nat), tagAt (tsIns j t ts) j' = if j' = j then t else tagAt ts j' := by
  intro ts
  induction ts with
  | nil =>
    intro j'
    by_cases h : j' = j
    · simp [tsIns, tagAt, h]
    · have h' : (j' == j) = false := by simpa using h
      simp [tsIns, tagAt, List.lookup_cons, h, h']
  | cons x l ih =>
    obtain ⟨a, u⟩ := x
    intro j'
    unfold tsIns
    split
    · rename_i ha
      subst ha
      by_cases h : j' = j
      · simp [tagAt, h]
      · have h' : (j' == j) = false := by simpa using h
        simp [tagAt, List.lookup_cons, h, h']
    · rename_i ha
      split
      · by_cases h : j' = j
        · simp [tagAt, h]
        · have h' : (j' == j) = false := by simpa using h
          simp [tagAt, List.lookup_cons, h, h']
      · have ih' := ih j'
        by_cases h2 : j' = a
        · subst h2
          rw [if_neg (fun e => ha e.symm)]
          simp [tagAt]
        · unfold tagAt at ih' ⊢
          simp only [List.lookup_cons, show (j' == a) = false from by simpa using h2]
          exact ih'

theorem tagAt_set (ts : List (Nat × Tag)) (j : Nat) (t : Tag) (j' : Nat) : tagAt (tsSet ts j t) j' = if j' = j then t else tagAt ts j' := by
  unfold tsSet
  split
  · rename_i h
    subst h
    rw [tagAt_del]
    simp
  · exact tagAt_ins j t ts j'

/-- The classes handed on: what c has, g c had. -/
structure Moved (ρ : Ren) (f : Cls → Option (Nat × Nat × Nat)) : Prop where
  ex : ∃ g : Cls → Cls, (∀ c x, f c = some x → ρ.ow (g c) = some x) ∧ ∀ c c', f c ≠ none → f c' ≠ none → g c = g c' → c = c'

theorem Moved.id (ρ : Ren) : Moved ρ ρ.ow := ⟨fun c => c, fun _ _ h => h, fun _ _ _ _ h => h⟩

/-- From class k to class k'. -/
def mvOw (ρ : Ren) (k k' : Cls) : Cls → Option (Nat × Nat × Nat) := fun c => if c = k' then ρ.ow k else if c = k then none else ρ.ow c

theorem Moved.mv (ρ : Ren) (k k' : Cls) : Moved ρ (mvOw ρ k k') := by
  refine ⟨fun c => if c = k' then k else c, fun c x h => ?_, fun c c' h h' e => ?_⟩
  · unfold mvOw at h
    split at h
    · rename_i e; simp [e, h]
    · split at h
      · cases h
      · rename_i e _; simp [e, h]
  · unfold mvOw at h h'
    by_cases e1 : c = k' <;> by_cases e2 : c' = k'
    · exact e1.trans e2.symm
    · simp only [e1, e2, if_true, if_false] at e h'
      by_cases e3 : c' = k
      · simp [e3] at h'
      · exact absurd e.symm e3
    · simp only [e1, e2, if_true, if_false] at e h
      by_cases e3 : c = k
      · simp [e3] at h
      · exact absurd e e3
    · simpa [e1, e2] using e

theorem OwOk.moved {ρ : Ren} {S S' : St} {w w' : World} {f : Cls → Option (Nat × Nat × Nat)} (h : OwOk ρ S w) (hm : Moved ρ f)
    (hr : ∀ k b e m arr T, ρ.ow k = some (b, e, m) → w.heap[b]? = some (.cells arr T (0, 0)) → ∃ arr' T', w'.heap[b]? = some (.cells arr' T' (0, 0)) ∧ arr.size ≤ arr'.size)
    (ho : ∀ d i b, own { ρ with ow := f } S' d i = some b → ∃ d' i', own ρ S d' i' = some b) : OwOk { ρ with ow := f } S' w' := by
  obtain ⟨g, hg1, hg2⟩ := hm.ex
  refine ⟨fun k b e m hk => ?_, fun k k' b e m e' m' h1 h2 => hg2 k k' (by simp only at h1; rw [h1]; simp) (by simp only at h2; rw [h2]; simp) (h.inj _ _ b e m e' m' (hg1 _ _ h1) (hg1 _ _ h2))⟩
  obtain ⟨h1, ⟨arr, T, h2, h3⟩, h4, h5⟩ := h.row _ b e m (hg1 _ _ hk)
  obtain ⟨arr', T', h6, h7⟩ := hr _ b e m arr T (hg1 _ _ hk) h2
  refine ⟨h1, ⟨arr', T', h6, Nat.le_trans h3 h7⟩, h4, fun d i hd => ?_⟩
  obtain ⟨d', i', h8⟩ := ho d i b hd
  exact h5 d' i' h8

theorem sim_upd {G : Nat → AV} {ρ : Ren} {S : St} {w : World} {d i b D : Nat} {k : Blk} (h : Sim G ρ S w) (hS : S.blk d i = some k) (hkd : k ≠ .dead) (hb : ρ.mb d i = some b)
    (k' : Blk) (o' : Obj) (hrow : ∀ arr T fz, w.heap[b]? = some (.cells arr T fz) → ∃ (arr' : Array Value) (fz' : Nat × Nat), o' = .cells arr' T fz' ∧ arr.size ≤ arr'.size) {f : Cls → Option (Nat × Nat × Nat)} (hf : Moved ρ f) (hcel : ∀ d' i' j, ¬ (d' = d ∧ i' = i) → f (.cel d' i' j) = ρ.ow (.cel d' i' j)) (hreg : ∀ d' r, d' < D → f (.reg d' r) = ρ.ow (.reg d' r))
    (hk' : ∀ w', Pers ρ w { ρ with ow := f } w' → w'.heap[b]? = some o' → BlkOk { ρ with ow := f } w' d i k') :
    Sim G { ρ with ow := f } (S.upd d i k') (World.setB w b o') ∧ Ext D ρ S w { ρ with ow := f } (S.upd d i k') (World.setB w b o') := by
  have ho0 : own ρ S d i = some b := own_of hb hS hkd
  obtain ⟨⟨ob, hob⟩, hni⟩ := h.own_lt ho0
  have hoth : ∀ c, c ≠ b → (World.setB w b o').heap[c]? = w.heap[c]? := fun c hc => setB_other (fun e => hc e.symm)
  have hp : Pers ρ w { ρ with ow := f } (World.setB w b o') := by
    refine ⟨fun _ _ h => h, fun c j hi => ?_, fun c j hi ⟨arr, T, hz⟩ => ?_, fun _ _ _ h => h, fun c arr T fz hc => ?_⟩
    · exact cell_of_heap (hoth c (fun e => hni j (e ▸ hi)))
    · exact ⟨arr, T, (hoth c (fun e => hni j (e ▸ hi))).trans hz⟩
    · by_cases hcb : c = b
      · subst hcb
        obtain ⟨arr', fz', e1, e2⟩ := hrow arr T fz hc
        exact ⟨arr', fz', by rw [setB_same hob, e1], e2⟩
      · exact ⟨arr, fz, (hoth c hcb).trans hc, Nat.le_refl _⟩
  have hownb : ∀ d' i' c, own { ρ with ow := f } (S.upd d i k') d' i' = some c → ∃ d'' i'', own ρ S d'' i'' = some c := by
    intro d' i' c ho
    by_cases hne : d' = d ∧ i' = i
    · obtain ⟨rfl, rfl⟩ := hne
      have e1 := (own_blk ho).1
      simp only [hb] at e1
      injection e1 with e1
      subst e1
      exact ⟨d', i', ho0⟩
    · refine ⟨d', i', ?_⟩
      rw [← ho]
      unfold own
      rw [St.blk_upd_other hne]
  refine ⟨h.update hp d i (fun d' i' hne => St.blk_upd_other hne) (fun _ _ _ => rfl) (fun d' i' j hne => hcel d' i' j hne) (fun c d' i' hne ho => ?_) (fun k'' hk'' => ?_) (fun c _ => ?_) (fun c d' i' hne ho he => ?_) ?_ (fun c j hi => ?_), hp, rfl, rfl, rfl, by simp, St.length_upd .., hreg, fun c hc hn => ?_, fun c ho hc => ?_, fun _ _ _ => rfl, fun d' => Nat.le_of_eq (St.len_upd S d i k' d').symm⟩
  · refine ⟨hoth c fun e => ?_, fun _ => Iff.rfl⟩
    subst e
    exact hne (h.inj _ _ _ _ _ ho ho0)
  · rw [St.blk_upd_same hS] at hk''
    injection hk'' with hk''
    subst hk''
    exact hk' _ hp (setB_same hob)
  · simp [St.blk_upd_same hS]
  · have e1 := (own_blk he).1
    simp only [hb] at e1
    injection e1 with e1
    subst e1
    exact hne (h.inj _ _ _ _ _ ho ho0)
  · refine h.ow.moved hf (fun k b' e m arr T hk hb' => ?_) hownb
    refine ⟨arr, T, ?_, Nat.le_refl _⟩
    rw [hoth b' fun e => (h.ow.row k b' _ _ hk).2.2.2 d i (e ▸ ho0)]
    exact hb'
  · have hc : c ≠ b := fun e => hni j (e ▸ hi)
    rw [cell_of_heap (hoth c hc), frozen_of_heap (hoth c hc)]
    exact h.im c j hi
  · exact ⟨hoth c fun e => hn (.inl ⟨d, i, e ▸ ho0⟩), fun _ => Iff.rfl⟩
  · rcases ho with ⟨d', i', ho⟩ | ⟨k, e, m, ho⟩
    · exact .inl (hownb d' i' c ho)
    · obtain ⟨g, hg1, _⟩ := hf.ex
      exact .inr ⟨_, e, m, hg1 _ _ ho⟩

/-- What the store of a cell's list leaves in a block. -/
theorem sim_store {G : Nat → AV} {ρ : Ren} {S : St} {w : World} {d i b D : Nat} {cs : List AV} {ts : List (Nat × Tag)} (h : Sim G ρ S w) (hS : S.blk d i = some (.cells cs ts)) (hb : ρ.mb d i = some b)
    (off : Nat) (vs : List Value) (us : List AV) (hl : vs.length = us.length) (hfit : off + us.length ≤ cs.length)
    (h1 : ∀ v ∈ vs, v.oneCell' = true) (hr : AV.rinL (hyg d) us = true) (hrep : ∀ (j : Nat) v u, vs[j]? = some v → us[j]? = some u → Rep ρ w v u)
    (cs' : List AV) (ts' : List (Nat × Tag)) (hcs : cs'.length = cs.length) (hget : ∀ j, cs'[j]? = if off ≤ j ∧ j < off + us.length then us[j - off]? else cs[j]?)
    {f : Cls → Option (Nat × Nat × Nat)} (hf : Moved ρ f) (hcel : ∀ d' i' j, ¬ (d' = d ∧ i' = i) → f (.cel d' i' j) = ρ.ow (.cel d' i' j)) (hreg : ∀ d' r, d' < D → f (.reg d' r) = ρ.ow (.reg d' r))
    (hout : ∀ j, ¬ (off ≤ j ∧ j < off + us.length) → tagAt ts' j = .no ∨ (tagAt ts' j = tagAt ts j ∧ f (.cel d i j) = ρ.ow (.cel d i j)))
    (hin : ∀ (j : Nat) v u, vs[j]? = some v → us[j]? = some u → (∀ k, (tagAt ts' (off + j)).of = some k → k = .cel d i (off + j)) ∧ TagOk { ρ with ow := f } v u (tagAt ts' (off + j))) :
    ∃ arr T, w.heap[b]? = some (.cells arr T (0, 0)) ∧ off + vs.length ≤ arr.size ∧
      Sim G { ρ with ow := f } (S.upd d i (.cells cs' ts')) (World.setB w b (.cells (laid arr off vs) T (0, 0))) ∧ Ext D ρ S w { ρ with ow := f } (S.upd d i (.cells cs' ts')) (World.setB w b (.cells (laid arr off vs) T (0, 0))) := by
  obtain ⟨hni, arr, T, hh, hsz, hc⟩ := h.ok d i _ hS b hb
  refine ⟨arr, T, hh, by omega, sim_upd h hS (by simp) hb _ _ (fun arr' T' fz' h' => by
    rw [hh] at h'
    injection h' with h'
    injection h' with e1 e2 e3
    subst e1 e2
    exact ⟨_, _, rfl, by rw [laid_size]; exact Nat.le_refl _⟩) hf hcel hreg fun w' hp hw' b' hb' => ?_⟩
  simp only [hb] at hb'
  injection hb' with hb'
  subst hb'
  refine ⟨hni, _, T, hw', by rw [laid_size]; omega, fun j c hj => ?_⟩
  rw [hget] at hj
  rw [laid_get vs arr off j (by omega)]
  by_cases hj' : off ≤ j ∧ j < off + us.length
  · rw [if_pos hj'] at hj
    rw [if_pos (by omega)]
    have hlt : j - off < vs.length := by omega
    have hi2 := hin (j - off) _ c (List.getElem?_eq_getElem hlt) hj
    rw [show off + (j - off) = j from by omega] at hi2
    exact ⟨AV.rinL_get hr hj, hi2.1, vs[j - off], List.getElem?_eq_getElem hlt, h1 _ (List.getElem_mem hlt), (hrep (j - off) _ c (List.getElem?_eq_getElem hlt) hj).pers hp, hi2.2⟩
  · rw [if_neg hj'] at hj
    rw [if_neg (by omega)]
    obtain ⟨a1, a0, v, a2, a3, a4, a5⟩ := hc j c hj
    rcases hout j hj' with ht | ⟨ht, hfo⟩
    · rw [ht]
      exact ⟨a1, by simp [Tag.of], v, a2, a3, a4.pers hp, trivial⟩
    · rw [ht]
      exact ⟨a1, a0, v, a2, a3, a4.pers hp, a5.pers fun k hk => by rw [a0 k hk]; exact hfo⟩

/-- One list laid into another. -/
def splice : List AV → Nat → List AV → List AV
  | l, _, [] => l
  | [], _, _ :: _ => []
  | a :: l, n + 1, cs => a :: splice l n cs
  | _ :: l, 0, c :: cs => c :: splice l 0 cs

theorem splice_length : ∀ (l : List AV) (n : Nat) (cs : List AV), (splice l n cs).length = l.length := by
  intro l
  induction l with
  | nil => intro n cs; cases cs <;> simp [splice]
  | cons a l ih =>
    intro n cs
    cases cs with
    | nil => simp [splice]
    | cons c cs => cases n <;> simp [splice, ih]

theorem splice_get : ∀ (l : List AV) (n : Nat) (cs : List AV) (j : Nat), n + cs.length ≤ l.length → (splice l n cs)[j]? = if n ≤ j ∧ j < n + cs.length then cs[j - n]? else l[j]? := by
  intro l
  induction l with
  | nil => intro n cs j h; cases cs <;> simp_all [splice]
  | cons a l ih =>
    intro n cs j h
    cases cs with
    | nil => rw [if_neg (by simp only [List.length_nil]; omega)]; simp [splice]
    | cons c cs =>
      simp only [List.length_cons] at h ⊢
      cases n with
      | zero =>
        cases j with
        | zero => rw [if_pos ⟨Nat.le_refl 0, by omega⟩]; simp [splice]
        | succ j =>
          simp only [splice, List.getElem?_cons_succ]
          rw [ih 0 cs j (by omega)]
          by_cases hj : j < cs.length
          · rw [if_pos ⟨Nat.zero_le _, by omega⟩, if_pos ⟨Nat.zero_le _, by omega⟩]; simp
          · rw [if_neg (by omega), if_neg (by omega)]
      | succ n =>
        cases j with
        | zero => rw [if_neg (by omega)]; simp [splice]
        | succ j =>
          simp only [splice, List.getElem?_cons_succ]
          rw [ih n (c :: cs) j (by simp only [List.length_cons]; omega)]
          simp only [List.length_cons]
          by_cases hj : n ≤ j ∧ j < n + (cs.length + 1)
          · rw [if_pos hj, if_pos (by omega), show j + 1 - (n + 1) = j - n from by omega]
          · rw [if_neg hj, if_neg (by omega)]

end Go.Ab
