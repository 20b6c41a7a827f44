import Derived.WalkKit
/- The abstract values of our own machine, and what it means that a real value reads as one. -/
namespace Go.Ab
open Go

inductive Own where
  | unk | frs | full
  deriving DecidableEq

/-- Who may write behind the end of a slice: the holder of it (a register, a cell). -/
inductive Cls where
  | reg (d r : Nat)
  | cel (d i j : Nat)
  deriving DecidableEq

inductive Tag where
  | no
  | cls (k : Cls)
  | cap (k : Cls) (s : Nat)
  deriving DecidableEq

def Tag.of : Tag → Option Cls
  | .no => none
  | .cls k => some k
  | .cap k _ => some k

/-- A tag without a class. -/
def Tag.drop (k : Cls) (t : Tag) : Tag := if t.of = some k then .no else t

inductive AV where
  | any
  | bool (b : Bool)
  | int (k : IntKind) (n : Int)
  | str (s : List UInt8)
  | np
  | mp (d i off : Nat)
  | ip (cs : List AV) (o : Own)
  | sl (es : List (List AV)) (o : Own)
  | ms (d i off len s : Nat)
  | nmap
  | map (d i : Nat)
  | itr (d i : Nat)
  | fn (f : Fn) (first cap : List AV)
  | nfn
  | ifc (t : TypeId) (v : AV)
  | nif
  | agg (cs : List AV)
  | tup (vs : List AV)

mutual
/-- All references in a value satisfy p (immutable memory holds none). -/
def AV.rin (p : Nat → Nat → Bool) : AV → Bool
  | .mp d i _ => p d i
  | .ms d i _ _ _ => p d i
  | .map d i => p d i
  | .itr d i => p d i
  | .fn _ a b => AV.rinL p a && AV.rinL p b
  | .ifc _ v => AV.rin p v
  | .agg cs => AV.rinL p cs
  | .tup vs => AV.rinL p vs
  | _ => true
def AV.rinL (p : Nat → Nat → Bool) : List AV → Bool
  | [] => true
  | a :: l => AV.rin p a && AV.rinL p l
end

def AV.nref (a : AV) : Bool := AV.rin (fun _ _ => false) a

/-- The cells of a value. -/
def AV.cells : AV → List AV
  | .agg cs => cs
  | v => [v]

inductive Blk where
  | cells (cs : List AV) (ts : List (Nat × Tag))
  | map (l : List (List UInt8 × Int))
  | iter (b : List UInt8) (pos : Nat)
  | dead

abbrev St := List (List Blk)

structure Ren where
  im : Nat → Nat → Prop
  mb : Nat → Nat → Option Nat
  ow : Cls → Option (Nat × Nat × Nat)

/-- A block of cells none of which is frozen, nor marked. -/
def zf (w : World) (b : Nat) : Prop := ∃ arr T, w.heap[b]? = some (.cells arr T (0, 0))

inductive Rep (ρ : Ren) (w : World) : Value → AV → Prop
  | any (v : Value) : Rep ρ w v .any
  | bool (b : Bool) : Rep ρ w (.bool b) (.bool b)
  | int (k : IntKind) (n : Int) : Rep ρ w (.int k n) (.int k n)
  | str (s : List UInt8) : Rep ρ w (.string ⟨s.toArray⟩) (.str s)
  | np : Rep ρ w (.pointer none) .np
  | mp {d i b : Nat} (off : Nat) (h : ρ.mb d i = some b) : Rep ρ w (.pointer (some ⟨b, off, none⟩)) (.mp d i off)
  | ip (b o : Nat) (cs : List AV) (l : Own) (f : Nat → Value)
      (h : ∀ j c, cs[j]? = some c → ρ.im b (o + j) ∧ w.cell? ⟨b, o + j, none⟩ = some (f j) ∧ c.nref = true ∧ (f j).oneCell' = true ∧ (l ≠ .unk → zf w b))
      (r : ∀ j c, cs[j]? = some c → Rep ρ w (f j) c) : Rep ρ w (.pointer (some ⟨b, o, none⟩)) (.ip cs l)
  | sl (a : Option Addr) (cap s : Nat) (es : List (List AV)) (o : Own) (b off : Nat) (f : Nat → Nat → Value)
      (hc : es.length ≤ cap) (hfull : o = .full → cap = es.length) (hs : ∀ e ∈ es, e.length = s)
      (ha : es ≠ [] → a = some ⟨b, off, none⟩)
      (h : ∀ i e j c, es[i]? = some e → e[j]? = some c → ρ.im b (off + (i * s + j)) ∧ w.cell? ⟨b, off + (i * s + j), none⟩ = some (f i j) ∧ c.nref = true ∧ (f i j).oneCell' = true ∧ (o ≠ .unk → zf w b))
      (r : ∀ i e j c, es[i]? = some e → e[j]? = some c → Rep ρ w (f i j) c) : Rep ρ w (.slice a es.length cap) (.sl es o)
  | ms {d i b : Nat} (off len cap s : Nat) (h : ρ.mb d i = some b) (hc : len ≤ cap) (hr : ∃ arr T fz, w.heap[b]? = some (.cells arr T fz) ∧ off + cap * s ≤ arr.size) : Rep ρ w (.slice (some ⟨b, off, none⟩) len cap) (.ms d i off len s)
  | nmap : Rep ρ w (.map none) .nmap
  | map {d i b : Nat} (h : ρ.mb d i = some b) : Rep ρ w (.map (some b)) (.map d i)
  | itr {d i b : Nat} (h : ρ.mb d i = some b) : Rep ρ w (.pointer (some ⟨b, 0, none⟩)) (.itr d i)
  | fn (f : Fn) (A1 A2 : Array Value) (c1 c2 : List AV) (h1 : A1.size = c1.length) (h2 : A2.size = c2.length)
      (r1 : ∀ (j : Nat) v c, A1[j]? = some v → c1[j]? = some c → Rep ρ w v c) (r2 : ∀ (j : Nat) v c, A2[j]? = some v → c2[j]? = some c → Rep ρ w v c) : Rep ρ w (.func f A1 A2) (.fn f c1 c2)
  | nfn : Rep ρ w .nilFunc .nfn
  | ifc (t : TypeId) {v : Value} {a : AV} (r : Rep ρ w v a) : Rep ρ w (.iface t v) (.ifc t a)
  | nif : Rep ρ w .nilIface .nif
  | agg (A : Array Value) (cs : List AV) (hsz : A.size = cs.length) (h1 : ∀ (j : Nat) v, A[j]? = some v → v.oneCell' = true)
      (r : ∀ (j : Nat) v c, A[j]? = some v → cs[j]? = some c → Rep ρ w v c) : Rep ρ w (.agg A) (.agg cs)
  | tup (A : Array Value) (cs : List AV) (hsz : A.size = cs.length)
      (r : ∀ (j : Nat) v c, A[j]? = some v → cs[j]? = some c → Rep ρ w v c) : Rep ρ w (.tuple A) (.tup cs)

/-- No row gets shorter. -/
def RowsKept (w w' : World) : Prop := ∀ (b : Nat) (arr : Array Value) (T : TypeId) (fz : Nat × Nat), w.heap[b]? = some (.cells arr T fz) → ∃ (arr' : Array Value) (fz' : Nat × Nat), w'.heap[b]? = some (.cells arr' T fz') ∧ arr.size ≤ arr'.size

/-- What must hold between two states so that readings persist. -/
structure Pers (ρ : Ren) (w : World) (ρ' : Ren) (w' : World) : Prop where
  im : ∀ b j, ρ.im b j → ρ'.im b j
  cell : ∀ b j, ρ.im b j → w'.cell? ⟨b, j, none⟩ = w.cell? ⟨b, j, none⟩
  zf : ∀ b j, ρ.im b j → zf w b → zf w' b
  mb : ∀ d i b, ρ.mb d i = some b → ρ'.mb d i = some b
  sz : RowsKept w w'

theorem Pers.refl (ρ : Ren) (w : World) : Pers ρ w ρ w := ⟨fun _ _ h => h, fun _ _ _ => rfl, fun _ _ _ h => h, fun _ _ _ h => h, fun _ arr _ fz h => ⟨arr, fz, h, Nat.le_refl _⟩⟩

theorem Pers.trans {ρ ρ1 ρ2 : Ren} {w w1 w2 : World} (h : Pers ρ w ρ1 w1) (k : Pers ρ1 w1 ρ2 w2) : Pers ρ w ρ2 w2 :=
  ⟨fun b j x => k.im b j (h.im b j x), fun b j x => (k.cell b j (h.im b j x)).trans (h.cell b j x), fun b j x z => k.zf b j (h.im b j x) (h.zf b j x z), fun d i b x => k.mb d i b (h.mb d i b x), fun b arr T fz hb => by
     obtain ⟨a1, f1, h1, l1⟩ := h.sz b arr T fz hb
     obtain ⟨a2, f2, h2, l2⟩ := k.sz b a1 T f1 h1
     exact ⟨a2, f2, h2, Nat.le_trans l1 l2⟩⟩

theorem Rep.pers {ρ ρ' : Ren} {w w' : World} (hp : Pers ρ w ρ' w') {v : Value} {a : AV} (h : Rep ρ w v a) : Rep ρ' w' v a := by
  induction h with
  | any v => exact .any v
  | bool b => exact .bool b
  | int k n => exact .int k n
  | str s => exact .str s
  | np => exact .np
  | mp off h => exact .mp off (hp.mb _ _ _ h)
  | ip b o cs l f h _ ih =>
    exact .ip b o cs l f (fun j c hj => by
      obtain ⟨h1, h2, h3, h4, h5⟩ := h j c hj
      exact ⟨hp.im _ _ h1, (hp.cell _ _ h1).trans h2, h3, h4, fun hl => hp.zf _ _ h1 (h5 hl)⟩) ih
  | sl a cap s es o b off f hc hfull hs ha h _ ih =>
    exact .sl a cap s es o b off f hc hfull hs ha (fun i e j c hi hj => by
      obtain ⟨h1, h2, h3, h4, h5⟩ := h i e j c hi hj
      exact ⟨hp.im _ _ h1, (hp.cell _ _ h1).trans h2, h3, h4, fun hl => hp.zf _ _ h1 (h5 hl)⟩) ih
  | ms off len cap s h hc hr =>
    obtain ⟨arr, T, fz, h1, h2⟩ := hr
    obtain ⟨arr', fz', h3, h4⟩ := hp.sz _ _ _ _ h1
    exact .ms off len cap s (hp.mb _ _ _ h) hc ⟨arr', T, fz', h3, by omega⟩
  | nmap => exact .nmap
  | map h => exact .map (hp.mb _ _ _ h)
  | itr h => exact .itr (hp.mb _ _ _ h)
  | fn f A1 A2 c1 c2 h1 h2 _ _ ih1 ih2 => exact .fn f A1 A2 c1 c2 h1 h2 ih1 ih2
  | nfn => exact .nfn
  | ifc t _ ih => exact .ifc t ih
  | nif => exact .nif
  | agg A cs hsz h1 _ ih => exact .agg A cs hsz h1 ih
  | tup A cs hsz _ ih => exact .tup A cs hsz ih

theorem AV.rinL_get {p : Nat → Nat → Bool} : ∀ {l : List AV} {j : Nat} {c : AV}, AV.rinL p l = true → l[j]? = some c → AV.rin p c = true
  | [], _, _, _, h => by simp at h
  | a :: l, 0, c, h, e => by
    simp only [AV.rinL, Bool.and_eq_true] at h
    simp at e
    exact e ▸ h.1
  | a :: l, j + 1, c, h, e => by
    simp only [AV.rinL, Bool.and_eq_true] at h
    simp at e
    exact AV.rinL_get h.2 e

theorem AV.rinL_of {p : Nat → Nat → Bool} : ∀ {l : List AV}, (∀ (j : Nat) c, l[j]? = some c → AV.rin p c = true) → AV.rinL p l = true
  | [], _ => rfl
  | a :: l, h => by
    simp only [AV.rinL, Bool.and_eq_true]
    exact ⟨h 0 a rfl, AV.rinL_of fun j c e => h (j + 1) c (by simpa using e)⟩

mutual
theorem AV.rin_mono {p q : Nat → Nat → Bool} (hpq : ∀ d i, p d i = true → q d i = true) : ∀ (a : AV), AV.rin p a = true → AV.rin q a = true
  | .mp d i _, h => hpq d i (by simpa [AV.rin] using h)
  | .ms d i _ _ _, h => hpq d i (by simpa [AV.rin] using h)
  | .map d i, h => hpq d i (by simpa [AV.rin] using h)
  | .itr d i, h => hpq d i (by simpa [AV.rin] using h)
  | .fn _ a b, h => by
    simp only [AV.rin, Bool.and_eq_true] at h ⊢
    exact ⟨AV.rinL_mono hpq a h.1, AV.rinL_mono hpq b h.2⟩
  | .ifc _ v, h => by simp only [AV.rin] at h ⊢; exact AV.rin_mono hpq v h
  | .agg cs, h => by simp only [AV.rin] at h ⊢; exact AV.rinL_mono hpq cs h
  | .tup cs, h => by simp only [AV.rin] at h ⊢; exact AV.rinL_mono hpq cs h
  | .any, _ | .bool _, _ | .int _ _, _ | .str _, _ | .np, _ | .ip _ _, _ | .sl _ _, _ | .nmap, _ | .nfn, _ | .nif, _ => by simp [AV.rin]
theorem AV.rinL_mono {p q : Nat → Nat → Bool} (hpq : ∀ d i, p d i = true → q d i = true) : ∀ (l : List AV), AV.rinL p l = true → AV.rinL q l = true
  | [], _ => rfl
  | a :: l, h => by
    simp only [AV.rinL, Bool.and_eq_true] at h ⊢
    exact ⟨AV.rin_mono hpq a h.1, AV.rinL_mono hpq l h.2⟩
end

theorem AV.rin_of_nref {p : Nat → Nat → Bool} {a : AV} (h : a.nref = true) : AV.rin p a = true := AV.rin_mono (by simp) a h

/-- A reading under another renaming that agrees on the references that occur (and the memory that is immutable). -/
theorem Rep.restr {ρ ρ' : Ren} {w w' : World} {p : Nat → Nat → Bool} (him : ∀ b j, ρ.im b j → ρ'.im b j) (hcell : ∀ b j, ρ.im b j → w'.cell? ⟨b, j, none⟩ = w.cell? ⟨b, j, none⟩) (hzf : ∀ b j, ρ.im b j → zf w b → zf w' b)
    (hmb : ∀ d i, p d i = true → ρ'.mb d i = ρ.mb d i) (hsz : RowsKept w w')
    {v : Value} {a : AV} (h : Rep ρ w v a) (hr : AV.rin p a = true) : Rep ρ' w' v a := by
  induction h with
  | any v => exact .any v
  | bool b => exact .bool b
  | int k n => exact .int k n
  | str s => exact .str s
  | np => exact .np
  | mp off h => exact .mp off ((hmb _ _ (by simpa [AV.rin] using hr)).trans h)
  | ip b o cs l f h _ ih =>
    exact .ip b o cs l f (fun j c hj => by
      obtain ⟨h1, h2, h3, h4, h5⟩ := h j c hj
      exact ⟨him _ _ h1, (hcell _ _ h1).trans h2, h3, h4, fun hl => hzf _ _ h1 (h5 hl)⟩) (fun j c hj => ih j c hj (AV.rin_of_nref (h j c hj).2.2.1))
  | sl a cap s es o b off f hc hfull hs ha h _ ih =>
    exact .sl a cap s es o b off f hc hfull hs ha (fun i e j c hi hj => by
      obtain ⟨h1, h2, h3, h4, h5⟩ := h i e j c hi hj
      exact ⟨him _ _ h1, (hcell _ _ h1).trans h2, h3, h4, fun hl => hzf _ _ h1 (h5 hl)⟩) (fun i e j c hi hj => ih i e j c hi hj (AV.rin_of_nref (h i e j c hi hj).2.2.1))
  | ms off len cap s h hc hrow =>
    obtain ⟨arr, T, fz, h1, h2⟩ := hrow
    obtain ⟨arr', fz', h3, h4⟩ := hsz _ _ _ _ h1
    exact .ms off len cap s ((hmb _ _ (by simpa [AV.rin] using hr)).trans h) hc ⟨arr', T, fz', h3, by omega⟩
  | nmap => exact .nmap
  | map h => exact .map ((hmb _ _ (by simpa [AV.rin] using hr)).trans h)
  | itr h => exact .itr ((hmb _ _ (by simpa [AV.rin] using hr)).trans h)
  | fn f A1 A2 c1 c2 h1 h2 _ _ ih1 ih2 =>
    simp only [AV.rin, Bool.and_eq_true] at hr
    exact .fn f A1 A2 c1 c2 h1 h2 (fun j v c a b => ih1 j v c a b (AV.rinL_get hr.1 b)) (fun j v c a b => ih2 j v c a b (AV.rinL_get hr.2 b))
  | nfn => exact .nfn
  | ifc t _ ih => exact .ifc t (ih (by simpa [AV.rin] using hr))
  | nif => exact .nif
  | agg A cs hsz h1 _ ih =>
    simp only [AV.rin] at hr
    exact .agg A cs hsz h1 (fun j v c a b => ih j v c a b (AV.rinL_get hr b))
  | tup A cs hsz _ ih =>
    simp only [AV.rin] at hr
    exact .tup A cs hsz (fun j v c a b => ih j v c a b (AV.rinL_get hr b))

/-- What a tag says of a slice: it may be appended to in place. -/
def TagOk (ρ : Ren) (v : Value) (a : AV) : Tag → Prop
  | .no => True
  | .cls k => ∀ es o, a = .sl es o → ∀ ad l c, v = .slice ad l c → c = l ∨ (es ≠ [] ∧ ∃ b off s, ad = some ⟨b, off, none⟩ ∧ (∀ e ∈ es, e.length = s) ∧ ρ.ow k = some (b, off + l * s, off + c * s))
  | .cap k s => ∀ es o, a = .sl es o → ∀ ad l c, v = .slice ad l c → c = l ∨ (∃ b off, ad = some ⟨b, off, none⟩ ∧ (∀ e ∈ es, e.length = s) ∧ ρ.ow k = some (b, off + l * s, off + c * s))

theorem TagOk.pers {ρ ρ' : Ren} {v : Value} {a : AV} {t : Tag} (h : TagOk ρ v a t) (hw : ∀ k, t.of = some k → ρ'.ow k = ρ.ow k) : TagOk ρ' v a t := by
  cases t with
  | no => trivial
  | cls k =>
    intro es o ha ad l c hv
    rcases h es o ha ad l c hv with h | ⟨h1, b, off, s, h2, h3, h4⟩
    · exact .inl h
    · exact .inr ⟨h1, b, off, s, h2, h3, (hw k rfl).trans h4⟩
  | cap k s =>
    intro es o ha ad l c hv
    rcases h es o ha ad l c hv with h | ⟨b, off, h2, h3, h4⟩
    · exact .inl h
    · exact .inr ⟨b, off, h2, h3, (hw k rfl).trans h4⟩

theorem TagOk.dropped {ρ : Ren} {v : Value} {a : AV} {t : Tag} (k : Cls) (h : TagOk ρ v a t) : TagOk ρ v a (t.drop k) := by
  unfold Tag.drop
  split
  · trivial
  · exact h

theorem Tag.drop_of {k k' : Cls} {t : Tag} (h : (t.drop k).of = some k') : k' ≠ k ∧ t.of = some k' := by
  unfold Tag.drop at h
  split at h
  · cases h
  · rename_i hne
    exact ⟨fun e => hne (e ▸ h), h⟩

end Go.Ab
