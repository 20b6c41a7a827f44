import Derived.Test.YtlpffainhdnaiaaGreatDoorAbBelow
import Derived.ProofKit
import Derived.OpenShut
import Derived.LaidMore
/- From a statement's start world to the machine's. -/
namespace Go.Ab
open Go Go.RowKit
noncomputable section

/-- At a call's start all that lies there is as if immutable. -/
def startRen (W : World) : Ren := ⟨fun b j => (W.cell? ⟨b, j, none⟩).isSome = true ∧ W.frozen? ⟨b, j, none⟩ = false, fun _ _ => none, fun _ => none⟩

theorem blk_empty (d i : Nat) : St.blk [] d i = none := by simp [St.blk]

theorem start_sim {G : Nat → AV} (W : World) (hG : ∀ g, Rep (startRen W) W (.pointer (some ⟨g, 0, none⟩)) (G g)) : Sim G (startRen W) [] W where
  dm := fun d i b h => by cases h
  ok := fun d i k h => by rw [blk_empty] at h; cases h
  inj := fun d i d' i' b h => by unfold own at h; rw [blk_empty] at h; cases h
  ow := by
    refine ⟨?_, ?_⟩
    · intro k b e m h
      cases h
    · intro k k' b e m e' m' h
      cases h
  im := fun b j h => h
  glob := hG

theorem not_owned (W : World) (b : Nat) : ¬ Owned (startRen W) [] b := by
  rintro (⟨d, i, h⟩ | ⟨k, e, m, h⟩)
  · unfold own at h; rw [blk_empty] at h; cases h
  · cases h

/-- What the machine says of a call is so of the program's. -/
theorem calls_of {c : Cfg} {f : FuncId} {as : List AV} {W : World} {vs : Array Value} (hG : ∀ g, Rep (startRen W) W (.pointer (some ⟨g, 0, none⟩)) (c.G g))
    (h : CallOk c (Ext 0) f as [] (.bool true) []) (hsz : vs.size = as.length) (hvs : ∀ (j : Nat) v a, vs[j]? = some v → as[j]? = some a → Rep (startRen W) W v a)
    (hent : (callFunc f vs).run c.P W = .ok (.enter f vs) W) : Calls c.P f vs W fun e W' => e = .returned (.bool true) ∧ Below W.heap.size W W' := by
  rcases h (startRen W) W vs hsz hvs (start_sim W hG) with ⟨_, h2⟩ | ⟨y, w', ρ', h1, _⟩
  · refine h2.mono ?_
    rintro e w' ⟨y, ρ', rfl, hy, _, hx⟩
    have := hy.bool_inv
    subst this
    exact ⟨rfl, hx.os, hx.tape, hx.output, hx.size, fun k hk => (hx.keep k hk (not_owned W k)).1⟩
  · rw [hent] at h1
    cases h1

theorem rep_ints {W : World} {g : Nat} {k : IntKind} {zs : List Int} (h : ∀ (j : Nat) z, zs[j]? = some z → W.cell? ⟨g, j, none⟩ = some (.int k z) ∧ W.frozen? ⟨g, j, none⟩ = false) :
    Rep (startRen W) W (.pointer (some ⟨g, 0, none⟩)) (.ip (zs.map fun n => .int k n) .unk) := by
  refine .ip g 0 _ .unk (fun j => .int k (zs.getD j 0)) (fun j c hc => ?_) (fun j c hc => ?_)
  · rw [List.getElem?_map] at hc
    cases hz : zs[j]? with
    | none => rw [hz] at hc; cases hc
    | some z =>
      rw [hz] at hc
      injection hc with hc
      subst hc
      obtain ⟨h1, h2⟩ := h j z hz
      rw [Nat.zero_add]
      have hd : zs.getD j 0 = z := by rw [List.getD, hz]; rfl
      refine ⟨⟨by rw [h1]; rfl, h2⟩, by rw [h1, hd], rfl, rfl, fun h => absurd rfl h⟩
  · rw [List.getElem?_map] at hc
    cases hz : zs[j]? with
    | none => rw [hz] at hc; cases hc
    | some z =>
      rw [hz] at hc
      injection hc with hc
      subst hc
      have hd : zs.getD j 0 = z := by rw [List.getD, hz]; rfl
      rw [hd]
      exact .int _ _

theorem laid_mem {P : Program} {w : World} {n : String} {d : DataW Unit} : ∀ {l : List (String × DataW Unit)} {ps : List MemPlace}, DataW.LaidVars P w l ps → (n, d) ∈ l →
    ∃ g t cs fuel p, P.globalNamed n = some g ∧ (P.globals[g]?).map (·.type) = some t ∧ w.var? P n = some cs ∧ DataW.trod (fun _ => ()) P w 0 (fun _ => true) false fuel t cs.toList = some (d, p) ∧ ∀ x, x ∈ MemPlace.row ⟨g, 0, none⟩ cs.size → x ∈ ps
  | [], _, _, hm => by cases hm
  | (n', d') :: r, ps, h, hm => by
    obtain ⟨g, t, cs, fuel, p, q, h1, h2, h3, h4, h5, rfl⟩ := h
    cases hm with
    | head => exact ⟨g, t, cs, fuel, p, h1, h2, h3, h4, fun x hx => List.mem_append.2 (.inl (List.mem_append.2 (.inl hx)))⟩
    | tail _ hm =>
      obtain ⟨g', t', cs', fuel', p', k1, k2, k3, k4, k5⟩ := laid_mem h5 hm
      exact ⟨g', t', cs', fuel', p', k1, k2, k3, k4, fun x hx => List.mem_append.2 (.inr (k5 x hx))⟩

theorem laid_ints {P : Program} {W : World} {l : List (String × DataW Unit)} (h : laidMet P l W) {name : String} {k : IntKind} {zs : List Int} (hm : (name, DataW.agg (zs.map fun n => .lit (.int k n))) ∈ l) {g t e : Nat}
    (hg : P.globalNamed name = some g) (ht : (P.globals[g]?).map (·.type) = some t) (hu : P.underlying t = some (.array zs.length e)) (he : P.underlying e = some (.int k)) (hce : P.cellsOf e = 1) (hct : P.cellsOf t = zs.length) :
    ∀ (j : Nat) z, zs[j]? = some z → W.cell? ⟨g, j, none⟩ = some (.int k z) ∧ W.frozen? ⟨g, j, none⟩ = false := by
  intro j z hz
  obtain ⟨ps, hl, _, hcl⟩ := h
  obtain ⟨g', t', cs, fuel, p, h1, h2, h3, h4, h5⟩ := laid_mem hl hm
  obtain rfl := Option.some.inj (hg.symm.trans h1)
  obtain rfl := Option.some.inj (ht.symm.trans h2)
  obtain ⟨xs, m, _, ex, hcs, hxl, hel⟩ := DataW.trod_array hu h4
  have hj : j < zs.length := (List.getElem?_eq_some_iff.1 hz).1
  have hE := hel j hj
  rw [hce, Nat.mul_one, List.getElem?_eq_getElem (by omega)] at hE
  obtain ⟨y, e1, e2, _⟩ := DataW.trod_int he hE
  have e3 : (xs.map (·.1)) = zs.map fun n => .lit (.int k n) := (DataW.agg.inj (Prod.mk.inj ex).1).symm
  have e4 : (xs.map (·.1))[j]? = (zs.map fun n => (DataW.lit (.int k n) : DataW Unit))[j]? := by rw [e3]
  rw [List.getElem?_map, List.getElem?_map, List.getElem?_eq_getElem (by omega : j < xs.length), hz, e2] at e4
  have hy : y = z := by
    simp only [Option.map_some, Option.some.injEq, DataW.lit.injEq, Lit.int.injEq, true_and] at e4
    exact e4
  subst hy
  have hcell : cs.toList[j]? = some (.int k y) := by
    have h0 : ((cs.toList.drop j).take 1)[0]? = some (.int k y) := by rw [e1]; rfl
    simpa using h0
  refine ⟨by rw [World.var?_cell hg h3 j]; simpa using hcell, ?_⟩
  have hjc : j < cs.size := by
    have := (List.getElem?_eq_some_iff.1 hcell).1
    simpa using this
  obtain ⟨⟨c, t, hb⟩, _⟩ := hcl g j (h5 _ (by simp [MemPlace.row]; exact hjc))
  simp [World.frozen?, hb]
end
end Go.Ab
