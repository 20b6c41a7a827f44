import Derived.Test.YtlpffainhdnaiaaGreatDoorAbDraw
import Derived.Below
/- Calls that leave all as it was, told by a frame of the kit's. -/
namespace Go.Ab
open Go Go.RowKit
noncomputable section
section
variable {G : Nat → AV} {ρ : Ren} {S : St} {w w' : World}

theorem Sim.below (h : Sim G ρ S w) (hb : Below w.heap.size w w') (D : Nat) : Sim G ρ S w' ∧ Ext D ρ S w ρ S w' := by
  have cell : ∀ b j, ρ.im b j → w'.cell? ⟨b, j, none⟩ = w.cell? ⟨b, j, none⟩ := fun b j hi => World.cell?_of_block (hb.block b (h.im_lt hi))
  have hp : Pers ρ w ρ w' := ⟨fun _ _ x => x, cell, fun b j hi ⟨arr, T, hz⟩ => ⟨arr, T, (hb.block b (h.im_lt hi)).trans hz⟩, fun _ _ _ x => x, fun b arr T fz hz => ⟨arr, fz, (hb.block b (Array.getElem?_eq_some_iff.1 hz).1).trans hz, Nat.le_refl _⟩⟩
  refine ⟨⟨h.dm, fun d i k hk => (h.ok d i k hk).pers hp rfl (fun _ => rfl) fun b hnd hmb => ⟨hb.block b (h.own_size (own_of hmb hk hnd)), fun _ => Iff.rfl⟩, h.inj, ⟨fun k b e m ho => ?_, h.ow.inj⟩, fun b j hi => ?_, fun g => (h.glob g).pers hp⟩, ⟨hp, hb.os, hb.tape, hb.output, hb.size, rfl, fun _ _ _ => rfl, fun b hlt _ => ⟨hb.block b hlt, fun _ => Iff.rfl⟩, fun _ ho _ => ho, fun _ _ _ => rfl, fun _ => Nat.le_refl _⟩⟩
  · obtain ⟨h1, ⟨arr, T, h2, h3⟩, h4, h5⟩ := h.ow.row k b e m ho
    exact ⟨h1, ⟨arr, T, (hb.block b (h.ow_size ho)).trans h2, h3⟩, h4, h5⟩
  · obtain ⟨h1, h2⟩ := h.im b j hi
    refine ⟨by rw [cell b j hi]; exact h1, ?_⟩
    have := hb.block b (h.im_lt hi)
    simpa [World.frozen?, this] using h2

/-- A call told by a frame of the kit's, as a call of our machine. -/
theorem callOk_below {c : Cfg} {g : FuncId} {as : List AV} {r : AV} (hent : ∀ vs w, (callFunc g vs).run c.P w = .ok (.enter g vs) w)
    (h : ∀ ρ w (vs : Array Value), vs.size = as.length → (∀ (j : Nat) v a, vs[j]? = some v → as[j]? = some a → Rep ρ w v a) →
      Calls c.P g vs w fun e w' => ∃ y, e = .returned y ∧ (∀ w2, Rep ρ w2 y r) ∧ Below w.heap.size w w') (S : St) (D : Nat) : CallOk c (Ext D) g as S r S := by
  intro ρ w vs hsz hvs hs
  refine .inl ⟨hent vs w, (h ρ w vs hsz hvs).mono ?_⟩
  rintro e w' ⟨y, rfl, hy, hb⟩
  obtain ⟨h1, h2⟩ := hs.below hb D
  exact ⟨y, ρ, rfl, hy w', h1, h2⟩

/-- A native function that leaves all as it was. -/
theorem callOk_native {c : Cfg} {g : FuncId} {as : List AV} {r : AV}
    (h : ∀ ρ w (vs : Array Value), vs.size = as.length → (∀ (j : Nat) v a, vs[j]? = some v → as[j]? = some a → Rep ρ w v a) →
      ∃ y, (callFunc g vs).run c.P w = .ok (.value y) w ∧ Rep ρ w y r) (S : St) (D : Nat) : CallOk c (Ext D) g as S r S := by
  intro ρ w vs hsz hvs hs
  obtain ⟨y, h1, h2⟩ := h ρ w vs hsz hvs
  exact .inr ⟨y, w, ρ, h1, h2, hs, Ext.refl _ _ _ _⟩
end
end
end Go.Ab
