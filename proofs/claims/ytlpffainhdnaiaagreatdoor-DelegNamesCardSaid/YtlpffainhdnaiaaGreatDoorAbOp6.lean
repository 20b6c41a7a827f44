import Derived.Test.YtlpffainhdnaiaaGreatDoorAbOp5
import Derived.Laws.Append
/- append: what runs. -/
namespace Go.Ab
open Go
noncomputable section

section
variable {P : Program} {G : Nat → AV} {ρ ρ' : Ren} {S : St} {w w' : World} {m : Mc}

/-- What is appended: so many elements, these cells. -/
structure Added (P : Program) (w : World) (size : Nat) (x : Value) (n : Nat) (news : Array Value) : Prop where
  len : ∀ w' : World, w'.heap = w.heap → (Builtin.lenOf x).run P w' = .ok n w'
  cells : ∀ w' : World, w'.heap = w.heap → (Builtin.firstCells size n x).run P w' = .ok news w'
  size : news.size = n * size

theorem app_fits {T U e : TypeId} {ud : TypeDesc} {L : Lay} (ht : P.underlying T = some (.slice e)) (hu : P.underlying U = some ud) (hud : (∃ e', ud = .slice e') ∨ ud = .string) (hL : layOf P e = some L) {x : Value} {n : Nat} {news : Array Value} (hx : Added P w L.size x n news)
    {b off sLen sCap : Nat} (hfit : sLen + n ≤ sCap) {arr : Array Value} {T' : TypeId} (hh : w.heap[b]? = some (.cells arr T' (0, 0))) (hle : off + sLen * L.size + news.size ≤ arr.size) (h1 : ∀ v ∈ news.toList, v.oneCell' = true) (ty : TypeId) :
    (Builtin.append_ #[T, U] ty #[.slice (some ⟨b, off, none⟩) sLen sCap, x]).run P w = .ok (.slice (some ⟨b, off, none⟩) (sLen + n) sCap) (World.setB w b (.cells (laid arr (off + sLen * L.size) news.toList) T' (0, 0))) := by
  have hs := run_storeCells (P := P) (off + sLen * L.size) news.toList w arr 0 hh (by simpa using hle) h1
  rw [Nat.add_zero] at hs
  rcases hud with ⟨e', rfl⟩ | rfl
  · simp [Builtin.append_, run_underlying ht, run_underlying hu, lay_size hL, hx.len w rfl, hx.cells w rfl, hfit, add_mk, hs]
  · simp [Builtin.append_, run_underlying ht, run_underlying hu, lay_size hL, hx.len w rfl, hx.cells w rfl, hfit, add_mk, hs]

theorem app_grows {T U e : TypeId} {ud : TypeDesc} {L : Lay} (ht : P.underlying T = some (.slice e)) (hu : P.underlying U = some ud) (hud : (∃ e', ud = .slice e') ∨ ud = .string) (hL : layOf P e = some L) {x : Value} {n : Nat} {news : Array Value} (hx : Added P w L.size x n news)
    {base : Option Addr} {sLen sCap : Nat} {olds : Array Value} (ho : ∀ w' : World, w'.heap = w.heap → (Builtin.firstCells L.size sLen (.slice base sLen sCap)).run P w' = .ok olds w') (hfit : sCap < sLen + n)
    (hb0 : 0 < L.bytes) (hb : (sLen + n) * L.bytes ≤ 140737488355328) (ty : TypeId) :
    ∃ zc : Array Value, zc.size = (grownCap w (sLen + n) sCap e - (sLen + n)) * L.size ∧ (∀ v ∈ zc.toList, v.oneCell' = true) ∧ sLen + n ≤ grownCap w (sLen + n) sCap e ∧
    (Builtin.append_ #[T, U] ty #[.slice base sLen sCap, x]).run P w = .ok (.slice (some ⟨w.heap.size, 0, none⟩) (sLen + n) (grownCap w (sLen + n) sCap e)) (w.drew.alloc (.cells (olds ++ news ++ zc) e)) := by
  obtain ⟨z, z1, z2, z3, z4⟩ := lay_zero (w := w) hL
  obtain ⟨d, i, z', g1, g2, g3, g4, g5, g6, g7⟩ := layOf_inv hL
  have hbi : i.bytes = L.bytes := by rw [g7]
  have hsi : i.size = L.size := by rw [g7]
  refine ⟨Builtin.zeroCells z'.cells (grownCap w (sLen + n) sCap e - (sLen + n)), by simp [Builtin.zeroCells, g5, hsi], ?_, by simp [grownCap, Question.cut], ?_⟩
  · intro v hv
    simp only [Builtin.zeroCells, Array.toList_map, List.mem_map, Array.mem_toList_iff, Array.mem_range] at hv
    obtain ⟨q, hq, rfl⟩ := hv
    have hpos : 0 < z'.cells.size := by
      rcases Nat.eq_zero_or_pos z'.cells.size with h0 | h0
      · rw [h0] at hq; simp at hq
      · exact h0
    have hlt := Nat.mod_lt q hpos
    rw [getElem!_pos z'.cells _ hlt]
    simp only [List.all_eq_true] at g4
    exact g4 _ (by rw [Array.mem_toList_iff]; exact Array.getElem_mem hlt)
  · have hn : ¬ (sLen + n ≤ sCap) := by omega
    have hle2 : sLen + n ≤ (sLen + n) * L.bytes := Nat.le_mul_of_pos_right _ hb0
    have h63' : ¬ (9223372036854775807 < ((sLen : Int) + (n : Int))) := by omega
    have h48' : ¬ (281474976710656 < Builtin.nextslicecap (sLen + n) sCap * i.bytes) := by
      rw [hbi]
      have := growslice_fits hfit hb
      omega
    have hx2 := hx.cells w.drew rfl
    have ho2 := ho w.drew rfl
    rcases hud with ⟨e', rfl⟩ | rfl
    · simp [Builtin.append_, run_underlying ht, run_underlying hu, sizeOf, typeInfo, zeroValue, g2, g3, hsi, hx.len w rfl, hn, h63', h48', Question.forced, hx2, ho2, newRow, grownCap, Array.append_assoc]
    · simp [Builtin.append_, run_underlying ht, run_underlying hu, sizeOf, typeInfo, zeroValue, g2, g3, hsi, hx.len w rfl, hn, h63', h48', Question.forced, hx2, ho2, newRow, grownCap, Array.append_assoc]

end
end
end Go.Ab
