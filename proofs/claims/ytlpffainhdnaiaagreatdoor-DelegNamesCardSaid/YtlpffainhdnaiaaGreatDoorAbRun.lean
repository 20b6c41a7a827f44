import Derived.Test.YtlpffainhdnaiaaGreatDoorAbSim
/- Runs of the model's own small memory operations, in the form that our machine wants. -/
namespace Go.Ab
open Go

theorem add_mk (b o n : Nat) : (⟨b, o, none⟩ : Addr).add n = ⟨b, o + n, none⟩ := by
  unfold Addr.add
  split
  · rename_i h; subst h; simp
  · rfl

def World.setB (w : World) (b : Nat) (o : Obj) : World := { w with heap := w.heap.setIfInBounds b o }

@[simp] theorem setB_size (w : World) (b : Nat) (o : Obj) : (World.setB w b o).heap.size = w.heap.size := by simp [World.setB]
@[simp] theorem setB_os (w : World) (b : Nat) (o : Obj) : (World.setB w b o).os = w.os := rfl
@[simp] theorem setB_tape (w : World) (b : Nat) (o : Obj) : (World.setB w b o).tape = w.tape := rfl
@[simp] theorem setB_output (w : World) (b : Nat) (o : Obj) : (World.setB w b o).output = w.output := rfl

theorem setB_same {w : World} {b : Nat} {o o' : Obj} (h : w.heap[b]? = some o') : (World.setB w b o).heap[b]? = some o := by
  have hb := (Array.getElem?_eq_some_iff.1 h).1
  simp [World.setB, hb]

theorem setB_other {w : World} {b c : Nat} {o : Obj} (h : b ≠ c) : (World.setB w b o).heap[c]? = w.heap[c]? := by
  simp [World.setB, h]

theorem setB_setB (w : World) (b : Nat) (o o' : Obj) : World.setB (World.setB w b o) b o' = World.setB w b o' := by
  simp [World.setB]

theorem setB_id {w : World} {b : Nat} {o : Obj} (h : w.heap[b]? = some o) : World.setB w b o = w := by
  obtain ⟨hb, he⟩ := Array.getElem?_eq_some_iff.1 h
  have : w.heap.setIfInBounds b o = w.heap := by
    apply Array.ext_getElem?
    intro i
    rw [Array.getElem?_setIfInBounds]
    split
    · rename_i hi
      subst hi
      simp [hb, he]
    · rfl
  simp [World.setB, this]

theorem setCell_eq {w : World} {b : Nat} {arr : Array Value} {T : TypeId} {fz : Nat × Nat} (h : w.heap[b]? = some (.cells arr T fz)) (j : Nat) (v : Value) :
    w.setCell ⟨b, j, none⟩ v = World.setB w b (.cells (arr.setIfInBounds j v) T fz) := by
  have hb := (Array.getElem?_eq_some_iff.1 h).1
  unfold World.setCell World.setB
  congr 1
  apply Array.ext_getElem?
  intro i
  rw [Array.getElem?_modify, Array.getElem?_setIfInBounds]
  by_cases hi : b = i
  · subst hi
    have he : w.heap[b] = .cells arr T fz := (Array.getElem?_eq_some_iff.1 h).2
    simp [hb, he]
  · simp [hi]

theorem cell_of_row {w : World} {b : Nat} {arr : Array Value} {T : TypeId} {fz : Nat × Nat} (h : w.heap[b]? = some (.cells arr T fz)) (j : Nat) :
    w.cell? ⟨b, j, none⟩ = arr[j]? := by simp [World.cell?, h]

theorem frozen_of_row {w : World} {b : Nat} {arr : Array Value} {T : TypeId} (h : w.heap[b]? = some (.cells arr T (0, 0))) (j : Nat) :
    w.frozen? ⟨b, j, none⟩ = false := by simp [World.frozen?, h]

theorem run_load_cell {P : Program} {w : World} {a : Addr} {v : Value} (h : w.cell? a = some v) : (load a).run P w = .ok v w := by
  simp [h]

theorem run_loadCellsFrom {P : Program} {w : World} {b o : Nat} (f : Nat → Value) (n : Nat) : ∀ (i : Nat) (acc : Array Value),
    (∀ j, j < n → w.cell? ⟨b, o + (i + j), none⟩ = some (f j)) →
    (loadCellsFrom ⟨b, o, none⟩ i n acc).run P w = .ok (acc ++ ((List.range n).map f).toArray) w := by
  induction n generalizing f with
  | zero => intro i acc _; simp [loadCellsFrom]
  | succ n ih =>
    intro i acc h
    have h0 := h 0 (by omega)
    have h1 := ih (fun j => f (j + 1)) (i + 1) (acc.push (f 0)) (fun j hj => by
      have := h (j + 1) (by omega)
      rw [show i + 1 + j = i + (j + 1) from by omega]
      exact this)
    simp only [loadCellsFrom, Sem.run_bind, add_mk]
    rw [run_load_cell (by simpa using h0)]
    simp only [Result.andThen_ok, h1]
    rw [List.range_succ_eq_map]
    simp [Function.comp_def]

theorem run_loadCells {P : Program} {w : World} {b o : Nat} (f : Nat → Value) (n : Nat) (h : ∀ j, j < n → w.cell? ⟨b, o + j, none⟩ = some (f j)) :
    (loadCells ⟨b, o, none⟩ n).run P w = .ok ((List.range n).map f).toArray w := by
  unfold loadCells
  rw [run_loadCellsFrom f n 0 #[] (fun j hj => by simpa using h j hj)]
  simp

/-- Cells laid into a row, one behind the other. -/
def laid (arr : Array Value) (o : Nat) : List Value → Array Value
  | [] => arr
  | v :: vs => laid (arr.setIfInBounds o v) (o + 1) vs

theorem laid_size (vs : List Value) : ∀ (arr : Array Value) (o : Nat), (laid arr o vs).size = arr.size := by
  induction vs with
  | nil => intro arr o; rfl
  | cons v vs ih => intro arr o; simp [laid, ih]

theorem laid_get (vs : List Value) : ∀ (arr : Array Value) (o j : Nat), o + vs.length ≤ arr.size →
    (laid arr o vs)[j]? = if o ≤ j ∧ j < o + vs.length then vs[j - o]? else arr[j]? := by
  induction vs with
  | nil => intro arr o j _; rw [if_neg (by simp only [List.length_nil]; omega)]; rfl
  | cons v vs ih =>
    intro arr o j h
    simp only [List.length_cons] at h
    rw [laid, ih _ _ _ (by simp; omega), Array.getElem?_setIfInBounds]
    by_cases h1 : o + 1 ≤ j ∧ j < o + 1 + vs.length
    · rw [if_pos h1, if_pos (by simp; omega)]
      obtain ⟨m, hm⟩ : ∃ m, j - o = m + 1 := ⟨j - o - 1, by omega⟩
      rw [hm, show j - (o + 1) = m from by omega]
      simp
    · rw [if_neg h1]
      by_cases h2 : o = j
      · subst h2
        have hc : o ≤ o ∧ o < o + (v :: vs).length := ⟨Nat.le_refl _, by simp only [List.length_cons]; omega⟩
        rw [if_pos rfl, if_pos hc]
        simp
        omega
      · rw [if_neg h2, if_neg (by simp only [List.length_cons]; omega)]

theorem run_storeCells {P : Program} {b : Nat} {T : TypeId} (o : Nat) (vs : List Value) : ∀ (w : World) (arr : Array Value) (i : Nat), w.heap[b]? = some (.cells arr T (0, 0)) →
    o + i + vs.length ≤ arr.size → (∀ v ∈ vs, v.oneCell' = true) →
    (storeCells ⟨b, o, none⟩ vs i).run P w = .ok () (World.setB w b (.cells (laid arr (o + i) vs) T (0, 0))) := by
  induction vs with
  | nil => intro w arr i h _ _; simp [storeCells, laid, setB_id h]
  | cons v vs ih =>
    intro w arr i h hl h1
    simp only [List.length_cons] at hl
    have hc : w.cell? ⟨b, o + i, none⟩ = some (arr[o + i]'(by omega)) := by rw [cell_of_row h]; simp
    have hf := frozen_of_row h (o + i)
    simp only [storeCells, Sem.run_bind, add_mk]
    rw [run_store P w _ v .plain (h1 v (by simp))]
    rw [hc, hf]
    simp only [Bool.false_eq_true, if_false, Result.andThen_ok]
    rw [setCell_eq h]
    rw [ih (World.setB w b (.cells (arr.setIfInBounds (o + i) v) T (0, 0))) _ (i + 1) (setB_same h) (by simp; omega) (fun u hu => h1 u (by simp [hu]))]
    rw [setB_setB]
    rfl

end Go.Ab
