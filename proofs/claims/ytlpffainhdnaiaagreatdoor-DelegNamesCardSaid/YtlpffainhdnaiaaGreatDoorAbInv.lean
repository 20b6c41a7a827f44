import Derived.Test.YtlpffainhdnaiaaGreatDoorAbOpsDef
/- Inversions of readings; constants; layouts' runs. -/
namespace Go.Ab
open Go

section
variable {ρ : Ren} {w : World} {v : Value}
theorem Rep.bool_inv {b : Bool} (h : Rep ρ w v (.bool b)) : v = .bool b := by cases h; rfl
theorem Rep.int_inv {k : IntKind} {n : Int} (h : Rep ρ w v (.int k n)) : v = .int k n := by cases h; rfl
theorem Rep.str_inv {s : List UInt8} (h : Rep ρ w v (.str s)) : v = .string ⟨s.toArray⟩ := by cases h; rfl
theorem Rep.np_inv (h : Rep ρ w v .np) : v = .pointer none := by cases h; rfl
theorem Rep.mp_inv {d i off : Nat} (h : Rep ρ w v (.mp d i off)) : ∃ b, ρ.mb d i = some b ∧ v = .pointer (some ⟨b, off, none⟩) := by cases h with | mp _ h => exact ⟨_, h, rfl⟩
theorem Rep.ms_inv {d i off l s : Nat} (h : Rep ρ w v (.ms d i off l s)) : ∃ b c, ρ.mb d i = some b ∧ v = .slice (some ⟨b, off, none⟩) l c ∧ l ≤ c ∧ ∃ arr T fz, w.heap[b]? = some (.cells arr T fz) ∧ off + c * s ≤ arr.size := by
  cases h with | ms _ _ _ _ h hc hr => exact ⟨_, _, h, rfl, hc, hr⟩
theorem Rep.map_inv {d i : Nat} (h : Rep ρ w v (.map d i)) : ∃ b, ρ.mb d i = some b ∧ v = .map (some b) := by cases h with | map h => exact ⟨_, h, rfl⟩
theorem Rep.itr_inv {d i : Nat} (h : Rep ρ w v (.itr d i)) : ∃ b, ρ.mb d i = some b ∧ v = .pointer (some ⟨b, 0, none⟩) := by cases h with | itr h => exact ⟨_, h, rfl⟩
theorem Rep.ip_inv {cs : List AV} {l : Own} (h : Rep ρ w v (.ip cs l)) : ∃ (b o : Nat) (f : Nat → Value), v = .pointer (some ⟨b, o, none⟩) ∧
    (∀ j c, cs[j]? = some c → ρ.im b (o + j) ∧ w.cell? ⟨b, o + j, none⟩ = some (f j) ∧ c.nref = true ∧ (f j).oneCell' = true ∧ (l ≠ .unk → zf w b)) ∧ ∀ j c, cs[j]? = some c → Rep ρ w (f j) c := by
  cases h with | ip b o cs l f h r => exact ⟨b, o, f, rfl, h, r⟩
theorem Rep.sl_inv {es : List (List AV)} {o : Own} (h : Rep ρ w v (.sl es o)) : ∃ (a : Option Addr) (cap s b off : Nat) (f : Nat → Nat → Value), v = .slice a es.length cap ∧ es.length ≤ cap ∧ (o = .full → cap = es.length) ∧ (∀ e ∈ es, e.length = s) ∧
    (es ≠ [] → a = some ⟨b, off, none⟩) ∧
    (∀ i e j c, es[i]? = some e → e[j]? = some c → ρ.im b (off + (i * s + j)) ∧ w.cell? ⟨b, off + (i * s + j), none⟩ = some (f i j) ∧ c.nref = true ∧ (f i j).oneCell' = true ∧ (o ≠ .unk → zf w b)) ∧
    (∀ i e j c, es[i]? = some e → e[j]? = some c → Rep ρ w (f i j) c) := by
  cases h with | sl a cap s es o b off f hc hfull hs ha h r => exact ⟨a, cap, s, b, off, f, rfl, hc, hfull, hs, ha, h, r⟩
theorem Rep.agg_inv {cs : List AV} (h : Rep ρ w v (.agg cs)) : ∃ A : Array Value, v = .agg A ∧ A.size = cs.length ∧ (∀ (j : Nat) v, A[j]? = some v → v.oneCell' = true) ∧ ∀ (j : Nat) v c, A[j]? = some v → cs[j]? = some c → Rep ρ w v c := by
  cases h with | agg A cs a b c => exact ⟨A, rfl, a, b, c⟩
theorem Rep.tup_inv {cs : List AV} (h : Rep ρ w v (.tup cs)) : ∃ A : Array Value, v = .tuple A ∧ A.size = cs.length ∧ ∀ (j : Nat) v c, A[j]? = some v → cs[j]? = some c → Rep ρ w v c := by
  cases h with | tup A cs a b => exact ⟨A, rfl, a, b⟩
theorem Rep.fn_inv {fn : Fn} {c1 c2 : List AV} (h : Rep ρ w v (.fn fn c1 c2)) : ∃ A1 A2 : Array Value, v = .func fn A1 A2 ∧ A1.size = c1.length ∧ A2.size = c2.length ∧
    (∀ (j : Nat) v c, A1[j]? = some v → c1[j]? = some c → Rep ρ w v c) ∧ ∀ (j : Nat) v c, A2[j]? = some v → c2[j]? = some c → Rep ρ w v c := by
  cases h with | fn f A1 A2 c1 c2 a b c d => exact ⟨A1, A2, rfl, a, b, c, d⟩
theorem Rep.ifc_inv {t : TypeId} {a : AV} (h : Rep ρ w v (.ifc t a)) : ∃ x, v = .iface t x ∧ Rep ρ w x a := by cases h with | ifc t h => exact ⟨_, rfl, h⟩
end

theorem av1_rep (ρ : Ren) (w : World) (v : Value) : Rep ρ w v (av1 v) := by
  unfold av1
  split
  · exact .bool _
  · exact .int _ _
  · rename_i s
    have : (ByteArray.mk s.data.toList.toArray) = s := by cases s; simp
    conv => arg 3; rw [← this]
    exact .str _
  · exact .np
  · exact .sl none 0 0 [] .full 0 0 (fun _ _ => .nilFunc) (Nat.le_refl _) (fun _ => rfl) (by simp) (fun h => absurd rfl h) (by simp) (by simp)
  · exact .nmap
  · exact .nfn
  · exact .nif
  · exact .fn _ _ _ [] [] rfl rfl (by simp) (by simp)
  · exact .any _

theorem cells_rep (ρ : Ren) (w : World) (A : Array Value) (h : A.toList.all Value.oneCell' = true) : Rep ρ w (.agg A) (.agg (A.toList.map av1)) := by
  refine .agg A _ (by simp) (fun j v hj => ?_) fun j v c hj hc => ?_
  · simp only [List.all_eq_true] at h
    exact h v (by rw [Array.mem_toList_iff]; exact Array.mem_of_getElem? hj)
  · have hj' : A.toList[j]? = some v := by simpa using hj
    rw [List.getElem?_map, hj'] at hc
    injection hc with hc
    subst hc
    exact av1_rep ρ w v

theorem av0_rep (ρ : Ren) (w : World) (v : Value) : Rep ρ w v (av0 v) := by
  unfold av0
  split
  · rename_i cs
    split
    · rename_i h; exact cells_rep ρ w cs h
    · exact .any _
  · exact av1_rep ρ w v

theorem av1_nref (v : Value) : (av1 v).nref = true := by
  unfold av1 AV.nref
  split <;> simp [AV.rin, AV.rinL]

theorem Rep.one {ρ : Ren} {w : World} {v : Value} {a : AV} (h : Rep ρ w v a) (ha : a.okCell = true) : v.oneCell' = true := by
  cases h <;> first | rfl | (simp [AV.okCell] at ha; done) | assumption

theorem Rep.cells_inv {ρ : Ren} {w : World} {v : Value} {a : AV} (h : Rep ρ w v a) (ha : a.okVal = true) :
    v.cells.size = a.cells.length ∧ (∀ (j : Nat) x, v.cells[j]? = some x → x.oneCell' = true) ∧ (∀ (j : Nat) x c, v.cells[j]? = some x → a.cells[j]? = some c → Rep ρ w x c) := by
  by_cases hg : ∃ cs, a = .agg cs
  · obtain ⟨cs, rfl⟩ := hg
    obtain ⟨A, rfl, h1, h2, h3⟩ := h.agg_inv
    exact ⟨h1, h2, h3⟩
  · have hc : a.okCell = true := by
      cases a <;> first | (simp_all [AV.okVal, AV.okCell]; done) | (exact absurd ⟨_, rfl⟩ hg)
    have h1 := h.one hc
    have hv : v.cells = #[v] := by cases v <;> first | rfl | (simp [Value.oneCell'] at h1)
    have ha' : a.cells = [a] := by cases a <;> first | rfl | (exact absurd ⟨_, rfl⟩ hg)
    rw [hv, ha']
    refine ⟨rfl, fun j x hj => ?_, fun j x c hj hc' => ?_⟩
    · cases j with
      | zero => simp at hj; exact hj ▸ h1
      | succ j => simp at hj
    · cases j with
      | zero => simp at hj hc'; exact hj ▸ hc' ▸ h
      | succ j => simp at hj

section
variable {P : Program} {w : World}

theorem run_info {t : TypeId} {i : TypeInfo} (h : P.info? t = some i) : (typeInfo t).run P w = .ok i w := by simp [typeInfo, h]

theorem layOf_inv {t : TypeId} {L : Lay} (h : layOf P t = some L) : ∃ (d : TypeDesc) (i : TypeInfo) (z : Value), P.underlying t = some d ∧ P.info? t = some i ∧ i.zero = some z ∧ z.cells.toList.all Value.oneCell' = true ∧
    z.cells.size = i.size ∧ (aggD d = false → i.size = 1) ∧ L = ⟨i.size, i.bytes, aggD d, z.cells.toList.map av1⟩ := by
  unfold layOf at h
  split at h
  · rename_i d i hd hi
    split at h
    · rename_i z hz
      split at h
      · rename_i hc
        simp only [Bool.and_eq_true, beq_iff_eq, Bool.or_eq_true] at hc
        injection h with h
        exact ⟨d, i, z, hd, hi, hz, hc.1.1, hc.1.2, fun hf => hc.2.resolve_left (by simp [hf]), h.symm⟩
      · cases h
    · cases h
  · cases h

theorem lay_size {t : TypeId} {L : Lay} (h : layOf P t = some L) : (sizeOf t).run P w = .ok L.size w := by
  obtain ⟨d, i, z, h1, h2, h3, h4, h5, h6, rfl⟩ := layOf_inv h
  simp [sizeOf, run_info h2]

theorem lay_info {t : TypeId} {L : Lay} (h : layOf P t = some L) : ∃ i : TypeInfo, P.info? t = some i ∧ i.size = L.size ∧ i.bytes = L.bytes ∧ (typeInfo t).run P w = .ok i w := by
  obtain ⟨d, i, z, h1, h2, h3, h4, h5, h6, rfl⟩ := layOf_inv h
  exact ⟨i, h2, rfl, rfl, run_info h2⟩

theorem lay_agg {t : TypeId} {L : Lay} (h : layOf P t = some L) : (isAgg t).run P w = .ok L.agg w := by
  obtain ⟨d, i, z, h1, h2, h3, h4, h5, h6, rfl⟩ := layOf_inv h
  simp only [isAgg, Sem.run_bind, run_underlying h1, Result.andThen_ok]
  cases d <;> rfl

theorem lay_zero {t : TypeId} {L : Lay} (h : layOf P t = some L) : ∃ z : Value, (zeroValue t).run P w = .ok z w ∧ z.cells.size = L.size ∧ z.cells.toList.all Value.oneCell' = true ∧ L.zero = z.cells.toList.map av1 := by
  obtain ⟨d, i, z, h1, h2, h3, h4, h5, h6, rfl⟩ := layOf_inv h
  exact ⟨z, by simp [zeroValue, run_info h2, h3], h5, h4, rfl⟩

theorem lay_one {t : TypeId} {L : Lay} (h : layOf P t = some L) (ha : L.agg = false) : L.size = 1 := by
  obtain ⟨d, i, z, h1, h2, h3, h4, h5, h6, rfl⟩ := layOf_inv h
  exact h6 ha

theorem lay_zlen {t : TypeId} {L : Lay} (h : layOf P t = some L) : L.zero.length = L.size := by
  obtain ⟨d, i, z, h1, h2, h3, h4, h5, h6, rfl⟩ := layOf_inv h
  simpa using h5
end

end Go.Ab
