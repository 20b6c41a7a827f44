import Derived.Test.YtlpffainhdnaiaaGreatDoorKcfg
import Derived.Test.YtlpffainhdnaiaaGreatDoorAbBelow
import Derived.Test.YtlpffainhdnaiaaGreatDoorTryzShelf
import Derived.Shelf.Small.Strs
/- The configuration is sound. -/
namespace Go.Ab
open Go Go.Proofs
noncomputable section

theorem gl_ref (g : Nat) : (gl g).nref = true := by
  unfold gl
  split <;> rfl

theorem two_args {ρ : Ren} {w : World} {vs : Array Value} {a b : AV} (hsz : vs.size = [a, b].length) (h : ∀ (j : Nat) v x, vs[j]? = some v → [a, b][j]? = some x → Rep ρ w v x) : ∃ u v, vs = #[u, v] ∧ Rep ρ w u a ∧ Rep ρ w v b := by
  obtain ⟨l⟩ := vs
  match l, hsz with
  | [u, v], _ => exact ⟨u, v, rfl, h 0 u a rfl rfl, h 1 v b rfl rfl⟩
theorem one_arg {ρ : Ren} {w : World} {vs : Array Value} {a : AV} (hsz : vs.size = [a].length) (h : ∀ (j : Nat) v x, vs[j]? = some v → [a][j]? = some x → Rep ρ w v x) : ∃ u, vs = #[u] ∧ Rep ρ w u a := by
  obtain ⟨l⟩ := vs
  match l, hsz with
  | [u], _ => exact ⟨u, rfl, h 0 u a rfl rfl⟩

set_option maxRecDepth 100000 in
theorem enters247 : ∀ args w, (callFunc 247 args).run Tryz.prog w = .ok (.enter 247 args) w := enters_of Tryz.func247 (by kernel_rfl) rfl
set_option maxRecDepth 100000 in
theorem enters101 : ∀ args w, (callFunc 101 args).run Tryz.prog w = .ok (.enter 101 args) w := enters_of Tryz.func101 (by kernel_rfl) rfl
theorem ents (g : FuncId) (h : ∀ args w, (callFunc g args).run Tryz.prog w = .ok (.enter g args) w) : ∀ vs w, (callFunc g vs).run cK.P w = .ok (.enter g vs) w := h

theorem cmp_ok (a b : List UInt8) (S : St) (D : Nat) : CallOk cK (Ext D) 271 [.str a, .str b] S (.int .i64 (Lib.compareBytes a b)) S := by
  refine callOk_native (fun ρ w vs hsz hvs => ?_) S D
  obtain ⟨u, v, rfl, hu, hv⟩ := two_args hsz hvs
  have e1 := hu.str_inv
  have e2 := hv.str_inv
  subst e1 e2
  exact ⟨_, by show (callFunc 271 _).run Tryz.prog w = _; rw [run_callFunc_extern Tryz.func271 (by kernel_rfl) (by kernel_rfl) (by kernel_rfl) (e := Extern.BytealgCompare.compare) (by kernel_rfl), Lib.run_compareString]; rfl, .int _ _⟩

theorem rep_ok (s : List UInt8) (n : Int) (h0 : 0 ≤ n) (h1 : n ≤ 9223372036854775807) (h2 : s.length * n.toNat ≤ 140737488355328) (S : St) (D : Nat) : CallOk cK (Ext D) 247 [.str s, .int .i64 n] S (.str (Lib.repeatL s n.toNat)) S := by
  refine callOk_below (ents 247 enters247) (fun ρ w vs hsz hvs => ?_) S D
  obtain ⟨u, v, rfl, hu, hv⟩ := two_args hsz hvs
  have e1 := hu.str_inv
  have e2 := hv.int_inv
  subst e1 e2
  obtain ⟨k, rfl⟩ : ∃ k : Nat, n = k := ⟨n.toNat, by omega⟩
  refine (Tryz.strings_Repeat ⟨s.toArray⟩ k w (by omega) (by show s.toArray.size * k ≤ _; simpa using h2)).mono ?_
  rintro e w' ⟨rfl, hb⟩
  exact ⟨_, rfl, fun w2 => by simpa using Rep.str _, hb⟩

theorem cln_ok (o : Own) (S : St) (D : Nat) : CallOk cK (Ext D) 101 [.sl [] o] S (.sl [] .frs) S := by
  refine callOk_below (ents 101 enters101) (fun ρ w vs hsz hvs => ?_) S D
  obtain ⟨u, rfl, hu⟩ := one_arg hsz hvs
  have nil : ∀ (a : Option Addr) (cap : Nat) (w2 : World), Rep ρ w2 (.slice a 0 cap) (.sl [] .frs) := fun a cap w2 =>
    .sl a cap 0 [] .frs 0 0 (fun _ _ => .int .i64 0) (Nat.zero_le _) (fun h => by cases h) (fun e he => by cases he) (fun h => absurd rfl h) (fun i e j c hi => by simp at hi) (fun i e j c hi => by simp at hi)
  cases hu with
  | sl a cap s es o b off f hc hfull hs ha h r =>
    cases a with
    | none =>
      refine (Tryz.slices_Clone_string_nil 0 cap w).mono ?_
      rintro e w' ⟨rfl, rfl⟩
      exact ⟨_, rfl, nil none 0, RowKit.Below.refl _ _⟩
    | some a =>
      refine (Tryz.slices_Clone_string_zero a cap w).mono ?_
      rintro e w' ⟨v, rfl, hown, _, hb⟩
      refine ⟨v, rfl, ?_, hb⟩
      rcases hown.2 with ⟨e, _⟩ | ⟨g, cap', cur, e, _⟩
      · rw [e]; exact nil none 0
      · rw [e]; exact nil _ cap'

theorem names_chk : (Tryz.prog.funcs.toList.all fun fn => fn.name != "runtime.NumGoroutine") = true := by kernel_rfl
theorem names_ok (g : Nat) (fn : Func) (h : cK.P.funcs[g]? = some fn) : fn.name ≠ "runtime.NumGoroutine" := by
  have h1 : fn ∈ Tryz.prog.funcs.toList := Array.mem_toList_iff.2 (Array.mem_of_getElem? h)
  have h2 := List.all_eq_true.1 names_chk fn h1
  simpa using h2

theorem cK_ok : CfgOk cK where
  mixed := by kernel_rfl
  gref := gl_ref
  names := names_ok
  sp := by
    intro g xs S r S' h
    change spK g xs S = some (some (r, S')) at h
    unfold spK at h
    split at h
    · rename_i hg
      have := Nat.eq_of_beq_eq_true hg
      subst this
      unfold spCln at h
      split at h
      · injection h with h; injection h with h; injection h with h1 h2; subst h1 h2
        exact cln_ok _ _ _
      · cases h
    · split at h
      · rename_i hg
        have := Nat.eq_of_beq_eq_true hg
        subst this
        unfold spRep at h
        split at h
        · split at h
          · rename_i hn
            injection h with h; injection h with h; injection h with h1 h2; subst h1 h2
            exact rep_ok _ _ hn.1 hn.2.1 hn.2.2 _ _
          · cases h
        · cases h
      · split at h
        · rename_i hg
          have := Nat.eq_of_beq_eq_true hg
          subst this
          unfold spCmp at h
          split at h
          · injection h with h; injection h with h; injection h with h1 h2; subst h1 h2
            exact cmp_ok _ _ _ _
          · cases h
        · cases h
end
end Go.Ab
