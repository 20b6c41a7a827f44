/-
  DelegNames returns true. No conditions beyond the card.
-/
import Derived.Test.YtlpffainhdnaiaaGreatDoorEntD
import Derived.Test.YtlpffainhdnaiaaGreatDoorDnS
import Derived.Test.YtlpffainhdnaiaaGreatDoorDnFacts
import Derived.Lay
import Derived.SevenTiedAt
import Derived.Test.YtlpffainhdnaiaaGreatDoorTie
import Derived.Test.YtlpffainhdnaiaaGreatDoorCards
namespace Go.Ab
open Go Go.Proofs Go.Proofs.YtlpffainhdnaiaaGreatDoor Go.RowKit Go.ChangeShapes Go.WideShapes Go.ChangeAt
noncomputable section

theorem dn_sp : dnc10.sp 4 [] [] = some (some (.bool true, [])) := by kernel_rfl
theorem dn_call : CallOk cK (Ext 0) 4 [] [] (.bool true) [] := (dnok10 cK_ok).sp 4 [] [] _ _ dn_sp

set_option maxRecDepth 100000 in
theorem enters4 : ∀ args w, (callFunc 4 args).run Tryz.prog w = .ok (.enter 4 args) w := enters_of Tryz.func4 (by kernel_rfl) rfl

theorem names_walk {W : World} (h : laidMetH Tryz.prog laidD W) : Calls Tryz.prog 4 #[] W fun e W' => e = .returned (.bool true) ∧ Below W.heap.size W W' :=
  calls_of (c := cK) (globs_ok h) dn_call rfl (fun j v a hj => by simp at hj) (enters4 _ _)

theorem keptBut_below {W W' : World} (h : Below W.heap.size W W') (may : MemPlace → Prop) : W.keptBut W' may := by
  refine ⟨h.os, h.output, fun i hi => ?_⟩
  rw [h.block i hi]
  split <;> simp_all

set_option maxRecDepth 100000 in
theorem names_lifted (os : Os) (started : os.Started) (H : Type) (enc : TypeId × Value → H) :
    ReturnsInHanded {} Tryz.checked os 4 .any (fun w args => (Rows.delegNamesSpec.pre enc Tryz.prog Tryz.f4 Rows.delegNamesRow.domain false w args ∧ laidMetH Tryz.prog laidD w) ∧ sizedMet enc Tryz.prog Tryz.f4 (OpenSpec.ofChange Rows.delegNamesSpec) false w args)
      (Rows.delegNamesSpec.post enc Tryz.prog Tryz.f4 false true false false) := by
  refine returnsInHanded_of_change_and (C := Tryz.checked) (X := fun w _ => laidMetH Tryz.prog laidD w) (fun _ _ _ hh h => h.of_heap hh) ownD started (by kernel_rfl) Tryz.func4
    (ChangeSpec.witness_shaped (enc := enc) (C := Tryz.checked) (os := os) (X := fun w _ => laidMetH Tryz.prog laidD w) false (World.laidAll Tryz.prog os laidD) #[] 8 (World.laidAll_os _ _ _)
      (World.shaped_of_ZipB (by kernel_rfl) (by kernel_rfl)) (by kernel_rfl) (by kernel_rfl) (by kernel_rfl)
      (by rw [MakeChecks.laidMetH_plain _ _ _ (by kernel_rfl)]; exact laidMet_laidAll _ (by kernel_rfl) (by kernel_rfl))) ?_
  intro W base args ds gs before hval0 hW hc _ hL _
  have hW' := hW
  obtain ⟨p, q, hA0, hV, rfl, _, _⟩ := hW
  have hA : DataW.TrodAll enc Tryz.prog W 0 (fun _ => true) true Tryz.f4.params.toList args.toList ds p := hA0
  rw [Tryz.params4] at hA
  obtain ⟨rfl, rfl, rfl⟩ : args = #[] ∧ ds = [] ∧ p = [] := by
    obtain ⟨l⟩ := args
    cases l with
    | nil => cases ds with
      | nil => exact ⟨rfl, rfl, hA⟩
      | cons d r => exact absurd hA (by intro h; cases h)
    | cons x l => exact absurd hA (by intro h; cases ds <;> cases h)
  obtain ⟨rfl, rfl⟩ := trodVars_none hV
  refine (names_walk hL).mono fun e W' ⟨he, hb⟩ => ?_
  subst he
  exact ⟨_, rfl, [], [], [], [], [], [], hW', trodAll_mk1 (shut_bool Tryz.underlying4 _), rfl, rfl, keptBut_below hb _, fun h => by cases h⟩

theorem names_named : Tryz.prog.funcNamed Rows.delegNamesRow.func = some 4 := by kernel_rfl
theorem names_inst : Tryz.f4.isInstance Tryz.prog Rows.delegNamesRow.origin Rows.delegNamesRow.targs := of_decide_eq_true (by kernel_rfl)
theorem names_wrap : Tryz.f4.isWrapper Tryz.prog Rows.delegNamesRow.wrapper Rows.delegNamesRow.mainSum := by unfold Func.isWrapper; first | (rw [if_pos (by decide +kernel)]; kernel_rfl) | (rw [if_neg (by decide +kernel)]; exact ⟨rfl, rfl⟩)
theorem names_holds : Rows.DelegNamesSaid :=
  OpenClaim.holds_of_wide 4 Tryz.f4 rfl rfl rfl rfl rfl rfl rfl ⟨rfl, rfl, rfl, rfl, rfl⟩ rfl rfl rfl rfl rfl names_named Tryz.func4 names_facts names_inst names_wrap
    (fun os started H enc _ => names_lifted os started H enc)

theorem names_card : Rows.DelegNamesCardSaid :=
  Claim7.holds_tied_plain_at .later [] [.data, .data, .data, .data, .data, .data] true (true, "f6fabf8cac6bfe61d101b6e396c7a131f64726c8e665efa5e2407128124e0f62") false names_holds (fun _ h => by cases h) (by kernel_rfl) (fun _ h => by cases h) delegNames_row_tie rfl ⟨rfl, rfl⟩ (by kernel_rfl) rfl
    (fun f fn hf hfn => by
      obtain rfl : f = 4 := Option.some.inj ((show Tryz.prog.funcNamed "legate/legatelaw20.DelegNames" = some 4 by kernel_rfl).symm.trans hf) |>.symm
      obtain rfl : fn = Tryz.f4 := (Option.some.inj (Tryz.func4.symm.trans hfn)).symm
      exact ⟨by kernel_rfl, fun j t ht => by
        rw [Tryz.params4] at ht
        simp at ht⟩)
    (by kernel_rfl)
end
end Go.Ab
namespace Go.Proofs.YtlpffainhdnaiaaGreatDoor
theorem delegNames_proved : Rows.DelegNamesCardSaid := Go.Ab.names_card
end Go.Proofs.YtlpffainhdnaiaaGreatDoor
