import Derived.Test.YtlpffainhdnaiaaGreatDoorAbDraw
/- Calls whose results are known already: a table of calls in isolation, each checked by the machine. -/
namespace Go.Ab
open Go
noncomputable section

/-- A call and what it gives. -/
structure Ent where
  g : FuncId
  args : List AV
  r : AV

def findA (args : List AV) : List (List AV × AV) → Option AV
  | [] => none
  | x :: l => match sameL x.1 args with | true => some x.2 | false => findA args l

noncomputable def findG (g : FuncId) (T : List (FuncId × List (List AV × AV))) : List (List AV × AV) :=
  List.rec [] (fun x _ ih => Bool.rec ih x.2 (Nat.beq x.1 g)) T

noncomputable def memo (sp : FuncId → List AV → St → Option (Option (AV × St))) (T : List (FuncId × List (List AV × AV))) (g : FuncId) (args : List AV) (S : St) : Option (Option (AV × St)) :=
  match S with
  | [] => match findA args (findG g T) with | some r => some (some (r, [])) | none => sp g args []
  | S => sp g args S

noncomputable def Cfg.memo (c : Cfg) (T : List (FuncId × List (List AV × AV))) : Cfg := { c with sp := Ab.memo c.sp T }

noncomputable def chkE (c : Cfg) (n : Nat) (g : FuncId) (e : List AV × AV) : Bool :=
  match c.run (c.body n) g e.1 [] with
  | some (r, []) => AV.same r e.2
  | _ => false

noncomputable def chkT (c : Cfg) (n : Nat) (g : FuncId) (T : List (List AV × AV)) : Bool :=
  List.rec true (fun e _ ih => Bool.rec false ih (chkE c n g e)) T

def GOk (c : Cfg) (g : FuncId) (T : List (List AV × AV)) : Prop := ∀ e, e ∈ T → CallOk c (Ext 0) g e.1 [] e.2 []

def TabOk (c : Cfg) (T : List (FuncId × List (List AV × AV))) : Prop := ∀ x, x ∈ T → GOk c x.1 x.2

theorem findA_mem {args : List AV} {T : List (List AV × AV)} {r : AV} (h : findA args T = some r) : (args, r) ∈ T := by
  induction T with
  | nil => cases h
  | cons x l ih =>
    unfold findA at h
    split at h
    · rename_i hs
      injection h with h
      have := sameL_eq _ _ hs
      subst h this
      exact List.mem_cons_self
    · exact List.mem_cons_of_mem _ (ih h)

theorem findG_mem {g : FuncId} {T : List (FuncId × List (List AV × AV))} {e : List AV × AV} (h : e ∈ findG g T) : ∃ l, (g, l) ∈ T ∧ e ∈ l := by
  induction T with
  | nil => cases h
  | cons x l ih =>
    change e ∈ (Bool.rec (findG g l) x.2 (Nat.beq x.1 g) : List (List AV × AV)) at h
    cases hb : Nat.beq x.1 g with
    | true =>
      rw [hb] at h
      have := Nat.eq_of_beq_eq_true hb
      exact ⟨x.2, by rw [← this]; exact List.mem_cons_self, h⟩
    | false =>
      rw [hb] at h
      obtain ⟨k, h1, h2⟩ := ih h
      exact ⟨k, List.mem_cons_of_mem _ h1, h2⟩

theorem gok_of_chk {c : Cfg} (hc : CfgOk c) {n : Nat} {g : FuncId} {T : List (List AV × AV)} (h : chkT c n g T = true) : GOk c g T := by
  induction T with
  | nil => intro e he; cases he
  | cons x l ih =>
    change (Bool.rec false (chkT c n g l) (chkE c n g x) : Bool) = true at h
    cases hb : chkE c n g x with
    | false => rw [hb] at h; cases h
    | true =>
      rw [hb] at h
      intro e he
      cases he with
      | head =>
        unfold chkE at hb
        split at hb
        · rename_i r hr
          have := AV.same_eq _ _ hb
          subst this
          exact run_ok hc (body_ok hc n) hr
        · cases hb
      | tail _ he => exact ih h e he

theorem GOk.append {c : Cfg} {g : FuncId} {T U : List (List AV × AV)} (h : GOk c g T) (k : GOk c g U) : GOk c g (T ++ U) := by
  intro e he
  rcases List.mem_append.1 he with he | he
  · exact h e he
  · exact k e he

theorem TabOk.nil {c : Cfg} : TabOk c [] := by intro x hx; cases hx
theorem TabOk.cons {c : Cfg} {g : FuncId} {l : List (List AV × AV)} {T : List (FuncId × List (List AV × AV))} (h : GOk c g l) (k : TabOk c T) : TabOk c ((g, l) :: T) := by
  intro x hx
  cases hx with
  | head => exact h
  | tail _ hx => exact k x hx

theorem memo_ok {c : Cfg} (hc : CfgOk c) {T : List (FuncId × List (List AV × AV))} (h : TabOk c T) : CfgOk (c.memo T) where
  mixed := hc.mixed
  gref := hc.gref
  names := hc.names
  sp := by
    intro g as S r S' hs
    change Ab.memo c.sp T g as S = some (some (r, S')) at hs
    show CallOk c (Ext S.length) g as S r S'
    unfold Ab.memo at hs
    split at hs
    · split at hs
      · rename_i q hq
        injection hs with hs
        injection hs with hs
        injection hs with h1 h2
        subst h1 h2
        obtain ⟨l, h1, h2⟩ := findG_mem (findA_mem hq)
        exact h _ h1 _ h2
      · exact hc.sp g as [] r S' hs
    · exact hc.sp g as _ r S' hs
end
end Go.Ab
