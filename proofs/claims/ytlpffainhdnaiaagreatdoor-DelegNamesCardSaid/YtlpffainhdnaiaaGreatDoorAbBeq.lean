import Derived.Test.YtlpffainhdnaiaaGreatDoorAbDefs
/- States held against each other. -/
namespace Go.Ab
open Go

mutual
def AV.same : AV → AV → Bool
  | .any, .any => true
  | .bool a, .bool b => a == b
  | .int k a, .int q b => decide (k = q) && decide (a = b)
  | .str a, .str b => a == b
  | .np, .np => true
  | .mp a b c, .mp x y z => a == x && b == y && c == z
  | .ip cs o, .ip ds q => sameL cs ds && decide (o = q)
  | .sl es o, .sl fs q => sameLL es fs && decide (o = q)
  | .ms a b c d e, .ms v w x y z => a == v && b == w && c == x && d == y && e == z
  | .nmap, .nmap => true
  | .map a b, .map x y => a == x && b == y
  | .itr a b, .itr x y => a == x && b == y
  | .fn f a b, .fn g x y => decide (f = g) && sameL a x && sameL b y
  | .nfn, .nfn => true
  | .ifc t a, .ifc u b => t == u && AV.same a b
  | .nif, .nif => true
  | .agg a, .agg b => sameL a b
  | .tup a, .tup b => sameL a b
  | _, _ => false
def sameL : List AV → List AV → Bool
  | [], [] => true
  | a :: l, b :: k => AV.same a b && sameL l k
  | _, _ => false
def sameLL : List (List AV) → List (List AV) → Bool
  | [], [] => true
  | a :: l, b :: k => sameL a b && sameLL l k
  | _, _ => false
end

mutual
theorem AV.same_eq : ∀ (a b : AV), AV.same a b = true → a = b
  | .any, b, h => by cases b <;> first | rfl | cases h
  | .bool a, b, h => by cases b <;> first | (simp only [AV.same, beq_iff_eq] at h; rw [h]) | cases h
  | .int k a, b, h => by cases b <;> first | (simp only [AV.same, Bool.and_eq_true, decide_eq_true_eq] at h; rw [h.1, h.2]) | cases h
  | .str a, b, h => by cases b <;> first | (simp only [AV.same, beq_iff_eq] at h; rw [h]) | cases h
  | .np, b, h => by cases b <;> first | rfl | cases h
  | .mp x y z, b, h => by cases b <;> first | (simp only [AV.same, Bool.and_eq_true, beq_iff_eq] at h; rw [h.1.1, h.1.2, h.2]) | cases h
  | .ip cs o, b, h => by
    cases b <;> try (cases h; done)
    simp only [AV.same, Bool.and_eq_true, decide_eq_true_eq] at h
    rw [sameL_eq _ _ h.1, h.2]
  | .sl es o, b, h => by
    cases b <;> try (cases h; done)
    simp only [AV.same, Bool.and_eq_true, decide_eq_true_eq] at h
    rw [sameLL_eq _ _ h.1, h.2]
  | .ms _ _ _ _ _, b, h => by cases b <;> first | (simp only [AV.same, Bool.and_eq_true, beq_iff_eq] at h; rw [h.1.1.1.1, h.1.1.1.2, h.1.1.2, h.1.2, h.2]) | cases h
  | .nmap, b, h => by cases b <;> first | rfl | cases h
  | .map _ _, b, h => by cases b <;> first | (simp only [AV.same, Bool.and_eq_true, beq_iff_eq] at h; rw [h.1, h.2]) | cases h
  | .itr _ _, b, h => by cases b <;> first | (simp only [AV.same, Bool.and_eq_true, beq_iff_eq] at h; rw [h.1, h.2]) | cases h
  | .fn _ x y, b, h => by
    cases b <;> try (cases h; done)
    simp only [AV.same, Bool.and_eq_true, decide_eq_true_eq] at h
    rw [h.1.1, sameL_eq _ _ h.1.2, sameL_eq _ _ h.2]
  | .nfn, b, h => by cases b <;> first | rfl | cases h
  | .ifc t a, b, h => by
    cases b <;> try (cases h; done)
    simp only [AV.same, Bool.and_eq_true, beq_iff_eq] at h
    rw [h.1, AV.same_eq _ _ h.2]
  | .nif, b, h => by cases b <;> first | rfl | cases h
  | .agg a, b, h => by
    cases b <;> try (cases h; done)
    simp only [AV.same] at h
    rw [sameL_eq _ _ h]
  | .tup a, b, h => by
    cases b <;> try (cases h; done)
    simp only [AV.same] at h
    rw [sameL_eq _ _ h]
theorem sameL_eq : ∀ (a b : List AV), sameL a b = true → a = b
  | [], b, h => by cases b <;> first | rfl | cases h
  | a :: l, b, h => by
    cases b <;> try (cases h; done)
    simp only [sameL, Bool.and_eq_true] at h
    rw [AV.same_eq _ _ h.1, sameL_eq _ _ h.2]
theorem sameLL_eq : ∀ (a b : List (List AV)), sameLL a b = true → a = b
  | [], b, h => by cases b <;> first | rfl | cases h
  | a :: l, b, h => by
    cases b <;> try (cases h; done)
    simp only [sameLL, Bool.and_eq_true] at h
    rw [sameL_eq _ _ h.1, sameLL_eq _ _ h.2]
end

def Blk.same : Blk → Blk → Bool
  | .cells a s, .cells b t => sameL a b && decide (s = t)
  | .map l, .map k => l == k
  | .iter b p, .iter d q => b == d && p == q
  | .dead, .dead => true
  | _, _ => false

theorem Blk.same_eq : ∀ (a b : Blk), Blk.same a b = true → a = b := by
  intro a b h
  cases a <;> cases b <;> first | rfl | (simp [Blk.same] at h; done) | skip
  · simp only [Blk.same, Bool.and_eq_true, decide_eq_true_eq] at h
    rw [sameL_eq _ _ h.1, h.2]
  · simp only [Blk.same, beq_iff_eq] at h
    rw [h]
  · simp only [Blk.same, Bool.and_eq_true, beq_iff_eq] at h
    rw [h.1, h.2]

def sameB : List Blk → List Blk → Bool
  | [], [] => true
  | a :: l, b :: k => Blk.same a b && sameB l k
  | _, _ => false

theorem sameB_eq : ∀ (a b : List Blk), sameB a b = true → a = b
  | [], b, h => by cases b <;> first | rfl | cases h
  | a :: l, b, h => by
    cases b <;> try (cases h; done)
    simp only [sameB, Bool.and_eq_true] at h
    rw [Blk.same_eq _ _ h.1, sameB_eq _ _ h.2]

def sameS : St → St → Bool
  | [], [] => true
  | a :: l, b :: k => sameB a b && sameS l k
  | _, _ => false

theorem sameS_eq : ∀ (a b : St), sameS a b = true → a = b
  | [], b, h => by cases b <;> first | rfl | cases h
  | a :: l, b, h => by
    cases b <;> try (cases h; done)
    simp only [sameS, Bool.and_eq_true] at h
    rw [sameB_eq _ _ h.1, sameS_eq _ _ h.2]

end Go.Ab
