import Derived.Test.YtjggngbfmjneiaaGreatPA
set_option linter.unusedVariables false
set_option linter.unusedSimpArgs false
namespace Go.Ab
def smB : Nat := 1048576
/-- Strings of no great length. -/
inductive SmT : Ty → Prop where
  | mk {t : Ty} (nums : ∀ s ∈ t.nums, s.low.size ≤ smB ∧ s.high.size ≤ smB) (texts : ∀ s ∈ t.texts, s.size ≤ smB) (item : ∀ a ∈ t.arrays, SmT a.item) (names : ∀ o ∈ t.objects, ∀ n ∈ o.names, n.size ≤ smB) (rest : ∀ o ∈ t.objects, SmT o.rest) (field : ∀ o ∈ t.objects, ∀ f ∈ o.fields, SmT f) : SmT t
theorem SmT.nums {t : Ty} (h : SmT t) : ∀ s ∈ t.nums, s.low.size ≤ smB ∧ s.high.size ≤ smB := by cases h; assumption
theorem SmT.texts {t : Ty} (h : SmT t) : ∀ s ∈ t.texts, s.size ≤ smB := by cases h; assumption
theorem SmT.item {t : Ty} (h : SmT t) : ∀ a ∈ t.arrays, SmT a.item := by cases h; assumption
theorem SmT.names {t : Ty} (h : SmT t) : ∀ o ∈ t.objects, ∀ n ∈ o.names, n.size ≤ smB := by cases h; assumption
theorem SmT.rest {t : Ty} (h : SmT t) : ∀ o ∈ t.objects, SmT o.rest := by cases h; assumption
theorem SmT.field {t : Ty} (h : SmT t) : ∀ o ∈ t.objects, ∀ f ∈ o.fields, SmT f := by cases h; assumption
end Go.Ab
