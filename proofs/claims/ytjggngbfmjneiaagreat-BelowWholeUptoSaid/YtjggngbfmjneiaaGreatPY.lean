import Derived.Test.YtjggngbfmjneiaaGreatPX
set_option linter.unusedVariables false
set_option linter.unusedSimpArgs false
namespace Go.Ab
open Go.RowKit
section
variable {P : Program}
/-- A contract of the kit's, as one of ours. -/
theorem PCall.of_calls {k : FuncId} {args : List V} {r : V} (hr : r.pure = true) (ha : pures args = true) (he : Enters P k)
    (h : ∀ (F : Mem) (w : World) (vals : List Value), groundMem.le F → (∀ a v, F a = some v → w.cell? a = some v) → Reps F [] vals args → Calls P k vals.toArray w fun e w' => ∃ v, e = .returned v ∧ Rep F [] v r ∧ Below w.heap.size w w') : PCall P k args r := by
  refine ⟨hr, ha, ⟨he, fun F M w vals hi hreps => ?_⟩⟩
  have hM : M = [] := List.eq_nil_of_length_eq_zero (by rw [hi.len]; rfl)
  subst hM
  refine (h F w vals hi.gnd hi.cells hreps).mono ?_
  rintro e w' ⟨v, rfl, hv, hb⟩
  refine ⟨v, r, [], F, [], rfl, rfl, hv, ⟨fun a u ha => ?_, rfl, fun i o p h => by simp at h, fun i j o o' p p' b _ h => by simp at h, fun i p b h => by simp at h, hi.gnd⟩,
    ⟨.refl _, .refl _, hb.size, hb.os, hb.tape, hb.output, fun k hk _ => hb.block k hk, fun a h h' => absurd h h', fun i p b h => by simp at h⟩⟩
  have hc := hi.cells a u ha
  rw [hb.cell (World.block_lt_of_cell? w a hc)]
  exact hc
end
end Go.Ab
