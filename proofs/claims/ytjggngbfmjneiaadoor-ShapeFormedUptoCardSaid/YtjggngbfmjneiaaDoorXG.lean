import Derived.Test.YtjggngbfmjneiaaDoorXC
import Derived.Test.YtjggngbfmjneiaaDoorCards
import Derived.Test.YtjggngbfmjneiaaDoorTie
import Derived.Deep.DeepHandedRow
import Derived.Lib.LaidU8T
set_option linter.unusedVariables false
set_option linter.unusedSimpArgs false
namespace Go.Ab
open Go.Proofs Go.Proofs.YtjggngbfmjneiaaDoor
open Go.ChangeShapes Go.WideShapes Go.ChangeAt Go.RowKit

/-- The numbers of utf8's types and tables here. -/
def u8Ren : Go.Shelf.Ren := ⟨fun x => x, fun t => if t = 5 then 5 else if t = 119 then 113 else if t = 138 then 115 else if t = 139 then 116 else t, fun g => if g = 3 then 0 else 1⟩
theorem u8Types : U8Types Tryd.prog u8Ren := ⟨Tryd.underlying5, Tryd.underlying113, Tryd.underlying115, Tryd.underlying116⟩
theorem u8Extra : U8Extra Tryd.prog u8Ren := ⟨by kernel_rfl, by kernel_rfl, by kernel_rfl, by kernel_rfl, by kernel_rfl, by kernel_rfl, by kernel_rfl⟩

theorem ground_of_tabs {W : World} (h : Lib.Utf8Tabs 0 1 W) : groundMem.le W.cell? := by
  intro a v e
  unfold groundMem at e
  obtain ⟨b, o, s⟩ := a
  simp only at e
  split at e
  · rename_i hs
    subst hs
    split at e
    · rename_i hb
      subst hb
      split at e
      · rename_i ho
        cases e
        exact h.1 o ho
      · cases e
    · split at e
      · rename_i hb
        subst hb
        split at e
        · rename_i ho
          have h2 := h.2 (o / 2) (by omega)
          split at e
          · rename_i hm
            cases e
            have : o = 2 * (o / 2) := by omega
            have := h2.1
            rw [show 2 * (o / 2) = o by omega] at this
            exact this
          · rename_i hm
            cases e
            have := h2.2
            rw [show 2 * (o / 2) + 1 = o by omega] at this
            exact this
        · cases e
      · cases e
  · cases e

theorem first_data : (Rows.laid_unicode_utf8_first : DataW Unit) = Lib.firstData := by kernel_rfl
theorem accept_data : (Rows.laid_unicode_utf8_acceptRanges : DataW Unit) = Lib.acceptData := by kernel_rfl
theorem ground_of_laid {W : World} (h : laidMetH Tryd.prog [("unicode/utf8.acceptRanges", Rows.laid_unicode_utf8_acceptRanges), ("unicode/utf8.first", Rows.laid_unicode_utf8_first)] W) : groundMem.le W.cell? := by
  have h : laidMet Tryd.prog [("unicode/utf8.acceptRanges", Rows.laid_unicode_utf8_acceptRanges), ("unicode/utf8.first", Rows.laid_unicode_utf8_first)] W := h
  rw [first_data, accept_data] at h
  exact ground_of_tabs (utf8Tabs_of_readsT u8Types u8Extra (Lib.laidMet.reads h (by simp)) (Lib.laidMet.reads h (by simp)))
end Go.Ab

namespace Go.Proofs.YtjggngbfmjneiaaDoor
open Go.ChangeShapes Go.WideShapes Go.ChangeAt Go.RowKit
open Go.Ab
theorem own : ownKnob Tryd.prog.godebug = none := by kernel_rfl
theorem laidOutP : laidOutB Tryd.prog = true := by kernel_rfl
/-- A world for the witness: the settled one, the two tables holding what their initialisers lay. -/
noncomputable def setCells (l : List Value) : Obj → Obj
  | .cells _ t frozen => .cells l.toArray t frozen
  | o => o
noncomputable def laidWorld (os : Os) : World :=
  { World.holding Tryd.prog os ⟨#[], #[], []⟩ with heap := ((World.holding Tryd.prog os ⟨#[], #[], []⟩).heap.modify 0 (setCells ((List.range 256).map fun c => Value.int .u8 (Lib.firstT c)))).modify 1 (setCells ((List.range 32).map fun c => Value.int .u8 (if c % 2 = 0 then Lib.accLo (c / 2) else Lib.accHi (c / 2)))) }
end Go.Proofs.YtjggngbfmjneiaaDoor
