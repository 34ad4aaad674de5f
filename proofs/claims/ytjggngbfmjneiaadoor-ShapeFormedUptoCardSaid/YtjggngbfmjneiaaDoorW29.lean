import Derived.Test.YtjggngbfmjneiaaDoorW16
import Derived.Test.YtjggngbfmjneiaaDoorPU
import Derived.Test.YtjggngbfmjneiaaDoorPY
import Derived.Shelf.Unicode.ValidAny
set_option linter.unusedVariables false
set_option linter.unusedSimpArgs false
set_option maxRecDepth 4000
namespace Go.Ab
open Go.Proofs

def laysRen : Go.Shelf.Ren := ⟨fun x => match x with
  | 196 => 103
  | 259 => 108
  | n => n, fun x => match x with
  | 9 => 9
  | 4 => 4
  | 3 => 3
  | 5 => 5
  | 12 => 12
  | 119 => 113
  | 0 => 0
  | 46 => 40
  | 139 => 116
  | 138 => 115
  | 53 => 118
  | n => n, fun x => match x with
  | 3 => 0
  | 4 => 1
  | n => n⟩
theorem laysValid : Lays.n196 Tryd.prog laysRen := {
  mixed := mixed
  f196 := Eq.trans Tryd.func103 (by kernel_rfl)
  f259 := Eq.trans Tryd.func108 (by kernel_rfl)
  t0 := Tryd.underlying0
  a0 := Tryd.isAgg0
  z0 := Tryd.sizeOf0
  v0 := Tryd.zeroValue0
  t3 := Tryd.underlying3
  a3 := Tryd.isAgg3
  z3 := Tryd.sizeOf3
  v3 := Tryd.zeroValue3
  t4 := Tryd.underlying4
  a4 := Tryd.isAgg4
  z4 := Tryd.sizeOf4
  v4 := Tryd.zeroValue4
  t5 := Tryd.underlying5
  a5 := Tryd.isAgg5
  z5 := Tryd.sizeOf5
  v5 := Tryd.zeroValue5
  t9 := Tryd.underlying9
  a9 := Tryd.isAgg9
  z9 := Tryd.sizeOf9
  v9 := Tryd.zeroValue9
  t12 := Tryd.underlying12
  a12 := Tryd.isAgg12
  z12 := Tryd.sizeOf12
  v12 := Tryd.zeroValue12
  t46 := Tryd.underlying40
  a46 := Tryd.isAgg40
  z46 := Tryd.sizeOf40
  v46 := Tryd.zeroValue40
  t53 := Tryd.underlying118
  a53 := Tryd.isAgg118
  z53 := Tryd.sizeOf118
  v53 := Tryd.zeroValue118
  t119 := Tryd.underlying113
  a119 := Tryd.isAgg113
  z119 := Tryd.sizeOf113
  t138 := Tryd.underlying115
  a138 := Tryd.isAgg115
  z138 := Tryd.sizeOf115
  v138 := Tryd.zeroValue115
  t139 := Tryd.underlying116
  a139 := Tryd.isAgg116
  z139 := Tryd.sizeOf116
  v139 := Tryd.zeroValue116
  g3 := by kernel_rfl
  g4 := by kernel_rfl
}
theorem tabs_of_ground {F : Mem} {w : World} (h : groundMem.le F) (hc : ∀ a v, F a = some v → w.cell? a = some v) : Lib.Utf8Tabs 0 1 w := by
  refine ⟨fun c hc' => hc _ _ (h _ _ ?_), fun i hi => ⟨hc _ _ (h _ _ ?_), hc _ _ (h _ _ ?_)⟩⟩
  · simp [groundMem, hc']
  · have : 2 * i < 32 := by omega
    simp [groundMem, this]
  · have h1 : 2 * i + 1 < 32 := by omega
    have h2 : (2 * i + 1) / 2 = i := by omega
    simp [groundMem, h1, h2]
theorem validString_ok (s : ByteArray) : PCall Tryd.prog 103 [vStr s] (vBool (tt (Utf s))) := by
  refine PCall.bd Tryd.func103 rfl (by decide) rfl rfl (fun hbd => ?_)
  have hs : s.size ≤ 4611686018427387904 := D.Bd.str (hbd 0 (by simp))
  refine PCall.of_calls rfl rfl (enters_of Tryd.func103 rfl (by decide)) fun F w vals hg hc hr => ?_
  have hv : vals = [.string s] := by
    have h1 := hr.1
    have h2 := hr.2 0 (by simp)
    match vals, h1 with
    | [v], _ =>
      have h3 : Rep F [] v (vStr s) := h2
      rw [h3.lit_inv]
  subst hv
  refine (Any.utf8_ValidString laysValid s w (by omega) (tabs_of_ground hg hc)).mono ?_
  rintro e w' ⟨rfl, hb⟩
  rw [utf_valid]
  exact ⟨_, rfl, .d (.lit _ rfl), hb⟩
theorem utfValid_ok (s : ByteArray) : PCall Tryd.prog 91 [vStr s] (vBool (tt (Utf s))) := by
  refine PCall.of_fx TTok mixed Tryd.func91 rfl (by decide) rfl rfl ?_
  conv => whnf
  refine (validString_ok s).use (.refl _) ?_
  conv => whnf
  exact retB TTok rfl rfl
end Go.Ab
