import Derived.Test.YtjggngbfmjneiaaXC
import Derived.Test.YtjggngbfmjneiaaPV
set_option linter.unusedVariables false
set_option linter.unusedSimpArgs false
namespace Go.Ab
open Go.Proofs Go.Proofs.Ytjggngbfmjneiaa
open Go.ChangeShapes Go.WideShapes Go.ChangeAt Go.RowKit

theorem cVal : Try.prog.cellsOf 39 = 5 := by kernel_rfl
theorem cVals : Try.prog.cellsOf 37 = 1 := by kernel_rfl
theorem valLen (t : Val) : t.cells.length = 5 := by rw [Val.cells_eq]; rfl
section
variable {H : Type} {enc : TypeId × Value → H} {w : World} {spare : Nat → Bool} {held : Bool} {S : DataW H → Prop}
theorem rd_val (hS : SmallP S) : ∀ (fuel : Nat) (cs : List Value) (d : DataW H) (ps : List MemPlace), DataW.trod enc Try.prog w 0 spare held fuel 39 cs = some (d, ps) → S d → ∃ t : Val, RD w cs t.cells := by
  intro fuel
  induction fuel using Nat.strongRecOn with
  | _ fuel ih =>
  intro cs d ps h hd
  obtain ⟨hl, n, rfl, hf⟩ := rd_struct hS Try.underlying39 h hd
  rw [cVal] at hl
  obtain ⟨d0, p0, h0, s0⟩ := hf 0 _ rfl
  obtain ⟨d1, p1, h1, s1⟩ := hf 1 _ rfl
  obtain ⟨d2, p2, h2, s2⟩ := hf 2 _ rfl
  obtain ⟨d3, p3, h3, s3⟩ := hf 3 _ rfl
  obtain ⟨d4, p4, h4, s4⟩ := hf 4 _ rfl
  simp only [List.getElem_toArray, List.getElem_cons_zero, List.getElem_cons_succ, cInt, cStr, cVals, cStrs] at h0 h1 h2 h3 h4
  obtain ⟨k, r0⟩ := rd_int Try.underlying3 h0
  obtain ⟨a, r1⟩ := rd_str hS Try.underlying9 h1 s1
  obtain ⟨b, r2⟩ := rd_str hS Try.underlying9 h2 s2
  obtain ⟨l3, r3⟩ := rd_slice Val.cells 5 valLen cVal hS Try.underlying37 (fun m' cs d ps hm' h hd => ih m' (by omega) _ _ _ h hd) h3 s3
  obtain ⟨l4, r4⟩ := rd_strs hS h4 s4
  refine ⟨.mk k a b l3 l4, ?_⟩
  rw [Val.cells, Val.cellsL_eq]
  exact RD.cons (o := 0) (n := 1) r0 rfl (RD.cons (o := 1) (n := 1) r1 rfl (RD.cons (o := 2) (n := 1) r2 rfl (RD.cons (o := 3) (n := 1) r3 rfl (RD.cons (o := 4) (n := 1) r4 rfl (RD.last (by omega))))))
end
theorem rep_val {w : World} {cs : Array Value} {t : Val} (h : RD w cs.toList t.cells) : Rep w.cell? [] (.agg cs) (vVal t) := by
  rw [Val.cells_eq] at h
  refine .agg cs (t.lay.map V.d) (by have := h.len; simpa using this) fun j hj => ?_
  have hj' : j < t.lay.length := by simpa using hj
  have := h.rep j hj'
  have e1 : cs.toList.getD j undef = cs.getD j undef := by simp [List.getD_eq_getElem?_getD, Array.getD_eq_getD_getElem?]
  rw [e1] at this
  have e2 : (t.lay.map V.d).getD j .any = V.d (t.lay.getD j default) := by simp [List.getD_eq_getElem?_getD, hj']
  rw [e2]
  exact .d this
set_option maxRecDepth 100000 in
/-- An argument of type api.Value. -/
theorem open_val {H : Type} {enc : TypeId × Value → H} {W : World} {spare : Nat → Bool} {held : Bool} {base : Nat} {v : Value} {d : DataW H} {ps : List MemPlace}
    (hv : Value.okWide Try.prog W .any base 39 v) (h : DataW.Trod enc Try.prog W 0 spare held 39 v d ps) (hd : SmallB d) : ∃ t : Val, Rep W.cell? [] v (vVal t) := by
  unfold Value.okWide at hv
  rw [Try.underlying39] at hv
  obtain ⟨cs, rfl, -, -⟩ := hv
  obtain ⟨fuel, h⟩ := h
  obtain ⟨t, ht⟩ := rd_val smallB fuel _ _ _ h hd
  exact ⟨t, rep_val ht⟩
end Go.Ab
