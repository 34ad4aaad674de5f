import Derived.Test.YtjggngbfmjneiaaGreatXB
import Derived.WalkKit
import Derived.ProofKit
import Derived.OpenShut
import Derived.JoinedCond
set_option linter.unusedVariables false
set_option linter.unusedSimpArgs false
namespace Go.Ab
open Go.Proofs Go.Proofs.YtjggngbfmjneiaaGreat
open Go.ChangeShapes Go.WideShapes Go.ChangeAt Go.RowKit

section
variable {H : Type}
theorem bulk_pos (d : DataW H) : 1 ≤ Rows.uptoBulk d := by
  cases d with
  | lit l => cases l <;> simp [Rows.uptoBulk]
  | _ => simp [Rows.uptoBulk]
theorem bulk_mem {d : DataW H} : ∀ {l : List (DataW H)}, d ∈ l → Rows.uptoBulk d ≤ Rows.uptoBulkAll l
  | x :: l, h => by
    rw [Rows.uptoBulkAll]
    rcases List.mem_cons.1 h with rfl | h
    · omega
    · have := bulk_mem h; omega
theorem bulk_len : ∀ (l : List (DataW H)), l.length ≤ Rows.uptoBulkAll l
  | [] => by simp
  | x :: l => by
    rw [Rows.uptoBulkAll, List.length_cons]
    have := bulk_len l
    have := bulk_pos x
    omega
def SmallB (d : DataW H) : Prop := Rows.uptoBulk d ≤ 1048576
theorem smallB : SmallP (SmallB (H := H)) where
  str l h := by simp only [SmallB, Rows.uptoBulk] at h; omega
  len es sp h := by simp only [SmallB, Rows.uptoBulk] at h; have := bulk_len es; simp only [maxRows]; omega
  elem es sp h e he := by simp only [SmallB, Rows.uptoBulk] at h ⊢; have := bulk_mem he; omega
  part ps h p hp := by simp only [SmallB, Rows.uptoBulk] at h ⊢; have := bulk_mem hp; omega
theorem small_mem {d : DataW H} {ds : List (DataW H)} (hk : Rows.uptoSmall H ds = true) (hd : d ∈ ds) : SmallB d := by
  have := of_decide_eq_true hk
  have := bulk_mem hd
  simp only [SmallB]
  omega
end

theorem rep_ty {w : World} {cs : Array Value} {t : Ty} (h : RD w cs.toList t.cells) : Rep w.cell? [] (.agg cs) (vTy t) := by
  rw [Ty.cells_eq] at h
  refine .agg cs (t.lay.map V.d) (by have := h.len; simpa using this) fun j hj => ?_
  have hj' : j < t.lay.length := by simpa using hj
  have := h.rep j hj'
  have e1 : cs.toList.getD j undef = cs.getD j undef := by simp [List.getD_eq_getElem?_getD, Array.getD_eq_getD_getElem?]
  rw [e1] at this
  have e2 : (t.lay.map V.d).getD j .any = V.d (t.lay.getD j default) := by simp [List.getD_eq_getElem?_getD, hj']
  rw [e2]
  exact .d this

set_option maxRecDepth 100000 in
/-- An argument of type api.Type. -/
theorem open_tyS {H : Type} {enc : TypeId × Value → H} {W : World} {spare : Nat → Bool} {held : Bool} {base : Nat} {v : Value} {d : DataW H} {ps : List MemPlace}
    (hv : Value.okWide Tryz.prog W .any base 27 v) (h : DataW.Trod enc Tryz.prog W 0 spare held 27 v d ps) (hd : SmallB d) : ∃ t : Ty, Rep W.cell? [] v (vTy t) ∧ SmT t := by
  unfold Value.okWide at hv
  rw [Tryz.underlying27] at hv
  obtain ⟨cs, rfl, -, -⟩ := hv
  obtain ⟨fuel, h⟩ := h
  obtain ⟨t, ht, hz⟩ := rd_ty smallB fuel _ _ _ h hd
  exact ⟨t, rep_ty ht, hz⟩

set_option maxRecDepth 100000 in
theorem open_ty {H : Type} {enc : TypeId × Value → H} {W : World} {spare : Nat → Bool} {held : Bool} {base : Nat} {v : Value} {d : DataW H} {ps : List MemPlace}
    (hv : Value.okWide Tryz.prog W .any base 27 v) (h : DataW.Trod enc Tryz.prog W 0 spare held 27 v d ps) (hd : SmallB d) : ∃ t : Ty, Rep W.cell? [] v (vTy t) := by
  obtain ⟨t, h, _⟩ := open_tyS hv h hd
  exact ⟨t, h⟩

theorem ext_below {F F' : Mem} {M' : Pls} {W W' : World} (x : Ext F [] W F' M' W') : Below W.heap.size W W' :=
  ⟨x.os, x.tape, x.output, x.size, fun k hk => x.old k hk fun i p h => by simp at h⟩

/-- A contract, at a world. -/
theorem PCall.at {P : Program} {k : FuncId} {args : List V} {r : V} (h : PCall P k args r) {W : World} (hg : groundMem.le W.cell?) {vals : List Value} (hr : Reps W.cell? [] vals args) :
    Calls P k vals.toArray W fun e W' => ∃ v, e = .returned v ∧ (∃ F, Rep F [] v r) ∧ Below W.heap.size W W' := by
  refine (h.call.calls W.cell? [] W vals ⟨fun a v h => h, rfl, fun i o p h => by simp at h, fun i j o o' p p' b _ h => by simp at h, fun i p b h => by simp at h, hg⟩ hr).mono ?_
  rintro e W' ⟨v, r', H', F', M', rfl, e, hv, hi, x⟩
  subst e
  refine ⟨v, rfl, ⟨F', ?_⟩, ext_below x⟩
  exact hv.take 0 (pure_lt 0 _ h.pure)
end Go.Ab
