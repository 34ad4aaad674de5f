import Derived.Test.YtjggngbfmjneiaaXA
import Derived.Test.YtjggngbfmjneiaaTab
import Derived.Test.YtjggngbfmjneiaaRows
set_option linter.unusedVariables false
set_option linter.unusedSimpArgs false
namespace Go.Ab
open Go.Proofs

theorem cBool : Try.prog.cellsOf 4 = 1 := by kernel_rfl
theorem cInt : Try.prog.cellsOf 3 = 1 := by kernel_rfl
theorem cStr : Try.prog.cellsOf 9 = 1 := by kernel_rfl
theorem cSp : Try.prog.cellsOf 57 = 2 := by kernel_rfl
theorem cAr : Try.prog.cellsOf 46 = 11 := by kernel_rfl
theorem cOb : Try.prog.cellsOf 32 = 12 := by kernel_rfl
theorem cTy : Try.prog.cellsOf 27 = 9 := by kernel_rfl
theorem cSps : Try.prog.cellsOf 22 = 1 := by kernel_rfl
theorem cStrs : Try.prog.cellsOf 23 = 1 := by kernel_rfl
theorem cArs : Try.prog.cellsOf 24 = 1 := by kernel_rfl
theorem cObs : Try.prog.cellsOf 25 = 1 := by kernel_rfl
theorem cTys : Try.prog.cellsOf 29 = 1 := by kernel_rfl
theorem cBools : Try.prog.cellsOf 30 = 1 := by kernel_rfl

section
variable {H : Type} {enc : TypeId × Value → H} {w : World} {spare : Nat → Bool} {held : Bool} {S : DataW H → Prop}

theorem rd_sp (hS : SmallP S) {fuel : Nat} {cs : List Value} {d : DataW H} {ps : List MemPlace} (h : DataW.trod enc Try.prog w 0 spare held fuel 57 cs = some (d, ps)) (hd : S d) : ∃ s : Sp, RD w cs s.cells := by
  obtain ⟨hl, n, rfl, hf⟩ := rd_struct hS Try.underlying57 h hd
  rw [cSp] at hl
  obtain ⟨d0, p0, h0, s0⟩ := hf 0 _ rfl
  obtain ⟨d1, p1, h1, s1⟩ := hf 1 _ rfl
  simp only [List.getElem_toArray, List.getElem_cons_zero, List.getElem_cons_succ, cStr] at h0 h1
  obtain ⟨a, r0⟩ := rd_str hS Try.underlying9 h0 s0
  obtain ⟨b, r1⟩ := rd_str hS Try.underlying9 h1 s1
  exact ⟨⟨a, b⟩, RD.cons (o := 0) (n := 1) r0 rfl (RD.cons (o := 1) (n := 1) r1 rfl (RD.last (by omega)))⟩

theorem rd_strs (hS : SmallP S) {fuel : Nat} {cs : List Value} {d : DataW H} {ps : List MemPlace} (h : DataW.trod enc Try.prog w 0 spare held fuel 23 cs = some (d, ps)) (hd : S d) : ∃ l : List ByteArray, RD w cs [.sl (l.map strC)] :=
  rd_slice strC 1 (fun _ => rfl) cStr hS Try.underlying23 (fun n cs d ps _ h hd => rd_str hS Try.underlying9 h hd) h hd
theorem rd_bools (hS : SmallP S) {fuel : Nat} {cs : List Value} {d : DataW H} {ps : List MemPlace} (h : DataW.trod enc Try.prog w 0 spare held fuel 30 cs = some (d, ps)) (hd : S d) : ∃ l : List Bool, RD w cs [.sl (l.map boolC)] :=
  rd_slice boolC 1 (fun _ => rfl) cBool hS Try.underlying30 (fun n cs d ps _ h hd => rd_bool Try.underlying4 h) h hd
theorem rd_sps (hS : SmallP S) {fuel : Nat} {cs : List Value} {d : DataW H} {ps : List MemPlace} (h : DataW.trod enc Try.prog w 0 spare held fuel 22 cs = some (d, ps)) (hd : S d) : ∃ l : List Sp, RD w cs [.sl (l.map Sp.cells)] :=
  rd_slice Sp.cells 2 (fun _ => rfl) cSp hS Try.underlying22 (fun n cs d ps _ h hd => rd_sp hS h hd) h hd

theorem tyLen (t : Ty) : t.cells.length = 9 := by rw [Ty.cells_eq]; rfl
theorem arLen (t : Ar) : t.cells.length = 11 := by rw [Ar.cells_eq]; rfl
theorem obLen (t : Ob) : t.cells.length = 12 := by rw [Ob.cells_eq]; rfl

theorem rd_ty (hS : SmallP S) : ∀ (fuel : Nat) (cs : List Value) (d : DataW H) (ps : List MemPlace), DataW.trod enc Try.prog w 0 spare held fuel 27 cs = some (d, ps) → S d → ∃ t : Ty, RD w cs t.cells := by
  intro fuel
  induction fuel using Nat.strongRecOn with
  | _ fuel ih =>
  intro cs d ps h hd
  obtain ⟨hl, n, rfl, hf⟩ := rd_struct hS Try.underlying27 h hd
  rw [cTy] at hl
  obtain ⟨d0, p0, h0, s0⟩ := hf 0 _ rfl
  obtain ⟨d1, p1, h1, s1⟩ := hf 1 _ rfl
  obtain ⟨d2, p2, h2, s2⟩ := hf 2 _ rfl
  obtain ⟨d3, p3, h3, s3⟩ := hf 3 _ rfl
  obtain ⟨d4, p4, h4, s4⟩ := hf 4 _ rfl
  obtain ⟨d5, p5, h5, s5⟩ := hf 5 _ rfl
  obtain ⟨d6, p6, h6, s6⟩ := hf 6 _ rfl
  obtain ⟨d7, p7, h7, s7⟩ := hf 7 _ rfl
  obtain ⟨d8, p8, h8, s8⟩ := hf 8 _ rfl
  simp only [List.getElem_toArray, List.getElem_cons_zero, List.getElem_cons_succ, cBool, cSps, cStrs, cArs, cObs] at h0 h1 h2 h3 h4 h5 h6 h7 h8
  obtain ⟨b0, r0⟩ := rd_bool Try.underlying4 h0
  obtain ⟨b1, r1⟩ := rd_bool Try.underlying4 h1
  obtain ⟨b2, r2⟩ := rd_bool Try.underlying4 h2
  obtain ⟨b3, r3⟩ := rd_bool Try.underlying4 h3
  obtain ⟨l4, r4⟩ := rd_sps hS h4 s4
  obtain ⟨b5, r5⟩ := rd_bool Try.underlying4 h5
  obtain ⟨l6, r6⟩ := rd_strs hS h6 s6
  obtain ⟨l7, r7⟩ := rd_slice Ar.cells 11 arLen cAr hS Try.underlying24 (fun m cs d ps hm h hd => by
    obtain ⟨hl, k, rfl, hf⟩ := rd_struct hS Try.underlying46 h hd
    rw [cAr] at hl
    obtain ⟨d0, p0, h0, s0⟩ := hf 0 _ rfl
    obtain ⟨d1, p1, h1, s1⟩ := hf 1 _ rfl
    obtain ⟨d2, p2, h2, s2⟩ := hf 2 _ rfl
    simp only [List.getElem_toArray, List.getElem_cons_zero, List.getElem_cons_succ, cTy, cInt] at h0 h1 h2
    obtain ⟨t, r0⟩ := ih k (by omega) _ _ _ h0 s0
    obtain ⟨a, r1⟩ := rd_int Try.underlying3 h1
    obtain ⟨b, r2⟩ := rd_int Try.underlying3 h2
    refine ⟨.mk t a b, ?_⟩
    rw [Ar.cells]
    exact RD.cons (o := 0) (n := 9) r0 (tyLen t) (RD.cons (o := 9) (n := 1) r1 rfl (RD.cons (o := 10) (n := 1) r2 rfl (RD.last (by omega))))) h7 s7
  obtain ⟨l8, r8⟩ := rd_slice Ob.cells 12 obLen cOb hS Try.underlying25 (fun m cs d ps hm h hd => by
    obtain ⟨hl, k, rfl, hf⟩ := rd_struct hS Try.underlying32 h hd
    rw [cOb] at hl
    obtain ⟨d0, p0, h0, s0⟩ := hf 0 _ rfl
    obtain ⟨d1, p1, h1, s1⟩ := hf 1 _ rfl
    obtain ⟨d2, p2, h2, s2⟩ := hf 2 _ rfl
    obtain ⟨d3, p3, h3, s3⟩ := hf 3 _ rfl
    simp only [List.getElem_toArray, List.getElem_cons_zero, List.getElem_cons_succ, cTy, cStrs, cTys, cBools] at h0 h1 h2 h3
    obtain ⟨a, r0⟩ := rd_strs hS h0 s0
    obtain ⟨b, r1⟩ := rd_slice Ty.cells 9 tyLen cTy hS Try.underlying29 (fun m' cs d ps hm' h hd => ih m' (by omega) _ _ _ h hd) h1 s1
    obtain ⟨c, r2⟩ := rd_bools hS h2 s2
    obtain ⟨t, r3⟩ := ih k (by omega) _ _ _ h3 s3
    refine ⟨.mk a b c t, ?_⟩
    rw [Ob.cells, Ty.cellsL_eq]
    have q3 := RD.cons (o := 3) (n := 9) r3 (tyLen t) (RD.last (by omega))
    rw [List.append_nil] at q3
    have q : RD w (cs.drop 0) ([D.sl (a.map strC)] ++ ([D.sl (b.map Ty.cells)] ++ ([D.sl (c.map boolC)] ++ t.cells))) := RD.cons (o := 0) (n := 1) r0 rfl (RD.cons (o := 1) (n := 1) r1 rfl (RD.cons (o := 2) (n := 1) r2 rfl q3))
    exact q) h8 s8
  refine ⟨.mk b0 b1 b2 b3 l4 b5 l6 l7 l8, ?_⟩
  rw [Ty.cells, Ar.cellsL_eq, Ob.cellsL_eq]
  exact RD.cons (o := 0) (n := 1) r0 rfl (RD.cons (o := 1) (n := 1) r1 rfl (RD.cons (o := 2) (n := 1) r2 rfl (RD.cons (o := 3) (n := 1) r3 rfl (RD.cons (o := 4) (n := 1) r4 rfl (RD.cons (o := 5) (n := 1) r5 rfl (RD.cons (o := 6) (n := 1) r6 rfl (RD.cons (o := 7) (n := 1) r7 rfl (RD.cons (o := 8) (n := 1) r8 rfl (RD.last (by omega)))))))))) 
end
end Go.Ab
