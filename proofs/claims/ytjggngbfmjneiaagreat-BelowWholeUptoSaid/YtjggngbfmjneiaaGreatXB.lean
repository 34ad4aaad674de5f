import Derived.Test.YtjggngbfmjneiaaGreatXA
import Derived.Test.YtjggngbfmjneiaaGreatTab
import Derived.Test.YtjggngbfmjneiaaGreatRows
import Derived.Test.YtjggngbfmjneiaaGreatPZm
set_option linter.unusedVariables false
set_option linter.unusedSimpArgs false
namespace Go.Ab
open Go.Proofs

theorem cBool : Tryz.prog.cellsOf 4 = 1 := by kernel_rfl
theorem cInt : Tryz.prog.cellsOf 3 = 1 := by kernel_rfl
theorem cStr : Tryz.prog.cellsOf 9 = 1 := by kernel_rfl
theorem cSp : Tryz.prog.cellsOf 49 = 2 := by kernel_rfl
theorem cAr : Tryz.prog.cellsOf 40 = 11 := by kernel_rfl
theorem cOb : Tryz.prog.cellsOf 44 = 12 := by kernel_rfl
theorem cTy : Tryz.prog.cellsOf 27 = 9 := by kernel_rfl
theorem cSps : Tryz.prog.cellsOf 22 = 1 := by kernel_rfl
theorem cStrs : Tryz.prog.cellsOf 23 = 1 := by kernel_rfl
theorem cArs : Tryz.prog.cellsOf 24 = 1 := by kernel_rfl
theorem cObs : Tryz.prog.cellsOf 25 = 1 := by kernel_rfl
theorem cTys : Tryz.prog.cellsOf 41 = 1 := by kernel_rfl
theorem cBools : Tryz.prog.cellsOf 42 = 1 := by kernel_rfl

section
variable {H : Type} {enc : TypeId × Value → H} {w : World} {spare : Nat → Bool} {held : Bool} {S : DataW H → Prop}

theorem rd_sp (hS : SmallP S) {fuel : Nat} {cs : List Value} {d : DataW H} {ps : List MemPlace} (h : DataW.trod enc Tryz.prog w 0 spare held fuel 49 cs = some (d, ps)) (hd : S d) : ∃ s : Sp, RD w cs s.cells ∧ (s.low.size ≤ smB ∧ s.high.size ≤ smB) := by
  obtain ⟨hl, n, rfl, hf⟩ := rd_struct hS Tryz.underlying49 h hd
  rw [cSp] at hl
  obtain ⟨d0, p0, h0, s0⟩ := hf 0 _ rfl
  obtain ⟨d1, p1, h1, s1⟩ := hf 1 _ rfl
  simp only [List.getElem_toArray, List.getElem_cons_zero, List.getElem_cons_succ, cStr] at h0 h1
  obtain ⟨a, r0, z0⟩ := rd_str hS Tryz.underlying9 h0 s0
  obtain ⟨b, r1, z1⟩ := rd_str hS Tryz.underlying9 h1 s1
  exact ⟨⟨a, b⟩, RD.cons (o := 0) (n := 1) r0 rfl (RD.cons (o := 1) (n := 1) r1 rfl (RD.last (by omega))), z0, z1⟩

theorem rd_strs (hS : SmallP S) {fuel : Nat} {cs : List Value} {d : DataW H} {ps : List MemPlace} (h : DataW.trod enc Tryz.prog w 0 spare held fuel 23 cs = some (d, ps)) (hd : S d) : ∃ l : List ByteArray, RD w cs [.sl (l.map strC)] ∧ ∀ s ∈ l, s.size ≤ smB :=
  rd_slice strC 1 (fun _ => rfl) cStr hS Tryz.underlying23 (fun n cs d ps _ h hd => rd_str hS Tryz.underlying9 h hd) h hd
theorem rd_bools (hS : SmallP S) {fuel : Nat} {cs : List Value} {d : DataW H} {ps : List MemPlace} (h : DataW.trod enc Tryz.prog w 0 spare held fuel 42 cs = some (d, ps)) (hd : S d) : ∃ l : List Bool, RD w cs [.sl (l.map boolC)] ∧ ∀ s ∈ l, True :=
  rd_slice boolC 1 (fun _ => rfl) cBool hS Tryz.underlying42 (fun n cs d ps _ h hd => by obtain ⟨b, r⟩ := rd_bool Tryz.underlying4 h; exact ⟨b, r, trivial⟩) h hd
theorem rd_sps (hS : SmallP S) {fuel : Nat} {cs : List Value} {d : DataW H} {ps : List MemPlace} (h : DataW.trod enc Tryz.prog w 0 spare held fuel 22 cs = some (d, ps)) (hd : S d) : ∃ l : List Sp, RD w cs [.sl (l.map Sp.cells)] ∧ ∀ s ∈ l, s.low.size ≤ smB ∧ s.high.size ≤ smB :=
  rd_slice Sp.cells 2 (fun _ => rfl) cSp hS Tryz.underlying22 (fun n cs d ps _ h hd => rd_sp hS h hd) h hd

theorem tyLen (t : Ty) : t.cells.length = 9 := by rw [Ty.cells_eq]; rfl
theorem arLen (t : Ar) : t.cells.length = 11 := by rw [Ar.cells_eq]; rfl
theorem obLen (t : Ob) : t.cells.length = 12 := by rw [Ob.cells_eq]; rfl

theorem rd_ty (hS : SmallP S) : ∀ (fuel : Nat) (cs : List Value) (d : DataW H) (ps : List MemPlace), DataW.trod enc Tryz.prog w 0 spare held fuel 27 cs = some (d, ps) → S d → ∃ t : Ty, RD w cs t.cells ∧ SmT t := by
  intro fuel
  induction fuel using Nat.strongRecOn with
  | _ fuel ih =>
  intro cs d ps h hd
  obtain ⟨hl, n, rfl, hf⟩ := rd_struct hS Tryz.underlying27 h hd
  rw [cTy] at hl
  obtain ⟨d0, p0, h0, s0⟩ := hf 0 _ rfl
  obtain ⟨d1, p1, h1, s1⟩ := hf 1 _ rfl
  obtain ⟨d2, p2, h2, s2⟩ := hf 2 _ rfl
  obtain ⟨d3, p3, h3, s3⟩ := hf 3 _ rfl
  obtain ⟨d4, p4, h4, s4⟩ := hf 4 _ rfl
  obtain ⟨d5, p5, h5, s5⟩ := hf 5 _ rfl
  obtain ⟨d6, p6, h6, s6⟩ := hf 6 _ rfl
  obtain ⟨d7, p7, h7, s7⟩ := hf 7 _ rfl
  obtain ⟨d8, p8, h8, s8⟩ := hf 8 _ rfl
  simp only [List.getElem_toArray, List.getElem_cons_zero, List.getElem_cons_succ, cBool, cSps, cStrs, cArs, cObs] at h0 h1 h2 h3 h4 h5 h6 h7 h8
  obtain ⟨b0, r0⟩ := rd_bool Tryz.underlying4 h0
  obtain ⟨b1, r1⟩ := rd_bool Tryz.underlying4 h1
  obtain ⟨b2, r2⟩ := rd_bool Tryz.underlying4 h2
  obtain ⟨b3, r3⟩ := rd_bool Tryz.underlying4 h3
  obtain ⟨l4, r4, z4⟩ := rd_sps hS h4 s4
  obtain ⟨b5, r5⟩ := rd_bool Tryz.underlying4 h5
  obtain ⟨l6, r6, z6⟩ := rd_strs hS h6 s6
  obtain ⟨l7, r7, z7⟩ := rd_slice (p := fun a : Ar => SmT a.item) Ar.cells 11 arLen cAr hS Tryz.underlying24 (fun m cs d ps hm h hd => by
    obtain ⟨hl, k, rfl, hf⟩ := rd_struct hS Tryz.underlying40 h hd
    rw [cAr] at hl
    obtain ⟨d0, p0, h0, s0⟩ := hf 0 _ rfl
    obtain ⟨d1, p1, h1, s1⟩ := hf 1 _ rfl
    obtain ⟨d2, p2, h2, s2⟩ := hf 2 _ rfl
    simp only [List.getElem_toArray, List.getElem_cons_zero, List.getElem_cons_succ, cTy, cInt] at h0 h1 h2
    obtain ⟨t, r0, zt⟩ := ih k (by omega) _ _ _ h0 s0
    obtain ⟨a, r1⟩ := rd_int Tryz.underlying3 h1
    obtain ⟨b, r2⟩ := rd_int Tryz.underlying3 h2
    refine ⟨.mk t a b, ?_, zt⟩
    rw [Ar.cells]
    exact RD.cons (o := 0) (n := 9) r0 (tyLen t) (RD.cons (o := 9) (n := 1) r1 rfl (RD.cons (o := 10) (n := 1) r2 rfl (RD.last (by omega))))) h7 s7
  obtain ⟨l8, r8, z8⟩ := rd_slice (p := fun o : Ob => (∀ n ∈ o.names, n.size ≤ smB) ∧ SmT o.rest ∧ ∀ f ∈ o.fields, SmT f) Ob.cells 12 obLen cOb hS Tryz.underlying25 (fun m cs d ps hm h hd => by
    obtain ⟨hl, k, rfl, hf⟩ := rd_struct hS Tryz.underlying44 h hd
    rw [cOb] at hl
    obtain ⟨d0, p0, h0, s0⟩ := hf 0 _ rfl
    obtain ⟨d1, p1, h1, s1⟩ := hf 1 _ rfl
    obtain ⟨d2, p2, h2, s2⟩ := hf 2 _ rfl
    obtain ⟨d3, p3, h3, s3⟩ := hf 3 _ rfl
    simp only [List.getElem_toArray, List.getElem_cons_zero, List.getElem_cons_succ, cTy, cStrs, cTys, cBools] at h0 h1 h2 h3
    obtain ⟨a, r0, za⟩ := rd_strs hS h0 s0
    obtain ⟨b, r1, zb⟩ := rd_slice (p := SmT) Ty.cells 9 tyLen cTy hS Tryz.underlying41 (fun m' cs d ps hm' h hd => ih m' (by omega) _ _ _ h hd) h1 s1
    obtain ⟨c, r2, _⟩ := rd_bools hS h2 s2
    obtain ⟨t, r3, zt⟩ := ih k (by omega) _ _ _ h3 s3
    refine ⟨.mk a b c t, ?_, za, zt, zb⟩
    rw [Ob.cells, Ty.cellsL_eq]
    have q3 := RD.cons (o := 3) (n := 9) r3 (tyLen t) (RD.last (by omega))
    rw [List.append_nil] at q3
    have q : RD w (cs.drop 0) ([D.sl (a.map strC)] ++ ([D.sl (b.map Ty.cells)] ++ ([D.sl (c.map boolC)] ++ t.cells))) := RD.cons (o := 0) (n := 1) r0 rfl (RD.cons (o := 1) (n := 1) r1 rfl (RD.cons (o := 2) (n := 1) r2 rfl q3))
    exact q) h8 s8
  refine ⟨.mk b0 b1 b2 b3 l4 b5 l6 l7 l8, ?_, .mk z4 z6 z7 (fun o ho => (z8 o ho).1) (fun o ho => (z8 o ho).2.1) (fun o ho => (z8 o ho).2.2)⟩
  rw [Ty.cells, Ar.cellsL_eq, Ob.cellsL_eq]
  exact RD.cons (o := 0) (n := 1) r0 rfl (RD.cons (o := 1) (n := 1) r1 rfl (RD.cons (o := 2) (n := 1) r2 rfl (RD.cons (o := 3) (n := 1) r3 rfl (RD.cons (o := 4) (n := 1) r4 rfl (RD.cons (o := 5) (n := 1) r5 rfl (RD.cons (o := 6) (n := 1) r6 rfl (RD.cons (o := 7) (n := 1) r7 rfl (RD.cons (o := 8) (n := 1) r8 rfl (RD.last (by omega)))))))))) 
end
end Go.Ab
