import Derived.Test.YtjggngbfmjneiaaDoorAbE
import Derived.Laws.Tables
import Derived.Laws.Strings
set_option linter.unusedVariables false
set_option linter.unusedSimpArgs false
namespace Go.Ab
section
variable {P : Program}

/-! ### Lists read -/
def rowsD : D → Option (List (List D))
  | .sl rows => some rows
  | .lit (.slice none 0 0) => some []
  | _ => none
def rowsOf : V → Option (List (List D))
  | .d x => rowsD x
  | .gs _ rows => some rows
  | .xs rows => some rows
  | _ => none

theorem repD_nil (F : Mem) : RepD F (.slice none 0 0) (.sl []) :=
  .sl none 0 0 [] (fun _ => undef) (by simp) (by simp [maxRows]) (by simp) (by simp) (by simp)

theorem rowsD_sound {F : Mem} {v : Value} {x : D} {rows : List (List D)} (h : RepD F v x) (hx : rowsD x = some rows) : RepD F v (.sl rows) := by
  unfold rowsD at hx
  split at hx
  · cases hx; exact h
  · cases hx; cases h; exact repD_nil F
  · cases hx

theorem rowsOf_sound {F : Mem} {M : Pls} {v : Value} {x : V} {rows : List (List D)} (h : Rep F M v x) (hx : rowsOf x = some rows) : RepD F v (.sl rows) := by
  cases h with
  | d h => exact rowsD_sound h hx
  | gs h => simp [rowsOf] at hx; subst hx; exact h
  | xs h => simp [rowsOf] at hx; subst hx; exact h
  | _ => simp [rowsOf] at hx

def lenOf : V → Option Nat
  | .hs _ _ n => some n
  | x => (rowsOf x).map List.length

theorem lenOf_sound {F : Mem} {M : Pls} {v : Value} {x : V} {n : Nat} (h : Rep F M v x) (hx : lenOf x = some n) : ∃ a c, v = .slice a n c ∧ n ≤ maxLen := by
  by_cases hh : ∃ i o m, x = .hs i o m
  · obtain ⟨i, o, m, rfl⟩ := hh
    simp [lenOf] at hx; subst hx
    cases h with
    | hs off len cap h hl => exact ⟨_, _, rfl, hl⟩
  · have : lenOf x = (rowsOf x).map List.length := by
      unfold lenOf
      split
      · exact absurd ⟨_, _, _, rfl⟩ hh
      · rfl
    rw [this] at hx
    cases hr : rowsOf x with
    | none => simp [hr] at hx
    | some rows =>
      simp [hr] at hx
      subst hx
      cases rowsOf_sound h hr with
      | sl a cap sz rows vals hrow hlen hcap ha hr => exact ⟨_, _, rfl, by simp only [maxRows] at hlen; simp only [maxLen]; omega⟩

theorem Yp.lenSlice {o : Oper} {g : Nat → V} {H : List O} {x : Operand} {t e : TypeId} {n : Nat} (ho : o.op = .call { callee := .builtin .len, args := #[x], argTypes := #[t] })
    (ht : P.underlying t = some (.slice e)) (hx : lenOf (evO g x) = some n) : Yp P o g H (.d (.lit (.int .i64 n))) := by
  intro F M w ρ hi hr
  obtain ⟨a, c, hv, _⟩ := lenOf_sound (hr x) hx
  refine ⟨_, ?_, .lit _⟩
  simp [execOp, ho, resolve, invoke, builtin, Builtin.len_, run_underlying ht, hv, goInt]

theorem Yp.lenStr {o : Oper} {g : Nat → V} {H : List O} {x : Operand} {t : TypeId} {s : ByteArray} (ho : o.op = .call { callee := .builtin .len, args := #[x], argTypes := #[t] })
    (ht : P.underlying t = some .string) (hx : evO g x = .d (.lit (.string s))) : Yp P o g H (.d (.lit (.int .i64 s.size))) := by
  intro F M w ρ hi hr
  have h := hr x
  rw [hx] at h
  refine ⟨_, ?_, .lit _⟩
  simp [execOp, ho, resolve, invoke, builtin, Builtin.len_, run_underlying ht, h.lit_inv, goInt]

theorem getD_row {rows : List (List D)} {sz i : Nat} (hrow : ∀ r ∈ rows, r.length = sz) (hi : i < rows.length) : (rows.getD i []).length = sz := by
  rw [List.getD_eq_getElem?_getD, List.getElem?_eq_getElem hi]
  exact hrow _ (List.getElem_mem hi)

theorem row_ptr {F : Mem} {M : Pls} {a : Option Addr} {cap : Nat} {rows : List (List D)} {i n : Nat} (h : RepD F (.slice a rows.length cap) (.sl rows)) (hi : i < rows.length)
    (hn : (rows.getD i []).length = n) (hn0 : 0 < n) : ∃ ad, a = some ad ∧ Rep F M (.pointer (some (ad.add (i * n)))) (.rp (rows.getD i [])) := by
  generalize hv : Value.slice a rows.length cap = v at h
  cases h with
  | sl a' cap' sz _ vals hrow hlen hcap ha hr =>
    injection hv with e1 e2 e3
    subst e1
    have hsz : sz = n := by rw [← getD_row hrow hi]; exact hn
    subst hsz
    obtain ⟨ad, rfl, hf⟩ := ha (Nat.mul_pos (by omega) hn0)
    refine ⟨ad, rfl, .rp _ _ (fun j => vals (i * sz + j)) (fun j hj => ?_) (fun j hj => hr i j hi (by rw [← hn]; exact hj))⟩
    rw [add_add]
    refine hf _ ?_
    rw [hn] at hj
    calc i * sz + j < i * sz + sz := by omega
      _ = (i + 1) * sz := by rw [Nat.add_mul]; simp
      _ ≤ rows.length * sz := Nat.mul_le_mul_right _ hi

theorem Yp.indexAddr {o : Oper} {g : Nat → V} {H : List O} {x ix : Operand} {t e : TypeId} {agg : Bool} {n : Nat} {rows : List (List D)} {k : IntKind} {i : Int}
    (ho : o.op = .indexAddr t x ix) (ht : P.underlying t = some (.slice e)) (he : TyIs P e agg n) (hx : rowsOf (evO g x) = some rows) (hix : evO g ix = .d (.lit (.int k i)))
    (h0 : 0 ≤ i) (h1 : i < rows.length) (hn : (rows.getD i.toNat []).length = n) (hn0 : 0 < n) : Yp P o g H (.rp (rows.getD i.toNat [])) := by
  intro F M w ρ hi hr
  have h2 := hr ix
  rw [hix] at h2
  have h3 := rowsOf_sound (hr x) hx
  generalize hv : ρ x = v at h3
  have h4 := h3
  cases h4 with
  | sl a cap sz _ vals hrow hlen hcap ha hrr =>
    obtain ⟨ad, rfl, hrep⟩ := row_ptr (M := M) h3 (i := i.toNat) (by omega) hn hn0
    refine ⟨_, ?_, hrep⟩
    have hs := tyIs_size he w
    simp [execOp, ho, Instr.indexAt, h2.lit_inv, asIntOf, run_underlying ht, hv, h0, h1, hs]

/-- The same, an array of the call's own. -/
theorem Yp.indexAddrOwn {o : Oper} {g : Nat → V} {H : List O} {x ix : Operand} {t e : TypeId} {agg : Bool} {n id off len : Nat} {k : IntKind} {i : Int}
    (ho : o.op = .indexAddr t x ix) (ht : P.underlying t = some (.slice e)) (he : TyIs P e agg n) (hx : evO g x = .hs id off len) (hix : evO g ix = .d (.lit (.int k i)))
    (h0 : 0 ≤ i) (h1 : i < len) : Yp P o g H (.bx id (off + i.toNat * n)) := by
  intro F M w ρ hi hr
  have h2 := hr ix
  rw [hix] at h2
  have h3 := hr x
  rw [hx] at h3
  generalize hv : ρ x = v at h3
  cases h3 with
  | hs off len cap h hl =>
    refine ⟨_, ?_, .bx _ h⟩
    have hs := tyIs_size he w
    simp [execOp, ho, Instr.indexAt, h2.lit_inv, asIntOf, run_underlying ht, hv, h0, h1, hs, add_lit]

theorem Yp.indexStr {o : Oper} {g : Nat → V} {H : List O} {x ix : Operand} {t : TypeId} {s : ByteArray} {k : IntKind} {i : Int} (ho : o.op = .index t x ix) (ht : P.underlying t = some .string)
    (hx : evO g x = .d (.lit (.string s))) (hix : evO g ix = .d (.lit (.int k i))) (h0 : 0 ≤ i) (h1 : i.toNat < s.size) : Yp P o g H (.d (.lit (.int .u8 (s[i.toNat]'h1).toNat))) := by
  intro F M w ρ hi hr
  have h2 := hr ix
  rw [hix] at h2
  have h3 := hr x
  rw [hx] at h3
  refine ⟨_, ?_, .lit _⟩
  simp [execOp, ho, Instr.index, h2.lit_inv, h3.lit_inv, asIntOf, run_underlying ht, h0, h1]

def partV (agg : Bool) (n : Nat) (cs : List V) (off : Nat) : Option V :=
  if agg then some (.agg ((cs.drop off).take n)) else cs[off]?

theorem part_sound {F : Mem} {M : Pls} {w : World} {t : TypeId} {agg : Bool} {n : Nat} {cs : Array Value} {cells : List V} {off : Nat} {r : V} (ht : TyIs P t agg n) (hs : cs.size = cells.length)
    (hr : ∀ j, j < cells.length → Rep F M (cs.getD j undef) (cells.getD j .any)) (h : partV agg n cells off = some r) (hle : off + n ≤ cells.length) : ∃ u, (part t cs off).run P w = .ok u w ∧ Rep F M u r := by
  unfold partV at h
  cases agg with
  | true =>
    simp at h; subst h
    refine ⟨.agg (cs.extract off (off + n)), ?_, .agg _ _ (by simp; omega) fun j hj => ?_⟩
    · simp [part, tyIs_agg ht w, tyIs_size ht w]
    · simp at hj
      have := hr (off + j) (by omega)
      have e1 : (cs.extract off (off + n)).getD j undef = cs.getD (off + j) undef := by
        simp [Array.getD_eq_getD_getElem?, Array.getElem?_extract, show j < min (off + n) cs.size - off by omega, show off + j < cs.size by omega]
      have e2 : ((cells.drop off).take n).getD j .any = cells.getD (off + j) .any := by
        simp [List.getD_eq_getElem?_getD, List.getElem?_take, show j < n by omega]
      rw [e1, e2]; exact this
  | false =>
    simp at h
    have hlt := (List.getElem?_eq_some_iff.1 h).1
    have := hr off hlt
    rw [List.getD_eq_getElem?_getD, h] at this
    refine ⟨cs.getD off undef, ?_, this⟩
    have hlt' : off < cs.size := by rw [hs]; exact hlt
    simp [part, tyIs_agg ht w, hlt', Array.getD_eq_getD_getElem?]

theorem Yp.field {o : Oper} {g : Nat → V} {H : List O} {x : Operand} {t : TypeId} {f : Nat} {fs : Array Field} {fd : Field} {agg : Bool} {n : Nat} {cells : List V} {r : V} (ho : o.op = .field t x f)
    (ht : P.underlying t = some (.struct fs)) (hf : fs[f]? = some fd) (hft : TyIs P fd.type agg n) (hx : evO g x = .agg cells) (h : partV agg n cells fd.offset = some r) (hle : fd.offset + n ≤ cells.length) : Yp P o g H r := by
  intro F M w ρ hi hr
  have h1 := hr x
  rw [hx] at h1
  generalize hv : ρ x = v at h1
  cases h1 with
  | agg cs _ hs hrr =>
    obtain ⟨u, hrun, hu⟩ := part_sound (P := P) (w := w) hft hs hrr h hle
    refine ⟨u, ?_, hu⟩
    simp [execOp, ho, Instr.field, run_underlying ht, hf, hv, asAgg, hrun]

theorem Yp.indexArr {o : Oper} {g : Nat → V} {H : List O} {x ix : Operand} {t e : TypeId} {len : Nat} {agg : Bool} {n : Nat} {cells : List V} {r : V} {k : IntKind} {i : Int} (ho : o.op = .index t x ix)
    (ht : P.underlying t = some (.array len e)) (he : TyIs P e agg n) (hx : evO g x = .agg cells) (hix : evO g ix = .d (.lit (.int k i))) (h0 : 0 ≤ i) (h1 : i < len)
    (h : partV agg n cells (i.toNat * n) = some r) (hle : i.toNat * n + n ≤ cells.length) : Yp P o g H r := by
  intro F M w ρ hi hr
  have h1' := hr x
  rw [hx] at h1'
  have h2 := hr ix
  rw [hix] at h2
  generalize hv : ρ x = v at h1'
  cases h1' with
  | agg cs _ hs hrr =>
    obtain ⟨u, hrun, hu⟩ := part_sound (P := P) (w := w) he hs hrr h hle
    refine ⟨u, ?_, hu⟩
    simp [execOp, ho, Instr.index, h2.lit_inv, asIntOf, run_underlying ht, hv, h0, h1, tyIs_size he w, hrun]

theorem Yp.fieldAddrBx {o : Oper} {g : Nat → V} {H : List O} {x : Operand} {t : TypeId} {f : Nat} {fs : Array Field} {fd : Field} {agg : Bool} {n id off : Nat} (ho : o.op = .fieldAddr t x f)
    (ht : P.underlying t = some (.struct fs)) (hf : fs[f]? = some fd) (hft : TyIs P fd.type agg n) (hn : 0 < n) (hx : evO g x = .bx id off) : Yp P o g H (.bx id (off + fd.offset)) := by
  intro F M w ρ hi hr
  have h1 := hr x
  rw [hx] at h1
  generalize hv : ρ x = v at h1
  cases h1 with
  | bx off h =>
    refine ⟨_, ?_, .bx _ h⟩
    simp [execOp, ho, Instr.fieldAt, Instr.sureAddr, run_underlying ht, hf, hv, fieldPlace, tyIs_size hft w, Nat.ne_of_gt hn, add_lit]

theorem rp_drop {F : Mem} {M : Pls} {a : Addr} {cells : List D} {k : Nat} (h : Rep F M (.pointer (some a)) (.rp cells)) : Rep F M (.pointer (some (a.add k))) (.rp (cells.drop k)) := by
  cases h with
  | rp _ _ vals hf hr =>
    refine .rp _ _ (fun j => vals (k + j)) (fun j hj => ?_) (fun j hj => ?_)
    · rw [add_add]; exact hf _ (by simp at hj; omega)
    · have := hr (k + j) (by simp at hj; omega)
      simpa [List.getD_eq_getElem?_getD] using this

theorem Yp.fieldAddrRp {o : Oper} {g : Nat → V} {H : List O} {x : Operand} {t : TypeId} {f : Nat} {fs : Array Field} {fd : Field} {agg : Bool} {n : Nat} {cells : List D} (ho : o.op = .fieldAddr t x f)
    (ht : P.underlying t = some (.struct fs)) (hf : fs[f]? = some fd) (hft : TyIs P fd.type agg n) (hn : 0 < n) (hx : evO g x = .rp cells) : Yp P o g H (.rp (cells.drop fd.offset)) := by
  intro F M w ρ hi hr
  have h1 := hr x
  rw [hx] at h1
  generalize hv : ρ x = v at h1
  have h2 := h1
  cases h2 with
  | rp a _ vals hfF hrr =>
    refine ⟨_, ?_, rp_drop h1⟩
    simp [execOp, ho, Instr.fieldAt, Instr.sureAddr, run_underlying ht, hf, hv, fieldPlace, tyIs_size hft w, Nat.ne_of_gt hn]

theorem Yp.nilCheck {o : Oper} {g : Nat → V} {H : List O} {x : Operand} (ho : o.op = .nilCheck x) (hx : (∃ i k, evO g x = .bx i k) ∨ (∃ c, evO g x = .rp c) ∨ (∃ k a c, evO g x = .fn (.func k) a c)) : Yp P o g H (evO g x) := by
  intro F M w ρ hi hr
  have h1 := hr x
  refine ⟨ρ x, ?_, h1⟩
  rcases hx with ⟨i, k, e⟩ | ⟨c, e⟩ | ⟨k, a, c, e⟩ <;> rw [e] at h1 <;> generalize hv : ρ x = v at h1 <;> cases h1 <;> simp [execOp, ho, hv]

theorem Yp.makeFunc {o : Oper} {g : Nat → V} {H : List O} {f : Fn} {a c : Array Operand} (ho : o.op = .makeFunc f a c) : Yp P o g H (.fn f (a.toList.map (evO g)) (c.toList.map (evO g))) := by
  intro F M w ρ hi hr
  refine ⟨.func f (a.map ρ) (c.map ρ), by simp [execOp, ho, Instr.makeFunc], .fn f _ _ _ _ (by simp) (by simp) (fun j hj => ?_) (fun j hj => ?_)⟩
  · simp at hj
    simp [List.getD_eq_getElem?_getD, Array.getD_eq_getD_getElem?, hj]
    exact hr _
  · simp at hj
    simp [List.getD_eq_getElem?_getD, Array.getD_eq_getD_getElem?, hj]
    exact hr _
end
end Go.Ab
