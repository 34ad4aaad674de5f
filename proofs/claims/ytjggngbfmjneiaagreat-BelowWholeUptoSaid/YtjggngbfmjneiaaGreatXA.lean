import Derived.Test.YtjggngbfmjneiaaGreatPD
import Derived.ChangeArms
import Derived.ProofKit
set_option linter.unusedVariables false
set_option linter.unusedSimpArgs false
namespace Go.Ab

/-! ### What is read of the world, as data -/
structure RD (w : World) (cs : List Value) (ds : List D) : Prop where
  len : cs.length = ds.length
  rep : ∀ j, j < ds.length → RepD w.cell? (cs.getD j undef) (ds.getD j default)

theorem RD.nil {w : World} : RD w [] [] := ⟨rfl, fun j h => by simp at h⟩
theorem RD.one {w : World} {v : Value} {x : D} (h : RepD w.cell? v x) : RD w [v] [x] := ⟨rfl, fun j hj => by
  obtain rfl : j = 0 := by simpa using hj
  exact h⟩
theorem RD.cons {w : World} {cs : List Value} {o n : Nat} {a b : List D} (h : RD w ((cs.drop o).take n) a) (ha : a.length = n) (k : RD w (cs.drop (o + n)) b) : RD w (cs.drop o) (a ++ b) := by
  have hl := h.len
  have kl := k.len
  simp only [List.length_take, List.length_drop] at hl kl
  refine ⟨by simp only [List.length_drop, List.length_append]; omega, fun j hj => ?_⟩
  simp only [List.length_append] at hj
  by_cases hja : j < a.length
  · have := h.rep j hja
    simp only [List.getD_eq_getElem?_getD, List.getElem?_take, List.getElem?_append, hja, if_true] at this ⊢
    rw [if_pos (by omega)] at this
    exact this
  · have := k.rep (j - a.length) (by omega)
    simp only [List.getD_eq_getElem?_getD, List.getElem?_drop, List.getElem?_append, hja, if_false] at this ⊢
    have e : o + n + (j - a.length) = o + j := by omega
    rw [e] at this
    exact this
theorem RD.last {w : World} {cs : List Value} {o : Nat} (h : cs.length ≤ o) : RD w (cs.drop o) [] := by
  rw [List.drop_eq_nil_of_le h]; exact .nil

/-- What is small. -/
structure SmallP {H : Type} (S : DataW H → Prop) : Prop where
  str : ∀ l, S (.lit (.string l)) → l.length ≤ 1048576
  len : ∀ es sp, S (.slice es sp) → es.length ≤ maxRows
  elem : ∀ es sp, S (.slice es sp) → ∀ e ∈ es, S e
  part : ∀ ps, S (.agg ps) → ∀ p ∈ ps, S p

section
variable {H : Type} {enc : TypeId × Value → H} {P : Program} {w : World} {spare : Nat → Bool} {held : Bool} {fuel : Nat} {t : TypeId} {cs : List Value} {d : DataW H} {ps : List MemPlace} {S : DataW H → Prop}

theorem rd_bool (ht : P.underlying t = some .bool) (h : DataW.trod enc P w 0 spare held fuel t cs = some (d, ps)) : ∃ b, RD w cs [.lit (.bool b)] := by
  obtain ⟨b, rfl, -⟩ := DataW.trod_bool ht h
  exact ⟨b, .one (.lit _ rfl)⟩
theorem rd_int {k : IntKind} (ht : P.underlying t = some (.int k)) (h : DataW.trod enc P w 0 spare held fuel t cs = some (d, ps)) : ∃ n, RD w cs [.lit (.int k n)] := by
  obtain ⟨n, rfl, -⟩ := DataW.trod_int ht h
  exact ⟨n, .one (.lit _ rfl)⟩
theorem rd_str (hS : SmallP S) (ht : P.underlying t = some .string) (h : DataW.trod enc P w 0 spare held fuel t cs = some (d, ps)) (hd : S d) : ∃ s : ByteArray, RD w cs [.lit (.string s)] ∧ s.size ≤ 1048576 := by
  obtain ⟨s, rfl, e, -⟩ := DataW.trod_string ht h
  have e1 : d = .lit (.string s.data.toList) := (Prod.mk.inj e).1
  subst e1
  have := hS.str _ hd
  have hs : s.size ≤ 1048576 := by simpa using this
  exact ⟨s, .one (.lit _ (by simp [litOk]; omega)), hs⟩

theorem rd_slice {α : Type} {e : TypeId} {p : α → Prop} (cells : α → List D) (sz : Nat) (hsz : ∀ a, (cells a).length = sz) (hc : P.cellsOf e = sz) (hS : SmallP S) (ht : P.underlying t = some (.slice e))
    (elem : ∀ n cs d ps, n < fuel → DataW.trod enc P w 0 spare held n e cs = some (d, ps) → S d → ∃ a, RD w cs (cells a) ∧ p a)
    (h : DataW.trod enc P w 0 spare held fuel t cs = some (d, ps)) (hd : S d) : ∃ l : List α, RD w cs [.sl (l.map cells)] ∧ ∀ a ∈ l, p a := by
  rcases DataW.trod_slice ht h with ⟨rfl, -⟩ | ⟨a, len, cap, elems, rest, n, rfl, rfl, hx, hb, hl, hm, hel, hget, -, -⟩
  · exact ⟨[], .one (repD_nil _), fun a h => by cases h⟩
  have e1 : d = .slice (elems.map (·.1)) (rest.map (·.1)) := (Prod.mk.inj hx).1
  subst e1
  have hlen := hS.len _ _ hd
  simp only [List.length_map] at hlen
  have hx : ∀ i, i < len → ∃ x, (RD w ((w.cells? 0 (a.add (i * sz)) sz).getD []) (cells x) ∧ p x) ∧ ∀ j, j < sz → w.cell? ((a.add (i * sz)).add j) = some (((w.cells? 0 (a.add (i * sz)) sz).getD []).getD j undef) := by
    intro i hi
    have h1 := hget i hi
    rw [hc] at h1
    have hi' : i < elems.length := by omega
    rw [List.getElem?_eq_getElem hi'] at h1
    obtain ⟨ci, h2, h3⟩ := Option.bind_eq_some_iff.1 h1
    obtain ⟨x, hr⟩ := elem n ci elems[i].1 elems[i].2 (by omega) h3 (hS.elem _ _ hd _ (List.mem_map.2 ⟨elems[i], List.getElem_mem hi', rfl⟩))
    rw [h2]
    refine ⟨x, hr, fun j hj => ?_⟩
    unfold World.cells? at h2
    split at h2
    · have := mapM_some_get h2 j j (by simp [hj])
      have hl2 := mapM_some_length h2
      simp only [List.length_range] at hl2
      rw [this]
      simp [List.getD_eq_getElem?_getD, hl2, hj]
    · cases h2
  have hnon : 0 < len → Nonempty α := fun h0 => ⟨(hx 0 h0).choose⟩
  let f : Fin len → α := fun i => (hx i.1 i.2).choose
  refine ⟨List.ofFn f, .one ?_, fun a ha => by
    obtain ⟨i, rfl⟩ := List.mem_ofFn.1 ha
    exact (hx i.1 i.2).choose_spec.1.2⟩
  have hrl : ((List.ofFn f).map cells).length = len := by simp
  have hrow : ∀ i (hi : i < len), (((List.ofFn f).map cells).getD i []) = cells (f ⟨i, hi⟩) := fun i hi => by
    simp [List.getD_eq_getElem?_getD, hi]
  have := RepD.sl (F := w.cell?) (some a) cap sz ((List.ofFn f).map cells) (fun k => (w.cell? (a.add k)).getD undef)
    (fun r hr => by obtain ⟨x, _, rfl⟩ := List.mem_map.1 hr; exact hsz x) (by rw [hrl]; omega) (by rw [hrl]; exact hl)
    (fun h0 => ⟨a, rfl, fun k hk => by
      rw [hrl] at hk
      have hs0 : 0 < sz := by
        rcases Nat.eq_zero_or_pos sz with e | e
        · rw [e, Nat.mul_zero] at hk; omega
        · exact e
      have hi : k / sz < len := Nat.div_lt_of_lt_mul (by rw [Nat.mul_comm]; exact hk)
      have := (hx (k / sz) hi).choose_spec.2 (k % sz) (Nat.mod_lt _ hs0)
      rw [Addr.add_add] at this
      have e2 : k / sz * sz + k % sz = k := by rw [Nat.mul_comm]; exact Nat.div_add_mod k sz
      rw [e2] at this
      rw [this]; rfl⟩)
    (fun i j hi hj => by
      rw [hrl] at hi
      have hsp := (hx i hi).choose_spec
      have h2 := hsp.2 j hj
      rw [Addr.add_add] at h2
      rw [h2, hrow i hi]
      exact hsp.1.1.rep j (by rw [hsz]; exact hj))
  rw [hrl] at this
  exact this

/-- The fields of a struct that is read. -/
theorem rd_struct {fs : Array Field} (hS : SmallP S) (ht : P.underlying t = some (.struct fs)) (h : DataW.trod enc P w 0 spare held fuel t cs = some (d, ps)) (hd : S d) :
    cs.length = P.cellsOf t ∧ ∃ n, fuel = n + 1 ∧ ∀ (i : Nat) (f : Field), fs[i]? = some f → ∃ d' ps', DataW.trod enc P w 0 spare held n f.type ((cs.drop f.offset).take (P.cellsOf f.type)) = some (d', ps') ∧ S d' := by
  obtain ⟨xs, n, hf, hx, hl, hlx, hget⟩ := DataW.trod_struct ht h
  have e1 : d = .agg (xs.map (·.1)) := (Prod.mk.inj hx).1
  subst e1
  refine ⟨hl, n, hf, fun i f hfi => ?_⟩
  have hi : i < xs.length := by rw [hlx]; exact (Array.getElem?_eq_some_iff.1 hfi).1
  have := hget i f hfi
  rw [List.getElem?_eq_getElem hi] at this
  exact ⟨xs[i].1, xs[i].2, this, hS.part _ hd _ (List.mem_map.2 ⟨xs[i], List.getElem_mem hi, rfl⟩)⟩
end
end Go.Ab
