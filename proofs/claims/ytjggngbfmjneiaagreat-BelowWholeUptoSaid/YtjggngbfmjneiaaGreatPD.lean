import Derived.Test.YtjggngbfmjneiaaGreatPC
set_option linter.unusedVariables false
set_option linter.unusedSimpArgs false
namespace Go.Ab

/-! ### All that is read is bounded -/
def Deep (t : Ty) : Prop := ∀ x ∈ t.lay, x.Bd
theorem deep_of {t : Ty} (h : (vTy t).Bd) : Deep t := by
  intro x hx
  obtain ⟨j, hj, rfl⟩ := List.mem_iff_getElem.1 hx
  refine h j _ ?_
  show (t.lay.map V.d)[j]? = _
  simp [hj]
theorem deep_arr {t : Ty} (h : Deep t) {a : Ar} (ha : a ∈ t.arrays) : Deep a.item := by
  have h4 : (D.sl (t.arrays.map Ar.cells)).Bd := h _ (by simp [Ty.lay])
  have h5 := h4.row (List.mem_map.2 ⟨a, ha, Ar.cells_eq a⟩)
  intro x hx
  exact h5 x (show x ∈ a.item.lay ++ [D.lit (.int .i64 a.min), D.lit (.int .i64 a.max)] from List.mem_append_left _ hx)
theorem deep_obj {t : Ty} (h : Deep t) {o : Ob} (ho : o ∈ t.objects) : ∀ x ∈ o.lay, x.Bd := by
  have h4 : (D.sl (t.objects.map Ob.cells)).Bd := h _ (by simp [Ty.lay])
  exact h4.row (List.mem_map.2 ⟨o, ho, Ob.cells_eq o⟩)
theorem deep_rest {o : Ob} (h : ∀ x ∈ o.lay, x.Bd) : Deep o.rest := by
  intro x hx
  exact h x (show x ∈ [D.sl (o.names.map strC), D.sl (o.fields.map Ty.cells), D.sl (o.must.map boolC)] ++ o.rest.lay from List.mem_append_right _ hx)
theorem deep_field {o : Ob} (h : ∀ x ∈ o.lay, x.Bd) {f : Ty} (hf : f ∈ o.fields) : Deep f := by
  have h4 : (D.sl (o.fields.map Ty.cells)).Bd := h _ (by simp [Ob.lay])
  exact h4.row (List.mem_map.2 ⟨f, hf, Ty.cells_eq f⟩)
theorem Deep.bd {t : Ty} (h : Deep t) : t.Bd := by
  refine ty_bd fun j x hx => h x ?_
  have hx : (t.lay.map V.d)[j]? = some (V.d x) := hx
  rw [List.getElem?_map] at hx
  cases he : t.lay[j]? with
  | none => rw [he] at hx; cases hx
  | some y => rw [he] at hx; cases hx; exact List.mem_of_getElem? he

/-! ### How many parts a type has, up to a bound -/
mutual
def Ty.pt : Ty → Int → Int
  | .mk _ _ _ _ nums _ texts arrays objects, m => Ob.ptL objects (Ar.ptL arrays (1 + texts.length + nums.length) m) m
def Ar.pt : Ar → Int → Int
  | .mk item _ _, m => Ty.pt item m
def Ob.pt : Ob → Int → Int → Int
  | .mk names fields must rest, n, m => Ty.ptL fields (n + names.length + must.length + Ty.pt rest (m - n)) m
def Ar.ptL : List Ar → Int → Int → Int
  | [], n, _ => n
  | a :: l, n, m => if n ≤ m then Ar.ptL l (n + Ar.pt a (m - n)) m else n
def Ob.ptL : List Ob → Int → Int → Int
  | [], n, _ => n
  | o :: l, n, m => if n ≤ m then Ob.ptL l (Ob.pt o n m) m else n
def Ty.ptL : List Ty → Int → Int → Int
  | [], n, _ => n
  | t :: l, n, m => if n ≤ m then Ty.ptL l (n + Ty.pt t (m - n)) m else n
end
theorem Ty.pt_eq (t : Ty) (m : Int) : t.pt m = Ob.ptL t.objects (Ar.ptL t.arrays (1 + t.texts.length + t.nums.length) m) m := by cases t; simp [Ty.pt, Ty.objects, Ty.arrays, Ty.texts, Ty.nums]
theorem Ar.pt_eq (a : Ar) (m : Int) : a.pt m = a.item.pt m := by cases a; simp [Ar.pt, Ar.item]
theorem Ob.pt_eq (o : Ob) (n m : Int) : o.pt n m = Ty.ptL o.fields (n + o.names.length + o.must.length + o.rest.pt (m - n)) m := by cases o; simp [Ob.pt, Ob.names, Ob.must, Ob.rest, Ob.fields]

def capB (m : Int) : Int := (m + 1) * 562949953421312
/-- What is known of the number of parts. -/
structure PtOk (t : Ty) (m : Int) : Prop where
  one : 1 ≤ t.pt m
  cap : t.pt m ≤ capB m
  high : t.pt m ≤ m → t.height + 1 ≤ t.pt m

theorem ptAr {m : Int} (h0 : 0 ≤ m) (hm : m ≤ 2000) : ∀ (l : List Ar) (n : Int), (∀ a ∈ l, ∀ k, 0 ≤ k → k ≤ 2000 → PtOk a.item k) → 1 ≤ n → n ≤ capB m →
    n ≤ Ar.ptL l n m ∧ Ar.ptL l n m ≤ capB m ∧ (Ar.ptL l n m ≤ m → ∀ a ∈ l, a.item.height + 1 + n ≤ Ar.ptL l n m)
  | [], n, _, h1, h2 => by simp [Ar.ptL, h2]
  | a :: l, n, h, h1, h2 => by
    rw [Ar.ptL]
    by_cases hn : n ≤ m
    · rw [if_pos hn, Ar.pt_eq]
      have ha := h a (List.mem_cons_self ..) (m - n) (by omega) (by omega)
      have c1 := ha.one
      have c2 := ha.cap
      have c3 := ha.high
      simp only [capB] at c2 h2 ⊢
      have := ptAr h0 hm l (n + a.item.pt (m - n)) (fun b hb => h b (List.mem_cons_of_mem _ hb)) (by omega) (by simp only [capB]; omega)
      simp only [capB] at this
      refine ⟨by omega, this.2.1, fun hle b hb => ?_⟩
      rcases List.mem_cons.1 hb with rfl | hb
      · have := c3 (by omega)
        omega
      · have := this.2.2 hle b hb
        omega
    · rw [if_neg hn]
      exact ⟨Int.le_refl _, h2, fun hle => absurd hle hn⟩
theorem ptTy {m : Int} (h0 : 0 ≤ m) (hm : m ≤ 2000) : ∀ (l : List Ty) (n : Int), (∀ a ∈ l, ∀ k, 0 ≤ k → k ≤ 2000 → PtOk a k) → 1 ≤ n → n ≤ capB m →
    n ≤ Ty.ptL l n m ∧ Ty.ptL l n m ≤ capB m ∧ (Ty.ptL l n m ≤ m → ∀ a ∈ l, a.height + 1 + n ≤ Ty.ptL l n m)
  | [], n, _, h1, h2 => by simp [Ty.ptL, h2]
  | a :: l, n, h, h1, h2 => by
    rw [Ty.ptL]
    by_cases hn : n ≤ m
    · rw [if_pos hn]
      have ha := h a (List.mem_cons_self ..) (m - n) (by omega) (by omega)
      have c1 := ha.one
      have c2 := ha.cap
      have c3 := ha.high
      simp only [capB] at c2 h2 ⊢
      have := ptTy h0 hm l (n + a.pt (m - n)) (fun b hb => h b (List.mem_cons_of_mem _ hb)) (by omega) (by simp only [capB]; omega)
      simp only [capB] at this
      refine ⟨by omega, this.2.1, fun hle b hb => ?_⟩
      rcases List.mem_cons.1 hb with rfl | hb
      · have := c3 (by omega)
        omega
      · have := this.2.2 hle b hb
        omega
    · rw [if_neg hn]
      exact ⟨Int.le_refl _, h2, fun hle => absurd hle hn⟩
structure ObLe (o : Ob) : Prop where
  names : o.names.length ≤ 140737488355328
  must : o.must.length ≤ 140737488355328
  rest : ∀ k, 0 ≤ k → k ≤ 2000 → PtOk o.rest k
  fields : ∀ f ∈ o.fields, ∀ k, 0 ≤ k → k ≤ 2000 → PtOk f k
theorem ptOb1 {m : Int} (h0 : 0 ≤ m) (hm : m ≤ 2000) {o : Ob} {n : Int} (h : ObLe o) (h1 : 1 ≤ n) (hn : n ≤ m) :
    n + 1 ≤ o.pt n m ∧ o.pt n m ≤ capB m ∧ (o.pt n m ≤ m → ∀ x ∈ o.heights, x + 1 + n ≤ o.pt n m) := by
  rw [Ob.pt_eq]
  have c0 := h.names
  have c0' := h.must
  have hr := h.rest (m - n) (by omega) (by omega)
  have c1 := hr.one
  have c2 := hr.cap
  have c3 := hr.high
  have := ptTy h0 hm o.fields (n + o.names.length + o.must.length + o.rest.pt (m - n)) h.fields (by omega) (by simp only [capB] at c2 ⊢; omega)
  refine ⟨by omega, this.2.1, fun hle x hx => ?_⟩
  rcases List.mem_cons.1 hx with rfl | hx
  · have := c3 (by omega)
    omega
  · obtain ⟨f, hf, rfl⟩ := List.mem_map.1 hx
    have := this.2.2 hle f hf
    omega
theorem ptOb {m : Int} (h0 : 0 ≤ m) (hm : m ≤ 2000) : ∀ (l : List Ob) (n : Int), (∀ o ∈ l, ObLe o) → 1 ≤ n → n ≤ capB m →
    n ≤ Ob.ptL l n m ∧ Ob.ptL l n m ≤ capB m ∧ (Ob.ptL l n m ≤ m → ∀ o ∈ l, ∀ x ∈ o.heights, x + 1 + n ≤ Ob.ptL l n m)
  | [], n, _, h1, h2 => by simp [Ob.ptL, h2]
  | a :: l, n, h, h1, h2 => by
    rw [Ob.ptL]
    by_cases hn : n ≤ m
    · rw [if_pos hn]
      have ha := ptOb1 h0 hm (h a (List.mem_cons_self ..)) h1 hn
      have := ptOb h0 hm l (a.pt n m) (fun b hb => h b (List.mem_cons_of_mem _ hb)) (by omega) ha.2.1
      refine ⟨by omega, this.2.1, fun hle b hb x hx => ?_⟩
      rcases List.mem_cons.1 hb with rfl | hb
      · have := ha.2.2 (by omega) x hx
        omega
      · have := this.2.2 hle b hb x hx
        omega
    · rw [if_neg hn]
      exact ⟨Int.le_refl _, h2, fun hle => absurd hle hn⟩
theorem mxL_le {b : Int} : ∀ (l : List Int) (a : Int), a ≤ b → (∀ x ∈ l, x ≤ b) → mxL a l ≤ b
  | [], a, h, _ => h
  | x :: l, a, h, k => mxL_le l (mx a x) (by have := (mx_ge a x).2.2; have := k x (List.mem_cons_self ..); omega) fun y hy => k y (List.mem_cons_of_mem _ hy)
theorem pt_ok : ∀ t : Ty, Deep t → ∀ m : Int, 0 ≤ m → m ≤ 2000 → PtOk t m := by
  intro t
  induction t using Ty.ind with
  | h t iha iho =>
  intro hd m h0 hm
  have hb := hd.bd
  have b1 := hb.nums
  have b2 := hb.texts
  simp only [maxRows] at b1 b2
  have hA := ptAr h0 hm t.arrays (1 + t.texts.length + t.nums.length) (fun a ha => iha a ha (deep_arr hd ha)) (by omega) (by simp only [capB]; omega)
  have hO := ptOb h0 hm t.objects (Ar.ptL t.arrays (1 + t.texts.length + t.nums.length) m) (fun o ho => by
    have hob := deep_obj hd ho
    have hbo := ob_bd hob
    exact ⟨hbo.names, hbo.must, (iho o ho).1 (deep_rest hob), fun f hf => (iho o ho).2 f hf (deep_field hob hf)⟩) (by omega) hA.2.1
  refine ⟨by rw [Ty.pt_eq]; omega, by rw [Ty.pt_eq]; exact hO.2.1, fun hle => ?_⟩
  rw [Ty.pt_eq] at hle ⊢
  have : mxL (mxL (-1) (t.arrays.map fun a => a.item.height)) (t.objects.flatMap Ob.heights) ≤ Ob.ptL t.objects (Ar.ptL t.arrays (1 + t.texts.length + t.nums.length) m) m - 2 := by
    refine mxL_le _ _ (mxL_le _ _ (by omega) fun x hx => ?_) fun x hx => ?_
    · obtain ⟨a, ha, rfl⟩ := List.mem_map.1 hx
      have := hA.2.2 (by omega) a ha
      omega
    · obtain ⟨o, ho, hx⟩ := List.mem_flatMap.1 hx
      have := hO.2.2 hle o ho x hx
      omega
  rw [Ty.height_eq]
  omega

/-! ### Slices that are nil, as slices -/
def D.nz : D → D
  | .lit (.slice none 0 0) => .sl []
  | x => x
theorem RepD.nz {F : Mem} {v : Value} {x : D} (h : RepD F v x) : RepD F v x.nz := by
  unfold D.nz
  split
  · have := (Rep.d (M := []) h).lit_inv
    subst this
    exact repD_nil F
  · exact h
def nzRows (rows : List (List D)) : List (List D) := rows.map fun r => r.map D.nz
theorem RepD.nzRows {F : Mem} {v : Value} {rows : List (List D)} (h : RepD F v (.sl rows)) : RepD F v (.sl (Ab.nzRows rows)) := by
  cases h with
  | sl a cap sz _ vals hrow hlen hcap ha hr =>
    have hl : (Ab.nzRows rows).length = rows.length := by simp [Ab.nzRows]
    rw [← hl] at hlen hcap ⊢
    refine .sl a cap sz _ vals (fun r hr => ?_) hlen hcap (by rw [hl]; exact ha) (fun i j hi hj => ?_)
    · obtain ⟨r', h1, rfl⟩ := List.mem_map.1 hr
      simpa using hrow r' h1
    · have hi' : i < rows.length := by rw [← hl]; exact hi
      have := (hr i j hi' hj).nz
      have hj' : j < (rows[i]).length := by rw [hrow _ (List.getElem_mem hi')]; exact hj
      have e : ((Ab.nzRows rows).getD i []).getD j default = ((rows.getD i []).getD j default).nz := by
        simp [Ab.nzRows, List.getD_eq_getElem?_getD, hi', hj']
      rw [e]
      exact this
theorem EntV.nz_xs {rows rows' : List (List D)} (e : nzRows rows = rows') : EntV (.xs rows) (.d (.sl rows')) := fun F M v h => by
  cases h with | xs h => subst e; exact .d h.nzRows
theorem EntV.nz_gs {t : Nat} {rows rows' : List (List D)} (e : nzRows rows = rows') : EntV (.gs t rows) (.d (.sl rows')) := fun F M v h => by
  cases h with | gs h => subst e; exact .d h.nzRows
theorem EntV.nz_sl {rows rows' : List (List D)} (e : nzRows rows = rows') : EntV (.d (.sl rows)) (.d (.sl rows')) := fun F M v h => by
  cases h with | d h => subst e; exact .d h.nzRows

def tyNil : Ty := .mk false false false false [] false [] [] []
theorem tyNil_height : tyNil.height = 0 := by rw [Ty.height_eq]; rfl
end Go.Ab
