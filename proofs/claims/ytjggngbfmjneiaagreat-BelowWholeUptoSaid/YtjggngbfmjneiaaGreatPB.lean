import Derived.Test.YtjggngbfmjneiaaGreatPA
set_option linter.unusedVariables false
set_option linter.unusedSimpArgs false
namespace Go.Ab

/-! ### Elements of lists of known shape -/
theorem idx_nat {rows : List (List D)} {k n : Nat} {row : List D} {K : V → List O → Prop} {H : List O} (h1 : k < rows.length) (hr : rows.getD k [] = row) (hl : row.length = n) (hn : 0 < n) (hk : K (.rp row) H) : IdxS rows (k : Int) n K H := by
  have e : ((k : Int)).toNat = k := by simp
  exact ⟨by omega, by omega, by rw [e, hr]; exact hl, hn, by rw [e, hr]; exact hk⟩
theorem idxAr {l : List Ar} {k n : Nat} {K : V → List O → Prop} {H : List O} (h : k < l.length) (hn : 11 = n) (hk : K (.rp (l[k]'h).lay) H) : IdxS (l.map Ar.cells) (k : Int) n K H :=
  idx_nat (by simpa using h) (row_Ar l k h) hn (by subst hn; decide) hk
theorem idxTy {l : List Ty} {k n : Nat} {K : V → List O → Prop} {H : List O} (h : k < l.length) (hn : 9 = n) (hk : K (.rp (l[k]'h).lay) H) : IdxS (l.map Ty.cells) (k : Int) n K H :=
  idx_nat (by simpa using h) (row_Ty l k h) hn (by subst hn; decide) hk
theorem idxOb {l : List Ob} {k n : Nat} {K : V → List O → Prop} {H : List O} (h : k < l.length) (hn : 12 = n) (hk : K (.rp (l[k]'h).lay) H) : IdxS (l.map Ob.cells) (k : Int) n K H :=
  idx_nat (by simpa using h) (row_Ob l k h) hn (by subst hn; decide) hk
theorem idxSp {l : List Sp} {k n : Nat} {K : V → List O → Prop} {H : List O} (h : k < l.length) (hn : 2 = n) (hk : K (.rp (l[k]'h).cells) H) : IdxS (l.map Sp.cells) (k : Int) n K H :=
  idx_nat (by simpa using h) (row_at Sp.cells l k h) hn (by subst hn; decide) hk
theorem idxStr {l : List ByteArray} {k n : Nat} {K : V → List O → Prop} {H : List O} (h : k < l.length) (hn : 1 = n) (hk : K (.rp [.lit (.string (l[k]'h))]) H) : IdxS (l.map strC) (k : Int) n K H :=
  idx_nat (by simpa using h) (row_at strC l k h) hn (by subst hn; decide) hk
theorem idxBool {l : List Bool} {k n : Nat} {K : V → List O → Prop} {H : List O} (h : k < l.length) (hn : 1 = n) (hk : K (.rp [.lit (.bool (l[k]'h))]) H) : IdxS (l.map boolC) (k : Int) n K H :=
  idx_nat (by simpa using h) (row_at boolC l k h) hn (by subst hn; decide) hk

theorem wrap_id {n : Int} (h : -9223372036854775808 ≤ n) (k : n ≤ 9223372036854775807) : IntKind.i64.wrap n = n := by
  unfold IntKind.wrap; simp [IntKind.bits, IntKind.signed]; omega

theorem vInt_wrap {n m : Int} (h : -9223372036854775808 ≤ n) (k : n ≤ 9223372036854775807) (e : n = m) : V.d (.lit (.int .i64 (IntKind.i64.wrap n))) = vInt m := by rw [wrap_id h k, e]; rfl
theorem vInt_len {α β : Type} (f : α → β) (l : List α) : V.d (.lit (.int .i64 ((l.map f).length : Nat))) = vInt l.length := by simp [vInt]
theorem vInt_succ (k : Nat) (h : k ≤ 9223372036854775806) : V.d (.lit (.int .i64 (IntKind.i64.wrap ((k : Int) + 1)))) = vInt (k + 1 : Nat) := vInt_wrap (by omega) (by omega) (by simp)

theorem dec_lt {a b : Nat} (h : decide ((a : Int) < (b : Int)) = true) : a < b := by simpa using h
theorem dec_ge {a b : Nat} (h : decide ((a : Int) < (b : Int)) = false) : b ≤ a := by simpa using h

/-! ### Bounds -/
structure Sp.Bd (s : Sp) : Prop where
  low : s.low.size ≤ 4611686018427387904
  high : s.high.size ≤ 4611686018427387904
/-- One level of a type that is read. -/
structure Ty.Bd (t : Ty) : Prop where
  nums : t.nums.length ≤ maxRows
  texts : t.texts.length ≤ maxRows
  arrays : t.arrays.length ≤ maxRows
  objects : t.objects.length ≤ maxRows
  spans : ∀ s ∈ t.nums, s.Bd
  strs : ∀ s ∈ t.texts, s.size ≤ 4611686018427387904
  arrs : ∀ a ∈ t.arrays, (D.sl (a.item.objects.map Ob.cells)).Bd ∧ (D.sl (a.item.arrays.map Ar.cells)).Bd ∧ (D.sl (a.item.texts.map strC)).Bd ∧ (D.sl (a.item.nums.map Sp.cells)).Bd
  objs : ∀ o ∈ t.objects, ∀ x ∈ o.lay, x.Bd
structure Ob.Bd (o : Ob) : Prop where
  names : o.names.length ≤ maxRows
  fields : o.fields.length ≤ maxRows
  must : o.must.length ≤ maxRows
  strs : ∀ s ∈ o.names, s.size ≤ 4611686018427387904

theorem bd_sps {l : List Sp} (h : (D.sl (l.map Sp.cells)).Bd) : l.length ≤ maxRows ∧ ∀ s ∈ l, s.Bd :=
  ⟨by simpa using h.len, fun s hs => ⟨(h.row (List.mem_map.2 ⟨s, hs, rfl⟩) _ (List.mem_cons_self ..)).str, (h.row (List.mem_map.2 ⟨s, hs, rfl⟩) _ (List.mem_cons_of_mem _ (List.mem_cons_self ..))).str⟩⟩
theorem bd_strs {l : List ByteArray} (h : (D.sl (l.map strC)).Bd) : l.length ≤ maxRows ∧ ∀ s ∈ l, s.size ≤ 4611686018427387904 :=
  ⟨by simpa using h.len, fun s hs => (h.row (List.mem_map.2 ⟨s, hs, rfl⟩) _ (List.mem_cons_self ..)).str⟩
theorem ob_bd {o : Ob} (h : ∀ x ∈ o.lay, x.Bd) : o.Bd := by
  have h1 := bd_strs (h _ (show D.sl (o.names.map strC) ∈ o.lay by simp [Ob.lay]))
  have h2 := (h _ (show D.sl (o.fields.map Ty.cells) ∈ o.lay by simp [Ob.lay])).len
  have h3 := (h _ (show D.sl (o.must.map boolC) ∈ o.lay by simp [Ob.lay])).len
  exact ⟨h1.1, by simpa using h2, by simpa using h3, h1.2⟩
theorem ty_bd {t : Ty} (h : (vTy t).Bd) : t.Bd := by
  have h1 := bd_sps (h 4 _ rfl)
  have h2 := bd_strs (h 6 _ rfl)
  have h3 : (D.sl (t.arrays.map Ar.cells)).Bd := h 7 _ rfl
  have h4 : (D.sl (t.objects.map Ob.cells)).Bd := h 8 _ rfl
  refine ⟨h1.1, h2.1, by simpa using h3.len, by simpa using h4.len, h1.2, h2.2, fun a ha => ?_, fun o ho => ?_⟩
  · have h5 := h3.row (List.mem_map.2 ⟨a, ha, Ar.cells_eq a⟩)
    exact ⟨h5 _ (by simp [Ar.lay]), h5 _ (by simp [Ar.lay]), h5 _ (by simp [Ar.lay]), h5 _ (by simp [Ar.lay])⟩
  · exact h4.row (List.mem_map.2 ⟨o, ho, Ob.cells_eq o⟩)
theorem vob_bd {o : Ob} (h : (vOb o).Bd) : o.Bd := by
  have h1 := bd_strs (h 0 _ rfl)
  have h2 := D.Bd.len (h 1 (.sl (o.fields.map Ty.cells)) rfl)
  have h3 := D.Bd.len (h 2 (.sl (o.must.map boolC)) rfl)
  exact ⟨h1.1, by simpa using h2, by simpa using h3, h1.2⟩
theorem bd_map {α : Type} {f : α → List D} {l : List α} (h : (V.d (.sl (l.map f))).Bd) : l.length ≤ maxRows := by simpa using D.Bd.len h

/-! ### The greatest of some -/
def mx (a b : Int) : Int := if b > a then b else a
def mxL (a : Int) : List Int → Int
  | [] => a
  | x :: l => mxL (mx a x) l
theorem mxL_append (l m : List Int) : ∀ a, mxL a (l ++ m) = mxL (mxL a l) m := by
  induction l with
  | nil => intro a; rfl
  | cons x l ih => intro a; exact ih _
theorem mxL_snoc (a : Int) (l : List Int) (x : Int) : mxL a (l ++ [x]) = mx (mxL a l) x := by rw [mxL_append]; rfl
theorem mx_ge (a b : Int) : a ≤ mx a b ∧ b ≤ mx a b ∧ (mx a b = a ∨ mx a b = b) := by unfold mx; split <;> omega
theorem mxL_ge (l : List Int) : ∀ a, a ≤ mxL a l := by
  induction l with
  | nil => intro a; exact Int.le_refl _
  | cons x l ih => intro a; exact Int.le_trans (mx_ge a x).1 (ih _)
theorem mxL_mem {l : List Int} {x : Int} (h : x ∈ l) : ∀ a, x ≤ mxL a l := by
  induction l with
  | nil => cases h
  | cons y l ih =>
    intro a
    rcases List.mem_cons.1 h with rfl | h
    · exact Int.le_trans (mx_ge a x).2.1 (mxL_ge l _)
    · exact ih h _
theorem take_map_succ {α β : Type} (f : α → β) (l : List α) (k : Nat) (h : k < l.length) : ((l.map f).take (k + 1)) = (l.map f).take k ++ [f (l[k]'h)] := by
  rw [List.take_succ_eq_append_getElem (by simpa using h)]; simp
theorem take_flat_succ {α β : Type} (f : α → List β) (l : List α) (k : Nat) (h : k < l.length) : (l.take (k + 1)).flatMap f = (l.take k).flatMap f ++ f (l[k]'h) := by
  rw [List.take_succ_eq_append_getElem h, List.flatMap_append]; simp

/-! ### Height -/
def Ty.height (t : Ty) : Int := 1 + mxL (mxL (-1) (t.arrays.attach.map fun a => a.1.item.height)) (t.objects.attach.flatMap fun o => o.1.rest.height :: o.1.fields.attach.map fun f => f.1.height)
termination_by SizeOf.sizeOf t
decreasing_by
  · exact Ty.arr_lt a.2
  · exact Ty.rest_lt o.2
  · exact Ty.field_lt o.2 f.2

theorem attach_map {α β : Type} (l : List α) (f : α → β) : l.attach.map (fun x => f x.1) = l.map f := by
  rw [← List.attach_map_subtype_val l]; simp
theorem attach_flatMap {α β : Type} (l : List α) (f : α → List β) : l.attach.flatMap (fun x => f x.1) = l.flatMap f := by
  rw [List.flatMap_def, List.flatMap_def, attach_map]

def Ob.heights (o : Ob) : List Int := o.rest.height :: o.fields.map fun f => f.height
theorem Ty.height_eq (t : Ty) : t.height = 1 + mxL (mxL (-1) (t.arrays.map fun a => a.item.height)) (t.objects.flatMap Ob.heights) := by
  rw [Ty.height, attach_map t.arrays (fun a => a.item.height)]
  have : (fun o : { x // x ∈ t.objects } => o.1.rest.height :: o.1.fields.attach.map fun f => f.1.height) = fun o => o.1.heights := by
    funext o; unfold Ob.heights; rw [attach_map o.1.fields (fun f => f.height)]
  rw [this, attach_flatMap t.objects Ob.heights]
theorem Ty.height_nonneg (t : Ty) : 0 ≤ t.height := by
  rw [Ty.height_eq]
  have h1 := mxL_ge (t.arrays.map fun a => a.item.height) (-1)
  have h2 := mxL_ge (t.objects.flatMap Ob.heights) (mxL (-1) (t.arrays.map fun a => a.item.height))
  omega
theorem Ty.height_arr {t : Ty} {a : Ar} (h : a ∈ t.arrays) : a.item.height + 1 ≤ t.height := by
  rw [Ty.height_eq t]
  have h1 := mxL_mem (List.mem_map.2 ⟨a, h, rfl⟩ : a.item.height ∈ t.arrays.map fun a => a.item.height) (-1)
  have h2 := mxL_ge (t.objects.flatMap Ob.heights) (mxL (-1) (t.arrays.map fun a => a.item.height))
  omega
theorem Ty.height_obj {t : Ty} {o : Ob} {x : Int} (h : o ∈ t.objects) (hx : x ∈ o.heights) : x + 1 ≤ t.height := by
  rw [Ty.height_eq t]
  have h1 := mxL_mem (List.mem_flatMap.2 ⟨o, h, hx⟩ : x ∈ t.objects.flatMap Ob.heights) (mxL (-1) (t.arrays.map fun a => a.item.height))
  omega
theorem Ty.height_rest {t : Ty} {o : Ob} (h : o ∈ t.objects) : o.rest.height + 1 ≤ t.height := Ty.height_obj h (List.mem_cons_self ..)
theorem Ty.height_field {t : Ty} {o : Ob} {f : Ty} (h : o ∈ t.objects) (hf : f ∈ o.fields) : f.height + 1 ≤ t.height :=
  Ty.height_obj h (List.mem_cons_of_mem _ (List.mem_map.2 ⟨f, hf, rfl⟩))
end Go.Ab
