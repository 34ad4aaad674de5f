import Derived.Test.YtjggngbfmjneiaaGreatPF
set_option linter.unusedVariables false
set_option linter.unusedSimpArgs false
namespace Go.Ab
/-! ### The order of types is an order -/
theorem TO.cong {α : Type} {p : α → Prop} {c e : α → α → Int} (h : TO p c) (k : ∀ a b, e a b = c a b) : TO p e := by
  have : e = c := funext fun a => funext fun b => k a b
  rw [this]; exact h
theorem TO.sub {α : Type} {p q : α → Prop} {c : α → α → Int} (h : TO p c) (k : ∀ a, q a → p a) : TO q c where
  range a b ha hb := h.range _ _ (k a ha) (k b hb)
  anti a b ha hb := h.anti _ _ (k a ha) (k b hb)
  trans a b d ha hb hd := h.trans _ _ _ (k a ha) (k b hb) (k d hd)
  eq a b ha hb := h.eq _ _ (k a ha) (k b hb)
theorem int_TO : TO (fun _ => True) cmpI where
  range a b _ _ := by unfold cmpI; repeat' split
                      all_goals omega
  anti a b _ _ := by unfold cmpI; repeat' split
                     all_goals omega
  trans a b d _ _ _ := by unfold cmpI; repeat' split
                          all_goals omega
  eq a b _ _ := by unfold cmpI; repeat' split
                   all_goals omega
theorem most_TO : TO (fun a => -1 ≤ a) mostC where
  range a b _ _ := by unfold mostC cmpI; repeat' split
                      all_goals omega
  anti a b _ _ := by unfold mostC cmpI; repeat' split
                     all_goals omega
  trans a b d _ _ _ := by unfold mostC cmpI; repeat' split
                          all_goals omega
  eq a b _ _ := by unfold mostC cmpI; repeat' split
                   all_goals omega

def byteC (a b : UInt8) : Int := cmpI a.toNat b.toNat
theorem byte_TO : TO (fun _ => True) byteC :=
  int_TO.map (fun a : UInt8 => (a.toNat : Int)) (fun _ _ => trivial) (fun a b _ _ h => UInt8.toNat_inj.1 (by exact_mod_cast h))
theorem bytesLess_cmpL : ∀ l m : List UInt8, Op.bytesLess l m = true ↔ cmpL byteC l m = -1
  | [], [] => by simp [Op.bytesLess, cmpL]
  | [], _ :: _ => by simp [Op.bytesLess, cmpL]
  | _ :: _, [] => by simp [Op.bytesLess, cmpL]
  | x :: l, y :: m => by
    rw [Op.bytesLess, cmpL]
    have ih := bytesLess_cmpL l m
    have e := byte_TO.eq x y trivial trivial
    by_cases h : byteC x y = 0
    · have h' := e h
      subst h'
      simp [h, ih]
    · have hne : x ≠ y := fun k => by subst k; exact h (byte_TO.refl trivial)
      rw [if_neg h]
      have h2 : (x == y) = false := by simpa using hne
      rw [h2]
      simp only [Bool.false_and, Bool.or_false, decide_eq_true_eq]
      rw [UInt8.lt_iff_toNat_lt]
      unfold byteC cmpI
      constructor
      · intro k; rw [if_pos (by omega)]
      · intro k
        split at k
        · omega
        · split at k <;> omega
theorem cmpS_eq (a b : ByteArray) : cmpS a b = cmpL byteC a.data.toList b.data.toList := by
  unfold cmpS strLt
  have h1 := bytesLess_cmpL a.data.toList b.data.toList
  have h2 := cmpL_range byte_TO a.data.toList b.data.toList (fun _ _ => trivial) (fun _ _ => trivial)
  by_cases h : Op.bytesLess a.data.toList b.data.toList = true
  · rw [if_pos h, h1.1 h]
  · rw [if_neg h]
    have h3 : cmpL byteC a.data.toList b.data.toList ≠ -1 := fun k => h (h1.2 k)
    by_cases e : a = b
    · subst e
      rw [if_pos (strEq_iff.2 rfl)]
      exact (byte_TO.list.refl (fun _ _ => trivial)).symm
    · rw [if_neg (by rw [Bool.not_eq_true]; exact strEq_not.2 e)]
      have h4 : cmpL byteC a.data.toList b.data.toList ≠ 0 := fun k => by
        have := byte_TO.list.eq a.data.toList b.data.toList (fun _ _ => trivial) (fun _ _ => trivial) k
        exact e (strEq_iff.1 (by unfold strEq; simp [this]))
      omega
theorem str_TO : TO (fun _ => True) cmpS :=
  (byte_TO.list.map (q := fun _ : ByteArray => True) (fun a : ByteArray => a.data.toList) (fun _ _ _ _ => trivial) (fun a b _ _ h => strEq_iff.1 (by unfold strEq; simp [h]))).cong cmpS_eq
theorem numPos_TO : TO (fun _ => True) numPos :=
  ((int_TO.then str_TO).map (q := fun _ : ByteArray => True) (fun a : ByteArray => ((a.size : Int), a)) (fun _ _ => ⟨trivial, trivial⟩) (fun a b _ _ h => (Prod.ext_iff.1 h).2)).cong fun a b => by
    unfold numPos cmpI
    by_cases h : a.size = b.size
    · simp [h]
    · rw [if_neg h]
      by_cases k : a.size < b.size
      · have k' : (a.size : Int) < b.size := by omega
        simp [k, k']
      · have k' : ¬(a.size : Int) < b.size := by omega
        have k2 : (b.size : Int) < a.size := by omega
        simp [k, k', k2]
theorem bt_inj {a b : ByteArray} (hs : a.size = b.size) (h : ∀ i, i < a.size → bt a i = bt b i) : a = b := by
  apply ByteArray.ext_getElem hs
  intro i h1 h2
  apply UInt8.toNat_inj.1
  rw [bt_get h1, bt_get h2]
  exact h i h1
theorem tail1_size (a : ByteArray) : (tail1 a).size = a.size - 1 := size_extract _ _ _ (Nat.le_refl _)
theorem tail_inj {a b : ByteArray} (ha : 0 < a.size) (hb : 0 < b.size) (h0 : bt a 0 = bt b 0) (h : tail1 a = tail1 b) : a = b := by
  have e1 := tail1_size a
  have e2 := tail1_size b
  rw [h] at e1
  refine bt_inj (by omega) fun i hi => ?_
  cases i with
  | zero => exact h0
  | succ i =>
    have := bt_tail (s := a) i
    have h3 := bt_tail (s := b) i
    have h4 : bt (a.extract 1 a.size) i = bt (b.extract 1 b.size) i := congrArg (bt · i) h
    rw [Nat.add_comm i 1]
    omega
theorem numCmp_mm {a b : ByteArray} (ha : bt a 0 = 45) (hb : bt b 0 = 45) : numCmp a b = numPos (tail1 b) (tail1 a) := by unfold numCmp; rw [if_pos ha, if_pos hb]
theorem numCmp_mp {a b : ByteArray} (ha : bt a 0 = 45) (hb : bt b 0 ≠ 45) : numCmp a b = -1 := by unfold numCmp; rw [if_pos ha, if_neg hb]
theorem numCmp_pm {a b : ByteArray} (ha : bt a 0 ≠ 45) (hb : bt b 0 = 45) : numCmp a b = 1 := by unfold numCmp; rw [if_neg ha, if_pos hb]
theorem numCmp_pp {a b : ByteArray} (ha : bt a 0 ≠ 45) (hb : bt b 0 ≠ 45) : numCmp a b = numPos a b := by unfold numCmp; rw [if_neg ha, if_neg hb]
theorem num_TO : TO NumOk numCmp where
  range a b _ _ := by
    by_cases ha : bt a 0 = 45 <;> by_cases hb : bt b 0 = 45
    · rw [numCmp_mm ha hb]; exact numPos_TO.range _ _ trivial trivial
    · rw [numCmp_mp ha hb]; exact .inl rfl
    · rw [numCmp_pm ha hb]; exact .inr (.inr rfl)
    · rw [numCmp_pp ha hb]; exact numPos_TO.range _ _ trivial trivial
  anti a b _ _ := by
    by_cases ha : bt a 0 = 45 <;> by_cases hb : bt b 0 = 45
    · rw [numCmp_mm ha hb, numCmp_mm hb ha]; exact numPos_TO.anti _ _ trivial trivial
    · rw [numCmp_mp ha hb, numCmp_pm hb ha]
    · rw [numCmp_pm ha hb, numCmp_mp hb ha]; rfl
    · rw [numCmp_pp ha hb, numCmp_pp hb ha]; exact numPos_TO.anti _ _ trivial trivial
  trans a b d _ _ _ := by
    by_cases ha : bt a 0 = 45 <;> by_cases hb : bt b 0 = 45 <;> by_cases hd : bt d 0 = 45
    · rw [numCmp_mm ha hb, numCmp_mm hb hd, numCmp_mm ha hd]; exact fun k1 k2 => numPos_TO.trans _ _ _ trivial trivial trivial k2 k1
    · rw [numCmp_mp ha hd]; exact fun _ _ => by decide
    · rw [numCmp_pm hb hd]; exact fun _ k => absurd k (by decide)
    · rw [numCmp_mp ha hd]; exact fun _ _ => by decide
    · rw [numCmp_pm ha hb]; exact fun k _ => absurd k (by decide)
    · rw [numCmp_pm ha hb]; exact fun k _ => absurd k (by decide)
    · rw [numCmp_pm hb hd]; exact fun _ k => absurd k (by decide)
    · rw [numCmp_pp ha hb, numCmp_pp hb hd, numCmp_pp ha hd]; exact numPos_TO.trans _ _ _ trivial trivial trivial
  eq a b pa pb := by
    by_cases ha : bt a 0 = 45 <;> by_cases hb : bt b 0 = 45
    · rw [numCmp_mm ha hb]; exact fun k => tail_inj pa.pos pb.pos (ha.trans hb.symm) (numPos_TO.eq _ _ trivial trivial k).symm
    · rw [numCmp_mp ha hb]; exact fun k => absurd k (by decide)
    · rw [numCmp_pm ha hb]; exact fun k => absurd k (by decide)
    · rw [numCmp_pp ha hb]; exact numPos_TO.eq _ _ trivial trivial
theorem NumOk.ne {s : ByteArray} (h : NumOk s) : s ≠ ⟨#[]⟩ := fun e => by have := h.pos; subst e; exact absurd this (by decide)
theorem bound_TO (o : Int) (ho : o = -1 ∨ o = 1) : TO BoundOk (boundC o) where
  range a b pa pb := by
    unfold boundC
    split
    · omega
    split
    · omega
    split
    · omega
    · rename_i h1 h2 h3
      exact num_TO.range a b (pa.resolve_left h2) (pb.resolve_left h3)
  anti a b pa pb := by
    unfold boundC
    by_cases h1 : a = b
    · simp [h1]
    · rw [if_neg h1, if_neg (Ne.symm h1)]
      by_cases h2 : a = ⟨#[]⟩
      · rw [if_pos h2, if_neg (fun k => h1 (h2.trans k.symm)), if_pos h2]; omega
      · rw [if_neg h2]
        by_cases h3 : b = ⟨#[]⟩
        · rw [if_pos h3, if_pos h3]
        · rw [if_neg h3, if_neg h3, if_neg h2]
          exact num_TO.anti a b (pa.resolve_left h2) (pb.resolve_left h3)
  trans a b d pa pb pd := by
    intro k1 k2
    by_cases hab : a = b
    · subst hab; exact k2
    by_cases hbd : b = d
    · subst hbd; exact k1
    by_cases had : a = d
    · unfold boundC; rw [if_pos had]; omega
    unfold boundC at k1 k2 ⊢
    rw [if_neg hab] at k1
    rw [if_neg hbd] at k2
    rw [if_neg had]
    by_cases h1 : a = ⟨#[]⟩
    · rw [if_pos h1] at k1 ⊢; exact k1
    · rw [if_neg h1] at k1 ⊢
      by_cases h2 : b = ⟨#[]⟩
      · rw [if_pos h2] at k1 k2; omega
      · rw [if_neg h2] at k1 k2
        by_cases h3 : d = ⟨#[]⟩
        · rw [if_pos h3] at k2 ⊢; exact k2
        · rw [if_neg h3] at k2 ⊢
          exact num_TO.trans a b d (pa.resolve_left h1) (pb.resolve_left h2) (pd.resolve_left h3) k1 k2
  eq a b pa pb := by
    unfold boundC
    split
    · intro _; assumption
    split
    · omega
    split
    · omega
    · rename_i h1 h2 h3
      exact num_TO.eq a b (pa.resolve_left h2) (pb.resolve_left h3)

theorem orL_one (x : Int) : orL [x] = x := by show (if x = 0 then orL [] else x) = x; split <;> simp_all [orL]
theorem orL_cons (x y : Int) (l : List Int) : orL (x :: y :: l) = if x = 0 then orL (y :: l) else x := rfl
def SpOk (s : Sp) : Prop := BoundOk s.low ∧ BoundOk s.high
theorem sp_TO : TO SpOk cmpSp :=
  (((bound_TO (-1) (.inl rfl)).then (bound_TO 1 (.inr rfl))).map (q := SpOk) (fun s : Sp => (s.low, s.high)) (fun _ h => h) (fun a b _ _ h => by cases a; cases b; simp_all)).cong fun a b => by
    unfold cmpSp; rw [orL_cons, orL_one]

/-- What the order needs of a type. -/
inductive Gd : Ty → Prop where
  | mk {t : Ty} (nums : ∀ s ∈ t.nums, SpOk s) (max : ∀ a ∈ t.arrays, -1 ≤ a.max) (item : ∀ a ∈ t.arrays, Gd a.item) (rest : ∀ o ∈ t.objects, Gd o.rest) (field : ∀ o ∈ t.objects, ∀ f ∈ o.fields, Gd f) : Gd t
theorem gd_of : ∀ t : Ty, Formed t → Gd t := by
  intro t
  induction t using Ty.ind with
  | h t iha iho =>
  intro h
  cases h with
  | mk b tx an nu one arr item obj rest field =>
  exact .mk (fun s hs => ⟨(nu.ok s hs).low, (nu.ok s hs).high⟩) (fun a ha => (arr a ha).max) (fun a ha => iha a ha (item a ha)) (fun o ho => (iho o ho).1 (rest o ho)) (fun o ho f hf => (iho o ho).2 f hf (field o ho f hf))
theorem Gd.bok : ∀ {t : Ty}, Gd t → BOk t := by
  intro t
  induction t using Ty.ind with
  | h t iha iho =>
  intro h
  cases h with
  | mk nu mx item rest field =>
  exact .mk nu (fun a ha => iha a ha (item a ha)) (fun o ho => (iho o ho).1 (rest o ho)) (fun o ho f hf => (iho o ho).2 f hf (field o ho f hf))

theorem ty_TO' : ∀ n, TO (fun t : Ty => SizeOf.sizeOf t < n ∧ Gd t) cmpTy
  | 0 => ⟨fun a b h => absurd h.1 (Nat.not_lt_zero _), fun a b h => absurd h.1 (Nat.not_lt_zero _), fun a b d h => absurd h.1 (Nat.not_lt_zero _), fun a b h => absurd h.1 (Nat.not_lt_zero _)⟩
  | n + 1 => by
    have ih := ty_TO' n
    have ar : TO (fun a : Ar => SizeOf.sizeOf a.item < n ∧ Gd a.item ∧ -1 ≤ a.max) cmpAr :=
      ((int_TO.then (most_TO.then ih)).map (fun a : Ar => (a.min, a.max, a.item)) (fun a h => ⟨trivial, h.2.2, h.1, h.2.1⟩) (fun a b _ _ h => by cases a; cases b; simp [Ar.min, Ar.max, Ar.item] at h; simp [h])).cong fun a b => by
        rw [cmpAr_eq, orL_cons, orL_cons, orL_one]
    have ob : TO (fun o : Ob => (SizeOf.sizeOf o.rest < n ∧ Gd o.rest) ∧ ∀ f ∈ o.fields, SizeOf.sizeOf f < n ∧ Gd f) cmpOb :=
      ((str_TO.list.then (truth_TO.list.then (ih.list.then ih))).map (fun o : Ob => (o.names, o.must, o.fields, o.rest)) (fun a h => ⟨fun _ _ => trivial, fun _ _ => trivial, h.2, h.1⟩) (fun a b _ _ h => by cases a; cases b; simp [Ob.names, Ob.must, Ob.fields, Ob.rest] at h; simp [h])).cong fun a b => by
        rw [cmpOb_eq, orL_cons, orL_cons, orL_cons, orL_one]
    refine ((truth_TO.then (truth_TO.then (truth_TO.then (truth_TO.then (sp_TO.list.then (truth_TO.then (str_TO.list.then (ar.list.then ob.list)))))))).map (fun t : Ty => (t.all, t.null, t.fls, t.tru, t.nums, t.anyText, t.texts, t.arrays, t.objects)) ?_ ?_).cong ?_
    · rintro t ⟨hn, h⟩
      cases h with
      | mk nu mx item rest field =>
      refine ⟨trivial, trivial, trivial, trivial, nu, trivial, fun _ _ => trivial, fun a ha => ⟨?_, item a ha, mx a ha⟩, fun o ho => ⟨⟨?_, rest o ho⟩, fun f hf => ⟨?_, field o ho f hf⟩⟩⟩
      · have := Ty.arr_lt ha; omega
      · have := Ty.rest_lt ho; omega
      · have := Ty.field_lt ho hf; omega
    · intro a b _ _ h
      cases a; cases b
      simp [Ty.all, Ty.null, Ty.fls, Ty.tru, Ty.nums, Ty.anyText, Ty.texts, Ty.arrays, Ty.objects] at h
      simp [h]
    · intro a b
      rw [cmpTy_eq]
      simp only [orL_cons, orL_one]
theorem ty_TO : TO Gd cmpTy where
  range a b ha hb := (ty_TO' (SizeOf.sizeOf a + SizeOf.sizeOf b + 1)).range a b ⟨by omega, ha⟩ ⟨by omega, hb⟩
  anti a b ha hb := (ty_TO' (SizeOf.sizeOf a + SizeOf.sizeOf b + 1)).anti a b ⟨by omega, ha⟩ ⟨by omega, hb⟩
  trans a b d ha hb hd := (ty_TO' (SizeOf.sizeOf a + SizeOf.sizeOf b + SizeOf.sizeOf d + 1)).trans a b d ⟨by omega, ha⟩ ⟨by omega, hb⟩ ⟨by omega, hd⟩
  eq a b ha hb := (ty_TO' (SizeOf.sizeOf a + SizeOf.sizeOf b + 1)).eq a b ⟨by omega, ha⟩ ⟨by omega, hb⟩
def tyAll : Ty := .mk true false false false [] false [] [] []
theorem gd_nil : Gd tyNil := .mk (fun _ h => by cases h) (fun _ h => by cases h) (fun _ h => by cases h) (fun _ h => by cases h) (fun _ h => by cases h)
theorem gd_all : Gd tyAll := .mk (fun _ h => by cases h) (fun _ h => by cases h) (fun _ h => by cases h) (fun _ h => by cases h) (fun _ h => by cases h)
theorem cmp_nil_all : cmpTy tyNil tyAll = -1 := by rw [cmpTy_eq]; rfl
theorem entTy {a n f t at' : Bool} {x4 x6 x7 x8 : V} {nums : List Sp} {texts : List ByteArray} {arrays : List Ar} {objects : List Ob} (e4 : EntV x4 (vSps nums)) (e6 : EntV x6 (vStrs texts)) (e7 : EntV x7 (vArs arrays)) (e8 : EntV x8 (vObs objects)) :
    EntV (.agg [.d (.lit (.bool a)), .d (.lit (.bool n)), .d (.lit (.bool f)), .d (.lit (.bool t)), x4, .d (.lit (.bool at')), x6, x7, x8]) (vTy (.mk a n f t nums at' texts arrays objects)) :=
  .agg (.cons (.refl _) (.cons (.refl _) (.cons (.refl _) (.cons (.refl _) (.cons e4 (.cons (.refl _) (.cons e6 (.cons e7 (.cons e8 .nil)))))))))
end Go.Ab
