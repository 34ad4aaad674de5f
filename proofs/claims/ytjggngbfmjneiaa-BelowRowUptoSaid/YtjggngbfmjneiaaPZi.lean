import Derived.Test.YtjggngbfmjneiaaPZh
set_option linter.unusedVariables false
set_option linter.unusedSimpArgs false
namespace Go.Ab
theorem spanIn_trans {a b c : Sp} (ha : SpOk a) (hb : Sp.Ok b) (hc : SpOk c) (h : SpanIn a b) (k : SpanIn b c) : SpanIn a c := by
  have tr := num_TO.trans
  have nz : ∀ {s : ByteArray}, BoundOk s → s ≠ ⟨#[]⟩ → NumOk s := fun h1 h2 => h1.resolve_left h2
  rcases h with h | ⟨h1, h2⟩
  · exact .inl h
  rcases k with k | ⟨k1, k2⟩
  · have := hb.order k.1 k.2.1
    have := k.2.2
    omega
  refine .inr ⟨?_, ?_⟩
  · rcases k1 with k1 | ⟨k1, k3⟩
    · exact .inl k1
    · rcases h1 with h1 | ⟨h1, h3⟩
      · exact absurd h1 k1
      · by_cases hcl : c.low = ⟨#[]⟩
        · exact .inl hcl
        · exact .inr ⟨h1, tr _ _ _ (nz hc.1 hcl) (nz hb.low k1) (nz ha.1 h1) k3 h3⟩
  · rcases k2 with k2 | ⟨k2, k3⟩
    · exact .inl k2
    · rcases h2 with h2 | ⟨h2, h3⟩
      · exact absurd h2 k2
      · by_cases hch : c.high = ⟨#[]⟩
        · exact .inl hch
        · exact .inr ⟨h2, tr _ _ _ (nz ha.2 h2) (nz hb.high k2) (nz hc.2 hch) h3 k3⟩
theorem arrIn_trans {a b c : Ar} (h : ArrIn a b) (k : ArrIn b c) : ArrIn a c :=
  ⟨Int.le_trans k.min h.min, fun h0 => by have k1 := k.max h0; have h1 := h.max k1.1; omega⟩
theorem below_trans {a b : Ty} (h : BelowP a b) : Formed a → Formed b → Bw a → Bw b → ∀ c, Formed c → Bw c → BelowP b c → BelowP a c := by
  induction h with
  | never h => exact fun _ _ _ _ _ _ _ _ => .never h
  | all h => exact fun fa _ wa _ c _ _ k => below_top k h _ fa wa
  | @mk a b w n tx al ar it pick pm mu fl rs iht ihf ihr =>
    intro fa fb wa wb c fc wc k
    by_cases hb : b.all = true
    · exact below_top k hb _ fa wa
    have lb := laid_of_not (t := b) (by simpa using hb)
    have fla := fl_laid fa
    have wla := wa.laid
    rcases belowP_iff.1 k with k | k | ⟨kw, kn, kt, ka, ko⟩
    · obtain ⟨z0, z1, z2, z3, z4, z5, z6, z7, z8⟩ := kinds_zero k
      refine belowP_iff.2 (.inr (.inr ⟨⟨fun h => ?_, fun h => ?_, fun h => ?_⟩, fun h => ?_, ?_, ⟨fun h => ?_, fun h h' => ?_, fun h h' => ?_⟩, fun x hx => ?_⟩))
      · have := w.1 h; rw [z1] at this; cases this
      · have := w.2.1 h; rw [z2] at this; cases this
      · have := w.2.2 h; rw [z3] at this; cases this
      · obtain ⟨h', _⟩ := n h; rw [z4] at h'; cases h'
      · rcases tx with t | ⟨t1, t2⟩
        · rw [z5] at t; cases t
        · exact .inr ⟨t1, fun s hs => by have := t2 s hs; rw [z6] at this; cases this⟩
      · have := al h; rw [z7] at this; cases this
      · have := al h; rw [z7] at this; cases this
      · have := al h; rw [z7] at this; cases this
      · have := pm x hx; rw [z8] at this; cases this
    · exact .all k
    · rw [lb] at kw kn kt ka ko
      refine belowP_iff.2 (.inr (.inr ⟨⟨fun h => kw.1 (w.1 h), fun h => kw.2.1 (w.2.1 h), fun h => kw.2.2 (w.2.2 h)⟩, fun h => ?_, ?_, ⟨fun h => ka.len (al h), fun h h' => arrIn_trans (ar h (al h)) (ka.arr (al h) h'), fun h h' hz => ?_⟩, fun x hx => ?_⟩))
      · obtain ⟨h1, s1⟩ := n h
        obtain ⟨h2, s2⟩ := kn h1
        exact ⟨h2, spanIn_trans (bw_nums wla _ (List.getElem_mem h)) ((fm_spans fb).ok _ (List.getElem_mem h1)) (bw_nums wc _ (List.getElem_mem h2)) s1 s2⟩
      · rcases kt with kt | ⟨k1, k2⟩
        · exact .inl kt
        · rcases tx with t | ⟨t1, t2⟩
          · rw [k1] at t; cases t
          · exact .inr ⟨t1, fun s hs => k2 s (t2 s hs)⟩
      · have h1 := al h
        have hz' : b.arrays[0].max ≠ 0 := fun e => by have := (ar h h1).max (by omega); omega
        exact iht h h1 hz (fla.item _ (List.getElem_mem h)) (fm_item fb _ (List.getElem_mem h1)) (bw_item wla _ (List.getElem_mem h)) (bw_item wb _ (List.getElem_mem h1)) _ (fm_item fc _ (List.getElem_mem h')) (bw_item wc _ (List.getElem_mem h')) (ka.item h1 h' hz')
      · have hy := pm x hx
        obtain ⟨z, hz, hl⟩ := ko _ hy
        have wx := bw_obj wla x hx
        have wy := bw_obj wb _ hy
        have wz := bw_obj wc z hz
        refine ⟨z, hz, ⟨fun m _ h => ?_, fun m _ => ?_, ihr x hx (fla.rest x hx) (fm_rest fb _ hy) (bw_rest wla x hx) (bw_rest wb _ hy) _ (fm_rest fc z hz) (bw_rest wc z hz) hl.rest⟩⟩
        · have h1 := hl.musts h
          exact mu x hx m (.inr (fieldO_must h1)) h1
        · have h1 := hl.every m
          have fz : Formed (fieldO z m).1 := (fl_of fc).fieldO hz wz m
          by_cases hn : Names2 x (pick x) m
          · exact ihf x hx m hn (fla.fieldO hx wx m) ((fl_of fb).fieldO hy wy m) (wla.fieldO hx m) (wb.fieldO hy m) _ fz (wc.fieldO hz m) h1
          · have e1 : m ∉ x.names := fun e => hn (.inl e)
            have e2 : m ∉ (pick x).names := fun e => hn (.inr e)
            rw [fieldO_out e2] at h1
            rw [fieldO_out e1]
            exact ihr x hx (fla.rest x hx) (fm_rest fb _ hy) (bw_rest wla x hx) (bw_rest wb _ hy) _ fz (wc.fieldO hz m) h1

/-! Never -/
theorem never_kinds {t : Ty} (h : Never t) : kinds t = 0 := by
  have hb := h.bare
  unfold kinds
  rw [if_neg (by rw [h.all]; decide), hb.null, hb.fls, hb.tru, hb.anyText, hb.nums, hb.texts, hb.arrays, hb.objects]
  rfl
theorem nil_of {α : Type} {l : List α} (h : l = []) : l.length = 0 := by rw [h]; rfl
theorem kinds_never {t : Ty} (h : kinds t = 0) : Never t := by
  obtain ⟨z0, z1, z2, z3, z4, z5, z6, z7, z8⟩ := kinds_zero h
  exact ⟨z0, ⟨z1, z2, z3, z5, nil_of z4, nil_of z6, nil_of z7, nil_of z8⟩⟩
theorem fm_any {t : Ty} (h : Formed t) : t.anyText = true → t.texts.length = 0 := by cases h; assumption
theorem laid_any {t : Ty} (h : Formed t) (k : (laid t).anyText = true) : (laid t).texts = [] := by
  by_cases ha : t.all = true
  · rw [laid_of_all ha]; rfl
  · have e := laid_of_not (t := t) (by simpa using ha)
    rw [e] at k ⊢
    exact List.eq_nil_of_length_eq_zero (fm_any h k)
theorem apart_none {a c : Ty} (h : Never a) (fc : Formed c) : ApartP a c := by
  obtain ⟨z0, z1, z2, z3, z4, z5, z6, z7, z8⟩ := kinds_zero (never_kinds h)
  have e := laid_of_not z0
  refine apartP_iff.2 ?_
  rw [e]
  refine ⟨⟨fun h => (by rw [z1] at h; cases h.1), fun h => (by rw [z2] at h; cases h.1), fun h => (by rw [z3] at h; cases h.1)⟩, fun h => (by rw [z4] at h; cases h), ?_, ⟨fun h => (by rw [z7] at h; cases h), fun h => (by rw [z7] at h; cases h)⟩, fun x hx => (by rw [z8] at hx; cases hx)⟩
  refine ⟨fun h => ⟨fun h' => (by rw [z5] at h'; cases h'.1), z6, laid_any fc (h.resolve_left (by rw [z5]; decide))⟩, fun _ _ s hs => (by rw [z6] at hs; cases hs)⟩
theorem never_of {t : Ty} (h0 : t.all = false) (h1 : t.null = false) (h2 : t.fls = false) (h3 : t.tru = false) (h4 : ¬0 < t.nums.length) (h5 : t.anyText = false) (h6 : t.texts = []) (h7 : ¬0 < t.arrays.length) (h8 : ∀ x, x ∉ t.objects) : Never t :=
  ⟨h0, ⟨h1, h2, h3, h5, by omega, nil_of h6, by omega, by
    cases h : t.objects with
    | nil => rfl
    | cons x l => exact absurd (by rw [h]; exact List.mem_cons_self ..) (h8 x)⟩⟩
theorem lowerS_self (a : ByteArray) : lowerS a a = a := by unfold lowerS; split <;> rfl
theorem upperS_self (a : ByteArray) : upperS a a = a := by unfold upperS; split <;> rfl
theorem leastA_self (a : Ar) : leastA a a = a.min := by unfold leastA; split <;> rfl
/-- A field that must be there is of a type that has values. -/
theorem must_field {o : Ob} (h : ObOk o) (w : ObW o) {n : ByteArray} (hm : (fieldO o n).2 = true) : ¬Never (fieldO o n).1 := by
  obtain ⟨i, hi, rfl⟩ := List.mem_iff_getElem.1 (fieldO_must hm)
  rw [fieldO_at w hi] at hm ⊢
  exact h.never i _ _ hm
theorem apart_self {a b : Ty} (h : ApartP a b) : a = b → Formed a → Bw a → Never a := by
  induction h with
  | @mk a b w n tx ln it at' an am af iht ihf =>
    intro e fa wa
    subst e
    by_cases ha : a.all = true
    · rw [laid_of_all ha] at w
      exact absurd ⟨rfl, rfl⟩ w.1
    have e := laid_of_not (t := a) (by simpa using ha)
    have hf : ∀ {x y : Bool}, ¬(x = true ∧ x = true) → x = false := fun h => by
      rename_i x _; cases x
      · rfl
      · exact absurd ⟨rfl, rfl⟩ h
    simp only [e] at w n tx ln it at' an am af iht ihf
    refine never_of (by simpa using ha) (hf (y := true) w.1) (hf (y := true) w.2.1) (hf (y := true) w.2.2) (fun h => ?_) ?_ ?_ (fun h => ?_) fun x hx => ?_
    · have hh := n h h
      rw [lowerS_self, upperS_self] at hh
      have := ((fm_spans fa).ok _ (List.getElem_mem h)).order hh.1 hh.2.1
      have h3 := hh.2.2
      dsimp only at h3
      omega
    · cases hx : a.anyText with
      | false => rfl
      | true => exact absurd ⟨hx, hx⟩ (tx.1 (.inl hx)).1
    · cases hx : a.anyText with
      | true => exact (tx.1 (.inl hx)).2.1
      | false =>
        cases ht : a.texts with
        | nil => rfl
        | cons s l => exact absurd (by rw [ht]; exact List.mem_cons_self ..) (tx.2 hx hx s (by rw [ht]; exact List.mem_cons_self ..))
    · have ok := fm_arr fa _ (List.getElem_mem h)
      have hno : ¬NoLen a.arrays[0] a.arrays[0] := by
        unfold NoLen
        rw [leastA_self]
        rintro (h | h) <;> (have := ok.le h.1; omega)
      have h1 := ln h h hno
      rw [leastA_self] at h1
      have h2 := iht h h hno trivial (fm_item fa _ (List.getElem_mem h)) (bw_item wa _ (List.getElem_mem h))
      have h3 := ok.never.1 h2
      have := ok.le (by omega)
      omega
    · have wx := bw_obj wa x hx
      have hm : (fieldO x (at' x x)).2 = true := (am x hx x hx).elim id id
      exact must_field (fm_obj fa x hx) wx hm (ihf x hx x hx rfl ((fl_of fa).fieldO hx wx _) (wa.fieldO hx _))
theorem top_apart {t c : Ty} (h : ApartP t c) : t.all = true → Formed c → Bw c → Never c := by
  induction h with
  | @mk t c w n tx ln it at' an am af iht ihf =>
    intro ht fc wc
    have e := laid_of_all ht
    by_cases hc : c.all = true
    · rw [e, laid_of_all hc] at w
      exact absurd ⟨rfl, rfl⟩ w.1
    have ec := laid_of_not (t := c) (by simpa using hc)
    simp only [e, ec] at w n tx ln it at' an am af iht ihf
    have hlt : 0 < tyLaid.arrays.length := Nat.zero_lt_succ 0
    have hf : ∀ {x : Bool}, ¬(true = true ∧ x = true) → x = false := fun {x} h => by
      cases x
      · rfl
      · exact absurd ⟨rfl, rfl⟩ h
    have hany : c.anyText = false := hf (tx.1 (.inl rfl)).1
    refine never_of (by simpa using hc) (hf w.1) (hf w.2.1) (hf w.2.2) (fun h => ?_) hany (tx.1 (.inl rfl)).2.2 (fun h => ?_) fun x hx => ?_
    · have hh := n (Nat.zero_lt_succ 0) h
      have e1 : lowerS ⟨#[]⟩ c.nums[0].low = c.nums[0].low := by unfold lowerS; rw [if_pos (.inl rfl)]
      have e2 : upperS ⟨#[]⟩ c.nums[0].high = c.nums[0].high := by unfold upperS; rw [if_pos (.inl rfl)]
      have hh : Hollow ⟨lowerS ⟨#[]⟩ c.nums[0].low, upperS ⟨#[]⟩ c.nums[0].high⟩ := hh
      rw [e1, e2] at hh
      have := ((fm_spans fc).ok _ (List.getElem_mem h)).order hh.1 hh.2.1
      have h3 := hh.2.2
      dsimp only at h3
      omega
    · have ok := fm_arr fc _ (List.getElem_mem h)
      have e1 : leastA arOpen c.arrays[0] = c.arrays[0].min := by
        have := ok.min
        have h0 : arOpen.min = 0 := rfl
        unfold leastA; rw [h0]; split <;> omega
      have hno : ¬NoLen arOpen c.arrays[0] := by
        unfold NoLen
        rw [e1]
        rintro (h | h)
        · exact absurd h.1 (by decide)
        · have := ok.le h.1; omega
      have h1 : 0 < leastA arOpen c.arrays[0] := ln hlt h hno
      rw [e1] at h1
      have h2 := iht hlt h hno rfl (fm_item fc _ (List.getElem_mem h)) (bw_item wc _ (List.getElem_mem h))
      have h3 := ok.never.1 h2
      have := ok.le (by omega)
      omega
    · have hm0 : obOpen ∈ tyLaid.objects := List.mem_singleton.2 rfl
      have wx := bw_obj wc x hx
      have hnm : ∀ m, fieldO obOpen m = (tyAll, false) := fun m => fieldO_out (o := obOpen) (by intro h; cases h)
      have hm := am obOpen hm0 x hx
      rw [hnm] at hm
      have hm := hm.resolve_left (by decide)
      exact must_field (fm_obj fc x hx) wx hm (ihf obOpen hm0 x hx (by rw [hnm]; rfl) ((fl_of fc).fieldO hx wx _) (wc.fieldO hx _))

/-! Apart goes with Below -/
theorem lowerS_e {b c : ByteArray} (h : b = ⟨#[]⟩) : lowerS b c = c := by unfold lowerS; rw [if_pos (.inl h)]
theorem lowerS_r {b c : ByteArray} (h : c = ⟨#[]⟩) : lowerS b c = b := by
  unfold lowerS
  split
  · rename_i hh; rcases hh with hh | hh
    · rw [h, hh]
    · exact absurd h hh.1
  · rfl
theorem lowerS_lt {b c : ByteArray} (h : c ≠ ⟨#[]⟩) (k : numCmp b c < 0) : lowerS b c = c := by unfold lowerS; rw [if_pos (.inr ⟨h, k⟩)]
theorem lowerS_ge {b c : ByteArray} (h : b ≠ ⟨#[]⟩) (k : ¬numCmp b c < 0) : lowerS b c = b := by unfold lowerS; rw [if_neg (by rintro (e | e); exact h e; exact k e.2)]
theorem upperS_e {b c : ByteArray} (h : b = ⟨#[]⟩) : upperS b c = c := by unfold upperS; rw [if_pos (.inl h)]
theorem upperS_r {b c : ByteArray} (h : c = ⟨#[]⟩) : upperS b c = b := by
  unfold upperS
  split
  · rename_i hh; rcases hh with hh | hh
    · rw [h, hh]
    · exact absurd h hh.1
  · rfl
theorem upperS_lt {b c : ByteArray} (h : c ≠ ⟨#[]⟩) (k : 0 < numCmp b c) : upperS b c = c := by unfold upperS; rw [if_pos (.inr ⟨h, k⟩)]
theorem upperS_ge {b c : ByteArray} (h : b ≠ ⟨#[]⟩) (k : ¬0 < numCmp b c) : upperS b c = b := by unfold upperS; rw [if_neg (by rintro (e | e); exact h e; exact k e.2)]
theorem lower_up {a b c : ByteArray} (ha : BoundOk a) (hb : BoundOk b) (hc : BoundOk c) (h : b = ⟨#[]⟩ ∨ (a ≠ ⟨#[]⟩ ∧ numCmp b a ≤ 0)) (k : lowerS b c ≠ ⟨#[]⟩) : lowerS a c ≠ ⟨#[]⟩ ∧ numCmp (lowerS b c) (lowerS a c) ≤ 0 := by
  have tr := num_TO.trans
  have nz : ∀ {s : ByteArray}, BoundOk s → s ≠ ⟨#[]⟩ → NumOk s := fun h1 h2 => h1.resolve_left h2
  have self : ∀ {s : ByteArray}, BoundOk s → s ≠ ⟨#[]⟩ → numCmp s s ≤ 0 := fun h1 h2 => by rw [num_self (nz h1 h2)]; exact Int.le_refl 0
  by_cases eb : b = ⟨#[]⟩
  · rw [lowerS_e eb] at k ⊢
    by_cases ea : a = ⟨#[]⟩
    · rw [lowerS_e ea]; exact ⟨k, self hc k⟩
    · have := num_TO.anti a c (nz ha ea) (nz hc k)
      by_cases h2 : numCmp a c < 0
      · rw [lowerS_lt k h2]; exact ⟨k, self hc k⟩
      · rw [lowerS_ge ea h2]; exact ⟨ea, by omega⟩
  · obtain ⟨a1, a2⟩ := h.resolve_left eb
    have nb := nz hb eb
    have na := nz ha a1
    by_cases ec : c = ⟨#[]⟩
    · rw [lowerS_r ec, lowerS_r ec]
      exact ⟨a1, a2⟩
    · have nc := nz hc ec
      by_cases hb' : numCmp b c < 0
      · rw [lowerS_lt ec hb']
        by_cases ha' : numCmp a c < 0
        · rw [lowerS_lt ec ha']; exact ⟨ec, self hc ec⟩
        · rw [lowerS_ge a1 ha']
          have := num_TO.anti a c na nc
          exact ⟨a1, by omega⟩
      · rw [lowerS_ge eb hb']
        by_cases ha' : numCmp a c < 0
        · rw [lowerS_lt ec ha']
          exact ⟨ec, tr _ _ _ nb na nc a2 (by omega)⟩
        · rw [lowerS_ge a1 ha']
          exact ⟨a1, a2⟩
theorem upper_down {a b c : ByteArray} (ha : BoundOk a) (hb : BoundOk b) (hc : BoundOk c) (h : b = ⟨#[]⟩ ∨ (a ≠ ⟨#[]⟩ ∧ numCmp a b ≤ 0)) (k : upperS b c ≠ ⟨#[]⟩) : upperS a c ≠ ⟨#[]⟩ ∧ numCmp (upperS a c) (upperS b c) ≤ 0 := by
  have tr := num_TO.trans
  have nz : ∀ {s : ByteArray}, BoundOk s → s ≠ ⟨#[]⟩ → NumOk s := fun h1 h2 => h1.resolve_left h2
  have self : ∀ {s : ByteArray}, BoundOk s → s ≠ ⟨#[]⟩ → numCmp s s ≤ 0 := fun h1 h2 => by rw [num_self (nz h1 h2)]; exact Int.le_refl 0
  by_cases eb : b = ⟨#[]⟩
  · rw [upperS_e eb] at k ⊢
    by_cases ea : a = ⟨#[]⟩
    · rw [upperS_e ea]; exact ⟨k, self hc k⟩
    · by_cases h2 : 0 < numCmp a c
      · rw [upperS_lt k h2]; exact ⟨k, self hc k⟩
      · rw [upperS_ge ea h2]; exact ⟨ea, by omega⟩
  · obtain ⟨a1, a2⟩ := h.resolve_left eb
    have nb := nz hb eb
    have na := nz ha a1
    by_cases ec : c = ⟨#[]⟩
    · rw [upperS_r ec, upperS_r ec]
      exact ⟨a1, a2⟩
    · have nc := nz hc ec
      by_cases hb' : 0 < numCmp b c
      · rw [upperS_lt ec hb']
        by_cases ha' : 0 < numCmp a c
        · rw [upperS_lt ec ha']; exact ⟨ec, self hc ec⟩
        · rw [upperS_ge a1 ha']
          exact ⟨a1, by omega⟩
      · rw [upperS_ge eb hb']
        by_cases ha' : 0 < numCmp a c
        · rw [upperS_lt ec ha']
          have := num_TO.anti a c na nc
          exact ⟨ec, tr _ _ _ nc na nb (by omega) a2⟩
        · rw [upperS_ge a1 ha']
          exact ⟨a1, a2⟩
theorem span_apart {a b c : Sp} (ha : Sp.Ok a) (hb : SpOk b) (hc : SpOk c) (h : SpanIn a b) (k : Hollow ⟨lowerS b.low c.low, upperS b.high c.high⟩) : Hollow ⟨lowerS a.low c.low, upperS a.high c.high⟩ := by
  have a1 : BoundOk a.low := ha.low
  have a2 : BoundOk a.high := ha.high
  rcases h with h | ⟨h1, h2⟩
  · have := ha.order h.1 h.2.1
    have := h.2.2
    omega
  obtain ⟨l1, l2⟩ := lower_up a1 hb.1 hc.1 h1 k.1
  obtain ⟨u1, u2⟩ := upper_down a2 hb.2 hc.2 h2 k.2.1
  refine ⟨l1, u1, ?_⟩
  have k3 := k.2.2
  dsimp only at k3 l1 l2 u1 u2 ⊢
  have nl := (lowerS_ok a1 hc.1).resolve_left l1
  have nu := (upperS_ok a2 hc.2).resolve_left u1
  have nl' := (lowerS_ok hb.1 hc.1).resolve_left k.1
  have nu' := (upperS_ok hb.2 hc.2).resolve_left k.2.1
  by_cases hle : numCmp (lowerS a.low c.low) (upperS a.high c.high) ≤ 0
  · have := num_TO.trans _ _ _ nl' nl nu' l2 (num_TO.trans _ _ _ nl nu nu' hle u2)
    omega
  · omega
theorem below_apart {a b : Ty} (h : BelowP a b) : Formed a → Formed b → Bw a → Bw b → ∀ c, Formed c → Bw c → ApartP b c → ApartP a c := by
  induction h with
  | never h => exact fun _ _ _ _ c fc _ _ => apart_none (kinds_never h) fc
  | @all a b h => exact fun fa _ wa _ c fc wc k => apart_sym (apart_none (top_apart k h fc wc) fa) wc wa
  | @mk a b w n tx al ar it pick pm mu fl rs iht ihf ihr =>
    intro fa fb wa wb c fc wc k
    by_cases hb : b.all = true
    · exact apart_sym (apart_none (top_apart k hb fc wc) fa) wc wa
    have lb := laid_of_not (t := b) (by simpa using hb)
    have fla := fl_laid fa
    have wla := wa.laid
    have flc := fl_laid fc
    have wlc := wc.laid
    obtain ⟨kw, kn, kt, ka, ko⟩ := apartP_iff.1 k
    rw [lb] at kw kn kt ka ko
    refine apartP_iff.2 ⟨⟨fun h => kw.1 ⟨w.1 h.1, h.2⟩, fun h => kw.2.1 ⟨w.2.1 h.1, h.2⟩, fun h => kw.2.2 ⟨w.2.2 h.1, h.2⟩⟩, fun h h' => ?_, ⟨fun h => ?_, fun h h' s hs hs' => ?_⟩, ⟨fun h h' hno => ?_, fun h h' hno => ?_⟩, fun x hx z hz => ?_⟩
    · obtain ⟨h1, s1⟩ := n h
      exact span_apart (fla.spans.ok _ (List.getElem_mem h)) (bw_nums wb _ (List.getElem_mem h1)) (bw_nums wlc _ (List.getElem_mem h')) s1 (kn h1 h')
    · cases xa : (laid a).anyText with
      | true =>
        have hbx : b.anyText = true := tx.elim id fun t => by rw [xa] at t; cases t.1
        obtain ⟨p, q, r⟩ := kt.1 (.inl hbx)
        exact ⟨fun h => p ⟨hbx, h.2⟩, laid_any fa xa, r⟩
      | false =>
        have hcx := h.resolve_left (by rw [xa]; decide)
        obtain ⟨p, q, r⟩ := kt.1 (.inr hcx)
        refine ⟨fun h => (by cases h.1), ?_, r⟩
        rcases tx with t | ⟨t1, t2⟩
        · exact absurd ⟨t, hcx⟩ p
        · cases ht : (laid a).texts with
          | nil => rfl
          | cons s l => have := t2 s (by rw [ht]; exact List.mem_cons_self ..); rw [q] at this; cases this
    · rcases tx with t | ⟨t1, t2⟩
      · have := (kt.1 (.inl t)).2.2
        rw [this] at hs'; cases hs'
      · cases hbx : b.anyText with
        | true => have := (kt.1 (.inl hbx)).2.2; rw [this] at hs'; cases hs'
        | false => exact kt.2 hbx h' s (t2 s hs) hs'
    · have h1 := al h
      have hr := ar h h1
      have e : leastA b.arrays[0] (laid c).arrays[0] ≤ leastA (laid a).arrays[0] (laid c).arrays[0] := by
        have := hr.min
        unfold leastA; split <;> split <;> omega
      have hno' : ¬NoLen b.arrays[0] (laid c).arrays[0] := by
        rintro (h2 | h2)
        · have := hr.max h2.1
          exact hno (.inl ⟨this.1, by omega⟩)
        · exact hno (.inr ⟨h2.1, by omega⟩)
      have := ka.len h1 h' hno'
      omega
    · have h1 := al h
      have hr := ar h h1
      have e : leastA b.arrays[0] (laid c).arrays[0] ≤ leastA (laid a).arrays[0] (laid c).arrays[0] := by
        have := hr.min
        unfold leastA; split <;> split <;> omega
      have hno' : ¬NoLen b.arrays[0] (laid c).arrays[0] := by
        rintro (h2 | h2)
        · have := hr.max h2.1
          exact hno (.inl ⟨this.1, by omega⟩)
        · exact hno (.inr ⟨h2.1, by omega⟩)
      have hpos := ka.len h1 h' hno'
      have hz : (laid a).arrays[0].max ≠ 0 := fun ez => hno (.inl ⟨by omega, by omega⟩)
      exact iht h h1 hz (fla.item _ (List.getElem_mem h)) (fm_item fb _ (List.getElem_mem h1)) (bw_item wla _ (List.getElem_mem h)) (bw_item wb _ (List.getElem_mem h1)) _ (flc.item _ (List.getElem_mem h')) (bw_item wlc _ (List.getElem_mem h')) (ka.item h1 h' hno')
    · have hy := pm x hx
      obtain ⟨m, hn, hm, hap⟩ := ko _ hy z hz
      have wx := bw_obj wla x hx
      have wy := bw_obj wb _ hy
      have wz := bw_obj wlc z hz
      have hxm : (fieldO x m).2 = true ∨ (fieldO z m).2 = true := hm.imp (fun e => mu x hx m (.inr (fieldO_must e)) e) id
      refine ⟨m, hxm.imp fieldO_must fieldO_must, hxm, ?_⟩
      have fz : Formed (fieldO z m).1 := flc.fieldO hz wz m
      by_cases hn : Names2 x (pick x) m
      · exact ihf x hx m hn (fla.fieldO hx wx m) ((fl_of fb).fieldO hy wy m) (wla.fieldO hx m) (wb.fieldO hy m) _ fz (wlc.fieldO hz m) hap
      · have e1 : m ∉ x.names := fun e => hn (.inl e)
        have e2 : m ∉ (pick x).names := fun e => hn (.inr e)
        rw [fieldO_out e2] at hap
        rw [fieldO_out e1]
        exact ihr x hx (fla.rest x hx) (fm_rest fb _ hy) (bw_rest wla x hx) (bw_rest wb _ hy) _ fz (wlc.fieldO hz m) hap
end Go.Ab
