import Derived.Test.YtjggngbfmjneiaaGreatPZ
import Derived.Test.YtjggngbfmjneiaaGreatPG
set_option linter.unusedVariables false
set_option linter.unusedSimpArgs false
namespace Go.Ab
/-! ### From type to type -/
theorem num_self {n : ByteArray} (h : NumOk n) : numCmp n n = 0 := num_TO.refl h
theorem spanIn_refl {s : Sp} (h : SpOk s) : SpanIn s s := by
  by_cases hl : s.low = ⟨#[]⟩
  · by_cases hu : s.high = ⟨#[]⟩
    · exact .inr ⟨.inl hl, .inl hu⟩
    · exact .inr ⟨.inl hl, .inr ⟨hu, by rw [num_self (h.2.resolve_left hu)]; exact Int.le_refl 0⟩⟩
  · by_cases hu : s.high = ⟨#[]⟩
    · exact .inr ⟨.inr ⟨hl, by rw [num_self (h.1.resolve_left hl)]; exact Int.le_refl 0⟩, .inl hu⟩
    · exact .inr ⟨.inr ⟨hl, by rw [num_self (h.1.resolve_left hl)]; exact Int.le_refl 0⟩, .inr ⟨hu, by rw [num_self (h.2.resolve_left hu)]; exact Int.le_refl 0⟩⟩
theorem below_refl : ∀ t : Ty, Bw t → BelowP t t := by
  intro t
  generalize hs : SizeOf.sizeOf t = n
  induction n using Nat.strongRecOn generalizing t with
  | _ n ih =>
  intro w
  subst hs
  by_cases ha : t.all = true
  · exact .all ha
  · have e : laid t = t := laid_of_not (by simpa using ha)
    refine belowP_iff.2 (.inr (.inr ?_))
    rw [e]
    refine ⟨⟨id, id, id⟩, fun h => ⟨h, spanIn_refl (bw_nums w _ (List.getElem_mem h))⟩, ?_, ⟨id, fun h h' => ⟨Int.le_refl _, fun h => ⟨h, Int.le_refl _⟩⟩, fun h h' _ => ih _ (Ty.arr_lt (List.getElem_mem h)) _ rfl (bw_item w _ (List.getElem_mem h))⟩, fun x hx => ⟨x, hx, ⟨fun _ _ h => h, fun n _ => ih _ (fieldO_lt hx (bw_obj w x hx) n) _ rfl (w.fieldO hx n), ih _ (Ty.rest_lt hx) _ rfl (bw_rest w x hx)⟩⟩⟩
    cases h : t.anyText with
    | true => exact .inl h
    | false => exact .inr ⟨h, fun s hs => hs⟩

/-! Well shaped: what is used of it -/
theorem fm_bare {t : Ty} (h : Formed t) : t.all = true → Bare t := by cases h; assumption
theorem fm_spans {t : Ty} (h : Formed t) : SpansOk t.nums := by cases h; assumption
theorem fm_arr {t : Ty} (h : Formed t) : ∀ a ∈ t.arrays, ArOk a := by cases h; assumption
theorem fm_item {t : Ty} (h : Formed t) : ∀ a ∈ t.arrays, Formed a.item := by cases h; assumption
theorem fm_obj {t : Ty} (h : Formed t) : ∀ o ∈ t.objects, ObOk o := by cases h; assumption
theorem fm_rest {t : Ty} (h : Formed t) : ∀ o ∈ t.objects, Formed o.rest := by cases h; assumption
theorem fm_field {t : Ty} (h : Formed t) : ∀ o ∈ t.objects, ∀ f ∈ o.fields, Formed f := by cases h; assumption
theorem laid_of_all {t : Ty} (h : t.all = true) : laid t = tyLaid := by unfold laid; rw [if_pos h]
theorem rise_nil : Rise [] := ⟨fun s h => (by cases h), fun i h => absurd h (by simp)⟩
theorem bare_all : Bare tyAll := ⟨rfl, rfl, rfl, rfl, rfl, rfl, rfl, rfl⟩
theorem fm_all : Formed tyAll :=
  .mk (fun _ => bare_all) rise_nil (fun _ => rfl) ⟨by decide, fun s h => by cases h⟩ (by decide) (fun s h => by cases h) (fun s h => by cases h) (fun s h => by cases h) (fun s h => by cases h) (fun s h => by cases h)
/-- The layout of a well shaped type. -/
structure Fl (t : Ty) : Prop where
  spans : SpansOk t.nums
  arr : ∀ a ∈ t.arrays, ArOk a
  item : ∀ a ∈ t.arrays, Formed a.item
  obj : ∀ o ∈ t.objects, ObOk o
  rest : ∀ o ∈ t.objects, Formed o.rest
  field : ∀ o ∈ t.objects, ∀ f ∈ o.fields, Formed f
theorem fl_of {t : Ty} (h : Formed t) : Fl t := ⟨fm_spans h, fm_arr h, fm_item h, fm_obj h, fm_rest h, fm_field h⟩
theorem never_all : ¬Never tyAll := fun h => by have := h.all; cases this
theorem fl_laid {t : Ty} (h : Formed t) : Fl (laid t) := by
  by_cases ha : t.all = true
  · rw [laid_of_all ha]
    refine ⟨⟨by decide, fun s hs => ?_⟩, fun a hx => ?_, fun a hx => ?_, fun o hx => ?_, fun o hx => ?_, fun o hx f hf => ?_⟩
    · have hs : s ∈ [spOpen] := hs
      obtain rfl := List.mem_singleton.1 hs
      exact ⟨.inl rfl, .inl rfl, fun h => absurd rfl h⟩
    · have hx : a ∈ [arOpen] := hx
      obtain rfl := List.mem_singleton.1 hx
      exact ⟨by decide, by decide, fun h => absurd h (by decide), ⟨fun h => absurd h never_all, fun h => absurd h (by decide)⟩⟩
    · have hx : a ∈ [arOpen] := hx
      obtain rfl := List.mem_singleton.1 hx
      exact fm_all
    · have hx : o ∈ [obOpen] := hx
      obtain rfl := List.mem_singleton.1 hx
      exact ⟨rfl, rfl, rise_nil, fun i h => absurd h (Nat.not_lt_zero i)⟩
    · have hx : o ∈ [obOpen] := hx
      obtain rfl := List.mem_singleton.1 hx
      exact fm_all
    · have hx : o ∈ [obOpen] := hx
      obtain rfl := List.mem_singleton.1 hx
      cases hf
  · rw [laid_of_not (by simpa using ha)]
    exact fl_of h
theorem Fl.fieldO {t : Ty} (h : Fl t) {o : Ob} (ho : o ∈ t.objects) (w : ObW o) (n : ByteArray) : Formed (Ab.fieldO o n).1 := by
  rcases fieldO_mem o n w with e | e
  · rw [e]; exact h.rest o ho
  · exact h.field o ho _ e

/-! Apart is so in both directions -/
theorem lowerS_comm {a b : ByteArray} (ha : BoundOk a) (hb : BoundOk b) : lowerS a b = lowerS b a := by
  unfold lowerS
  by_cases ea : a = ⟨#[]⟩
  · by_cases eb : b = ⟨#[]⟩
    · rw [ea, eb]
    · rw [if_pos (.inl ea), if_neg (by rintro (h | h); exact eb h; exact h.1 ea)]
  · by_cases eb : b = ⟨#[]⟩
    · rw [if_neg (by rintro (h | h); exact ea h; exact h.1 eb), if_pos (.inl eb)]
    · have na := ha.resolve_left ea
      have nb := hb.resolve_left eb
      have an := num_TO.anti a b na nb
      by_cases h : numCmp a b < 0
      · rw [if_pos (.inr ⟨eb, h⟩), if_neg (by rintro (h' | h'); exact eb h'; have := h'.2; omega)]
      · rw [if_neg (by rintro (h' | h'); exact ea h'; exact h h'.2)]
        by_cases h2 : numCmp b a < 0
        · rw [if_pos (.inr ⟨ea, h2⟩)]
        · rw [if_neg (by rintro (h' | h'); exact eb h'; exact h2 h'.2)]
          exact num_TO.eq a b na nb (by omega)
theorem upperS_comm {a b : ByteArray} (ha : BoundOk a) (hb : BoundOk b) : upperS a b = upperS b a := by
  unfold upperS
  by_cases ea : a = ⟨#[]⟩
  · by_cases eb : b = ⟨#[]⟩
    · rw [ea, eb]
    · rw [if_pos (.inl ea), if_neg (by rintro (h | h); exact eb h; exact h.1 ea)]
  · by_cases eb : b = ⟨#[]⟩
    · rw [if_neg (by rintro (h | h); exact ea h; exact h.1 eb), if_pos (.inl eb)]
    · have na := ha.resolve_left ea
      have nb := hb.resolve_left eb
      have an := num_TO.anti a b na nb
      by_cases h : 0 < numCmp a b
      · rw [if_pos (.inr ⟨eb, h⟩), if_neg (by rintro (h' | h'); exact eb h'; have := h'.2; omega)]
      · rw [if_neg (by rintro (h' | h'); exact ea h'; exact h h'.2)]
        by_cases h2 : 0 < numCmp b a
        · rw [if_pos (.inr ⟨ea, h2⟩)]
        · rw [if_neg (by rintro (h' | h'); exact eb h'; exact h2 h'.2)]
          exact num_TO.eq a b na nb (by omega)
theorem leastA_comm (a b : Ar) : leastA a b = leastA b a := by unfold leastA; split <;> split <;> omega
theorem noLen_comm {a b : Ar} (h : NoLen a b) : NoLen b a := by
  unfold NoLen at *
  rw [leastA_comm b a]
  exact h.elim .inr .inl
theorem apart_sym {a b : Ty} (h : ApartP a b) : Bw a → Bw b → ApartP b a := by
  induction h with
  | @mk a b w n t ln it at' an am af iht ihf =>
    intro wa wb
    have wla := wa.laid
    have wlb := wb.laid
    refine apartP_iff.2 ⟨⟨fun h => w.1 h.symm, fun h => w.2.1 h.symm, fun h => w.2.2 h.symm⟩, fun h h' => ?_, ⟨fun h => ?_, fun h h' s hs hs' => t.2 h' h s hs' hs⟩, ⟨fun h h' hn => ?_, fun h h' hn => ?_⟩, fun y hy x hx => ?_⟩
    · have := n h' h
      have sa := bw_nums wla _ (List.getElem_mem h')
      have sb := bw_nums wlb _ (List.getElem_mem h)
      rw [lowerS_comm sb.1 sa.1, upperS_comm sb.2 sa.2]
      exact this
    · obtain ⟨p, q, r⟩ := t.1 h.symm
      exact ⟨fun h => p h.symm, r, q⟩
    · rw [leastA_comm]
      exact ln h' h fun e => hn (noLen_comm e)
    · exact iht h' h (fun e => hn (noLen_comm e)) (bw_item wla _ (List.getElem_mem h')) (bw_item wlb _ (List.getElem_mem h))
    · exact ⟨at' x y, (an x hx y hy).symm, (am x hx y hy).symm, ihf x hx y hy (wla.fieldO hx _) (wlb.fieldO hy _)⟩

/-! Every below: all below -/
theorem below_top {t c : Ty} (h : BelowP t c) : t.all = true → ∀ a, Formed a → Bw a → BelowP a c := by
  induction h with
  | never h => exact fun ht => by rw [(kinds_zero h).1] at ht; cases ht
  | all h => exact fun _ _ _ _ => .all h
  | @mk t c w n tx al ar it pick pm mu fl rs iht ihf ihr =>
    intro ht a fa wa
    have e := laid_of_all ht
    have fl' := fl_laid fa
    have wl := wa.laid
    have hk1 : ∀ {p : Ty → Prop}, p (laid t) → p tyLaid := fun h => e ▸ h
    have hmem : obOpen ∈ (laid t).objects := by rw [e]; exact List.mem_singleton.2 rfl
    have hA : ∀ (h : 0 < (laid t).arrays.length), (laid t).arrays[0] = arOpen := fun h => by simp only [e]; rfl
    have hlt : 0 < (laid t).arrays.length := by rw [e]; exact Nat.zero_lt_succ 0
    have hN : ∀ (h : 0 < (laid t).nums.length), (laid t).nums[0] = spOpen := fun h => by simp only [e]; rfl
    have hln : 0 < (laid t).nums.length := by rw [e]; exact Nat.zero_lt_succ 0
    have w' : WordsIn tyLaid c := hk1 (p := fun x => WordsIn x c) w
    have t' : TextsIn tyLaid c := hk1 (p := fun x => TextsIn x c) tx
    refine belowP_iff.2 (.inr (.inr ⟨⟨fun _ => w'.1 rfl, fun _ => w'.2.1 rfl, fun _ => w'.2.2 rfl⟩, fun h => ?_, ?_, ⟨fun _ => al hlt, fun h h' => ?_, fun h h' hz => ?_⟩, fun x hx => ?_⟩))
    · obtain ⟨h', hs⟩ := n hln
      rw [hN hln] at hs
      refine ⟨h', ?_⟩
      rcases hs with hs | ⟨h1, h2⟩
      · exact absurd rfl hs.1
      · exact .inr ⟨.inl (h1.resolve_right fun h => h.1 rfl), .inl (h2.resolve_right fun h => h.1 rfl)⟩
    · rcases t' with t' | t'
      · exact .inl t'
      · cases t'.1
    · have hr := ar hlt h'
      rw [hA hlt] at hr
      have h1 : c.arrays[0].min ≤ 0 := hr.min
      have h2 := (fl'.arr _ (List.getElem_mem h)).min
      exact ⟨by omega, fun h3 => absurd (hr.max h3).1 (by decide)⟩
    · have hi := iht hlt h' (by rw [hA hlt]; decide) (by rw [hA hlt]; rfl)
      exact hi _ (fl'.item _ (List.getElem_mem h)) (bw_item wl _ (List.getElem_mem h))
    · have hall : ∀ m, ∀ a', Formed a' → Bw a' → BelowP a' (fieldO (pick obOpen) m).1 := fun m => by
        by_cases hm : m ∈ (pick obOpen).names
        · exact ihf obOpen hmem m (.inr hm) (by rw [fieldO_out (o := obOpen) (by intro h; cases h)]; rfl)
        · rw [fieldO_out hm]
          exact ihr obOpen hmem rfl
      have wx := bw_obj wl x hx
      refine ⟨pick obOpen, pm _ hmem, ⟨fun m hm h => ?_, fun m _ => hall m _ (fl'.fieldO hx wx m) (wl.fieldO hx m), ihr obOpen hmem rfl _ (fl'.rest x hx) (bw_rest wl x hx)⟩⟩
      have := mu obOpen hmem m (.inr (fieldO_must h)) h
      rw [fieldO_out (o := obOpen) (by intro h; cases h)] at this
      cases this
end Go.Ab
set_option linter.unusedVariables false
set_option linter.unusedSimpArgs false
namespace Go.Ab
theorem spanIn_trans {a b c : Sp} (ha : SpOk a) (hb : Sp.Ok b) (hc : SpOk c) (h : SpanIn a b) (k : SpanIn b c) : SpanIn a c := by
  have tr := num_TO.trans
  have nz : ∀ {s : ByteArray}, BoundOk s → s ≠ ⟨#[]⟩ → NumOk s := fun h1 h2 => h1.resolve_left h2
  rcases h with h | ⟨h1, h2⟩
  · exact .inl h
  rcases k with k | ⟨k1, k2⟩
  · have := hb.order k.1 k.2.1
    have := k.2.2
    omega
  refine .inr ⟨?_, ?_⟩
  · rcases k1 with k1 | ⟨k1, k3⟩
    · exact .inl k1
    · rcases h1 with h1 | ⟨h1, h3⟩
      · exact absurd h1 k1
      · by_cases hcl : c.low = ⟨#[]⟩
        · exact .inl hcl
        · exact .inr ⟨h1, tr _ _ _ (nz hc.1 hcl) (nz hb.low k1) (nz ha.1 h1) k3 h3⟩
  · rcases k2 with k2 | ⟨k2, k3⟩
    · exact .inl k2
    · rcases h2 with h2 | ⟨h2, h3⟩
      · exact absurd h2 k2
      · by_cases hch : c.high = ⟨#[]⟩
        · exact .inl hch
        · exact .inr ⟨h2, tr _ _ _ (nz ha.2 h2) (nz hb.high k2) (nz hc.2 hch) h3 k3⟩
theorem arrIn_trans {a b c : Ar} (h : ArrIn a b) (k : ArrIn b c) : ArrIn a c :=
  ⟨Int.le_trans k.min h.min, fun h0 => by have k1 := k.max h0; have h1 := h.max k1.1; omega⟩
theorem below_trans {a b : Ty} (h : BelowP a b) : Formed a → Formed b → Bw a → Bw b → ∀ c, Formed c → Bw c → BelowP b c → BelowP a c := by
  induction h with
  | never h => exact fun _ _ _ _ _ _ _ _ => .never h
  | all h => exact fun fa _ wa _ c _ _ k => below_top k h _ fa wa
  | @mk a b w n tx al ar it pick pm mu fl rs iht ihf ihr =>
    intro fa fb wa wb c fc wc k
    by_cases hb : b.all = true
    · exact below_top k hb _ fa wa
    have lb := laid_of_not (t := b) (by simpa using hb)
    have fla := fl_laid fa
    have wla := wa.laid
    rcases belowP_iff.1 k with k | k | ⟨kw, kn, kt, ka, ko⟩
    · obtain ⟨z0, z1, z2, z3, z4, z5, z6, z7, z8⟩ := kinds_zero k
      refine belowP_iff.2 (.inr (.inr ⟨⟨fun h => ?_, fun h => ?_, fun h => ?_⟩, fun h => ?_, ?_, ⟨fun h => ?_, fun h h' => ?_, fun h h' => ?_⟩, fun x hx => ?_⟩))
      · have := w.1 h; rw [z1] at this; cases this
      · have := w.2.1 h; rw [z2] at this; cases this
      · have := w.2.2 h; rw [z3] at this; cases this
      · obtain ⟨h', _⟩ := n h; rw [z4] at h'; cases h'
      · rcases tx with t | ⟨t1, t2⟩
        · rw [z5] at t; cases t
        · exact .inr ⟨t1, fun s hs => by have := t2 s hs; rw [z6] at this; cases this⟩
      · have := al h; rw [z7] at this; cases this
      · have := al h; rw [z7] at this; cases this
      · have := al h; rw [z7] at this; cases this
      · have := pm x hx; rw [z8] at this; cases this
    · exact .all k
    · rw [lb] at kw kn kt ka ko
      refine belowP_iff.2 (.inr (.inr ⟨⟨fun h => kw.1 (w.1 h), fun h => kw.2.1 (w.2.1 h), fun h => kw.2.2 (w.2.2 h)⟩, fun h => ?_, ?_, ⟨fun h => ka.len (al h), fun h h' => arrIn_trans (ar h (al h)) (ka.arr (al h) h'), fun h h' hz => ?_⟩, fun x hx => ?_⟩))
      · obtain ⟨h1, s1⟩ := n h
        obtain ⟨h2, s2⟩ := kn h1
        exact ⟨h2, spanIn_trans (bw_nums wla _ (List.getElem_mem h)) ((fm_spans fb).ok _ (List.getElem_mem h1)) (bw_nums wc _ (List.getElem_mem h2)) s1 s2⟩
      · rcases kt with kt | ⟨k1, k2⟩
        · exact .inl kt
        · rcases tx with t | ⟨t1, t2⟩
          · rw [k1] at t; cases t
          · exact .inr ⟨t1, fun s hs => k2 s (t2 s hs)⟩
      · have h1 := al h
        have hz' : b.arrays[0].max ≠ 0 := fun e => by have := (ar h h1).max (by omega); omega
        exact iht h h1 hz (fla.item _ (List.getElem_mem h)) (fm_item fb _ (List.getElem_mem h1)) (bw_item wla _ (List.getElem_mem h)) (bw_item wb _ (List.getElem_mem h1)) _ (fm_item fc _ (List.getElem_mem h')) (bw_item wc _ (List.getElem_mem h')) (ka.item h1 h' hz')
      · have hy := pm x hx
        obtain ⟨z, hz, hl⟩ := ko _ hy
        have wx := bw_obj wla x hx
        have wy := bw_obj wb _ hy
        have wz := bw_obj wc z hz
        refine ⟨z, hz, ⟨fun m _ h => ?_, fun m _ => ?_, ihr x hx (fla.rest x hx) (fm_rest fb _ hy) (bw_rest wla x hx) (bw_rest wb _ hy) _ (fm_rest fc z hz) (bw_rest wc z hz) hl.rest⟩⟩
        · have h1 := hl.musts h
          exact mu x hx m (.inr (fieldO_must h1)) h1
        · have h1 := hl.every m
          have fz : Formed (fieldO z m).1 := (fl_of fc).fieldO hz wz m
          by_cases hn : Names2 x (pick x) m
          · exact ihf x hx m hn (fla.fieldO hx wx m) ((fl_of fb).fieldO hy wy m) (wla.fieldO hx m) (wb.fieldO hy m) _ fz (wc.fieldO hz m) h1
          · have e1 : m ∉ x.names := fun e => hn (.inl e)
            have e2 : m ∉ (pick x).names := fun e => hn (.inr e)
            rw [fieldO_out e2] at h1
            rw [fieldO_out e1]
            exact ihr x hx (fla.rest x hx) (fm_rest fb _ hy) (bw_rest wla x hx) (bw_rest wb _ hy) _ fz (wc.fieldO hz m) h1

/-! Never -/
theorem never_kinds {t : Ty} (h : Never t) : kinds t = 0 := by
  have hb := h.bare
  unfold kinds
  rw [if_neg (by rw [h.all]; decide), hb.null, hb.fls, hb.tru, hb.anyText, hb.nums, hb.texts, hb.arrays, hb.objects]
  rfl
theorem nil_of {α : Type} {l : List α} (h : l = []) : l.length = 0 := by rw [h]; rfl
theorem kinds_never {t : Ty} (h : kinds t = 0) : Never t := by
  obtain ⟨z0, z1, z2, z3, z4, z5, z6, z7, z8⟩ := kinds_zero h
  exact ⟨z0, ⟨z1, z2, z3, z5, nil_of z4, nil_of z6, nil_of z7, nil_of z8⟩⟩
theorem fm_any {t : Ty} (h : Formed t) : t.anyText = true → t.texts.length = 0 := by cases h; assumption
theorem laid_any {t : Ty} (h : Formed t) (k : (laid t).anyText = true) : (laid t).texts = [] := by
  by_cases ha : t.all = true
  · rw [laid_of_all ha]; rfl
  · have e := laid_of_not (t := t) (by simpa using ha)
    rw [e] at k ⊢
    exact List.eq_nil_of_length_eq_zero (fm_any h k)
theorem apart_none {a c : Ty} (h : Never a) (fc : Formed c) : ApartP a c := by
  obtain ⟨z0, z1, z2, z3, z4, z5, z6, z7, z8⟩ := kinds_zero (never_kinds h)
  have e := laid_of_not z0
  refine apartP_iff.2 ?_
  rw [e]
  refine ⟨⟨fun h => (by rw [z1] at h; cases h.1), fun h => (by rw [z2] at h; cases h.1), fun h => (by rw [z3] at h; cases h.1)⟩, fun h => (by rw [z4] at h; cases h), ?_, ⟨fun h => (by rw [z7] at h; cases h), fun h => (by rw [z7] at h; cases h)⟩, fun x hx => (by rw [z8] at hx; cases hx)⟩
  refine ⟨fun h => ⟨fun h' => (by rw [z5] at h'; cases h'.1), z6, laid_any fc (h.resolve_left (by rw [z5]; decide))⟩, fun _ _ s hs => (by rw [z6] at hs; cases hs)⟩
theorem never_of {t : Ty} (h0 : t.all = false) (h1 : t.null = false) (h2 : t.fls = false) (h3 : t.tru = false) (h4 : ¬0 < t.nums.length) (h5 : t.anyText = false) (h6 : t.texts = []) (h7 : ¬0 < t.arrays.length) (h8 : ∀ x, x ∉ t.objects) : Never t :=
  ⟨h0, ⟨h1, h2, h3, h5, by omega, nil_of h6, by omega, by
    cases h : t.objects with
    | nil => rfl
    | cons x l => exact absurd (by rw [h]; exact List.mem_cons_self ..) (h8 x)⟩⟩
theorem lowerS_self (a : ByteArray) : lowerS a a = a := by unfold lowerS; split <;> rfl
theorem upperS_self (a : ByteArray) : upperS a a = a := by unfold upperS; split <;> rfl
theorem leastA_self (a : Ar) : leastA a a = a.min := by unfold leastA; split <;> rfl
/-- A field that must be there is of a type that has values. -/
theorem must_field {o : Ob} (h : ObOk o) (w : ObW o) {n : ByteArray} (hm : (fieldO o n).2 = true) : ¬Never (fieldO o n).1 := by
  obtain ⟨i, hi, rfl⟩ := List.mem_iff_getElem.1 (fieldO_must hm)
  rw [fieldO_at w hi] at hm ⊢
  exact h.never i _ _ hm
theorem apart_self {a b : Ty} (h : ApartP a b) : a = b → Formed a → Bw a → Never a := by
  induction h with
  | @mk a b w n tx ln it at' an am af iht ihf =>
    intro e fa wa
    subst e
    by_cases ha : a.all = true
    · rw [laid_of_all ha] at w
      exact absurd ⟨rfl, rfl⟩ w.1
    have e := laid_of_not (t := a) (by simpa using ha)
    have hf : ∀ {x y : Bool}, ¬(x = true ∧ x = true) → x = false := fun h => by
      rename_i x _; cases x
      · rfl
      · exact absurd ⟨rfl, rfl⟩ h
    simp only [e] at w n tx ln it at' an am af iht ihf
    refine never_of (by simpa using ha) (hf (y := true) w.1) (hf (y := true) w.2.1) (hf (y := true) w.2.2) (fun h => ?_) ?_ ?_ (fun h => ?_) fun x hx => ?_
    · have hh := n h h
      rw [lowerS_self, upperS_self] at hh
      have := ((fm_spans fa).ok _ (List.getElem_mem h)).order hh.1 hh.2.1
      have h3 := hh.2.2
      dsimp only at h3
      omega
    · cases hx : a.anyText with
      | false => rfl
      | true => exact absurd ⟨hx, hx⟩ (tx.1 (.inl hx)).1
    · cases hx : a.anyText with
      | true => exact (tx.1 (.inl hx)).2.1
      | false =>
        cases ht : a.texts with
        | nil => rfl
        | cons s l => exact absurd (by rw [ht]; exact List.mem_cons_self ..) (tx.2 hx hx s (by rw [ht]; exact List.mem_cons_self ..))
    · have ok := fm_arr fa _ (List.getElem_mem h)
      have hno : ¬NoLen a.arrays[0] a.arrays[0] := by
        unfold NoLen
        rw [leastA_self]
        rintro (h | h) <;> (have := ok.le h.1; omega)
      have h1 := ln h h hno
      rw [leastA_self] at h1
      have h2 := iht h h hno trivial (fm_item fa _ (List.getElem_mem h)) (bw_item wa _ (List.getElem_mem h))
      have h3 := ok.never.1 h2
      have := ok.le (by omega)
      omega
    · have wx := bw_obj wa x hx
      have hm : (fieldO x (at' x x)).2 = true := (am x hx x hx).elim id id
      exact must_field (fm_obj fa x hx) wx hm (ihf x hx x hx rfl ((fl_of fa).fieldO hx wx _) (wa.fieldO hx _))
theorem top_apart {t c : Ty} (h : ApartP t c) : t.all = true → Formed c → Bw c → Never c := by
  induction h with
  | @mk t c w n tx ln it at' an am af iht ihf =>
    intro ht fc wc
    have e := laid_of_all ht
    by_cases hc : c.all = true
    · rw [e, laid_of_all hc] at w
      exact absurd ⟨rfl, rfl⟩ w.1
    have ec := laid_of_not (t := c) (by simpa using hc)
    simp only [e, ec] at w n tx ln it at' an am af iht ihf
    have hlt : 0 < tyLaid.arrays.length := Nat.zero_lt_succ 0
    have hf : ∀ {x : Bool}, ¬(true = true ∧ x = true) → x = false := fun {x} h => by
      cases x
      · rfl
      · exact absurd ⟨rfl, rfl⟩ h
    have hany : c.anyText = false := hf (tx.1 (.inl rfl)).1
    refine never_of (by simpa using hc) (hf w.1) (hf w.2.1) (hf w.2.2) (fun h => ?_) hany (tx.1 (.inl rfl)).2.2 (fun h => ?_) fun x hx => ?_
    · have hh := n (Nat.zero_lt_succ 0) h
      have e1 : lowerS ⟨#[]⟩ c.nums[0].low = c.nums[0].low := by unfold lowerS; rw [if_pos (.inl rfl)]
      have e2 : upperS ⟨#[]⟩ c.nums[0].high = c.nums[0].high := by unfold upperS; rw [if_pos (.inl rfl)]
      have hh : Hollow ⟨lowerS ⟨#[]⟩ c.nums[0].low, upperS ⟨#[]⟩ c.nums[0].high⟩ := hh
      rw [e1, e2] at hh
      have := ((fm_spans fc).ok _ (List.getElem_mem h)).order hh.1 hh.2.1
      have h3 := hh.2.2
      dsimp only at h3
      omega
    · have ok := fm_arr fc _ (List.getElem_mem h)
      have e1 : leastA arOpen c.arrays[0] = c.arrays[0].min := by
        have := ok.min
        have h0 : arOpen.min = 0 := rfl
        unfold leastA; rw [h0]; split <;> omega
      have hno : ¬NoLen arOpen c.arrays[0] := by
        unfold NoLen
        rw [e1]
        rintro (h | h)
        · exact absurd h.1 (by decide)
        · have := ok.le h.1; omega
      have h1 : 0 < leastA arOpen c.arrays[0] := ln hlt h hno
      rw [e1] at h1
      have h2 := iht hlt h hno rfl (fm_item fc _ (List.getElem_mem h)) (bw_item wc _ (List.getElem_mem h))
      have h3 := ok.never.1 h2
      have := ok.le (by omega)
      omega
    · have hm0 : obOpen ∈ tyLaid.objects := List.mem_singleton.2 rfl
      have wx := bw_obj wc x hx
      have hnm : ∀ m, fieldO obOpen m = (tyAll, false) := fun m => fieldO_out (o := obOpen) (by intro h; cases h)
      have hm := am obOpen hm0 x hx
      rw [hnm] at hm
      have hm := hm.resolve_left (by decide)
      exact must_field (fm_obj fc x hx) wx hm (ihf obOpen hm0 x hx (by rw [hnm]; rfl) ((fl_of fc).fieldO hx wx _) (wc.fieldO hx _))

/-! Apart goes with Below -/
theorem lowerS_e {b c : ByteArray} (h : b = ⟨#[]⟩) : lowerS b c = c := by unfold lowerS; rw [if_pos (.inl h)]
theorem lowerS_r {b c : ByteArray} (h : c = ⟨#[]⟩) : lowerS b c = b := by
  unfold lowerS
  split
  · rename_i hh; rcases hh with hh | hh
    · rw [h, hh]
    · exact absurd h hh.1
  · rfl
theorem lowerS_lt {b c : ByteArray} (h : c ≠ ⟨#[]⟩) (k : numCmp b c < 0) : lowerS b c = c := by unfold lowerS; rw [if_pos (.inr ⟨h, k⟩)]
theorem lowerS_ge {b c : ByteArray} (h : b ≠ ⟨#[]⟩) (k : ¬numCmp b c < 0) : lowerS b c = b := by unfold lowerS; rw [if_neg (by rintro (e | e); exact h e; exact k e.2)]
theorem upperS_e {b c : ByteArray} (h : b = ⟨#[]⟩) : upperS b c = c := by unfold upperS; rw [if_pos (.inl h)]
theorem upperS_r {b c : ByteArray} (h : c = ⟨#[]⟩) : upperS b c = b := by
  unfold upperS
  split
  · rename_i hh; rcases hh with hh | hh
    · rw [h, hh]
    · exact absurd h hh.1
  · rfl
theorem upperS_lt {b c : ByteArray} (h : c ≠ ⟨#[]⟩) (k : 0 < numCmp b c) : upperS b c = c := by unfold upperS; rw [if_pos (.inr ⟨h, k⟩)]
theorem upperS_ge {b c : ByteArray} (h : b ≠ ⟨#[]⟩) (k : ¬0 < numCmp b c) : upperS b c = b := by unfold upperS; rw [if_neg (by rintro (e | e); exact h e; exact k e.2)]
theorem lower_up {a b c : ByteArray} (ha : BoundOk a) (hb : BoundOk b) (hc : BoundOk c) (h : b = ⟨#[]⟩ ∨ (a ≠ ⟨#[]⟩ ∧ numCmp b a ≤ 0)) (k : lowerS b c ≠ ⟨#[]⟩) : lowerS a c ≠ ⟨#[]⟩ ∧ numCmp (lowerS b c) (lowerS a c) ≤ 0 := by
  have tr := num_TO.trans
  have nz : ∀ {s : ByteArray}, BoundOk s → s ≠ ⟨#[]⟩ → NumOk s := fun h1 h2 => h1.resolve_left h2
  have self : ∀ {s : ByteArray}, BoundOk s → s ≠ ⟨#[]⟩ → numCmp s s ≤ 0 := fun h1 h2 => by rw [num_self (nz h1 h2)]; exact Int.le_refl 0
  by_cases eb : b = ⟨#[]⟩
  · rw [lowerS_e eb] at k ⊢
    by_cases ea : a = ⟨#[]⟩
    · rw [lowerS_e ea]; exact ⟨k, self hc k⟩
    · have := num_TO.anti a c (nz ha ea) (nz hc k)
      by_cases h2 : numCmp a c < 0
      · rw [lowerS_lt k h2]; exact ⟨k, self hc k⟩
      · rw [lowerS_ge ea h2]; exact ⟨ea, by omega⟩
  · obtain ⟨a1, a2⟩ := h.resolve_left eb
    have nb := nz hb eb
    have na := nz ha a1
    by_cases ec : c = ⟨#[]⟩
    · rw [lowerS_r ec, lowerS_r ec]
      exact ⟨a1, a2⟩
    · have nc := nz hc ec
      by_cases hb' : numCmp b c < 0
      · rw [lowerS_lt ec hb']
        by_cases ha' : numCmp a c < 0
        · rw [lowerS_lt ec ha']; exact ⟨ec, self hc ec⟩
        · rw [lowerS_ge a1 ha']
          have := num_TO.anti a c na nc
          exact ⟨a1, by omega⟩
      · rw [lowerS_ge eb hb']
        by_cases ha' : numCmp a c < 0
        · rw [lowerS_lt ec ha']
          exact ⟨ec, tr _ _ _ nb na nc a2 (by omega)⟩
        · rw [lowerS_ge a1 ha']
          exact ⟨a1, a2⟩
theorem upper_down {a b c : ByteArray} (ha : BoundOk a) (hb : BoundOk b) (hc : BoundOk c) (h : b = ⟨#[]⟩ ∨ (a ≠ ⟨#[]⟩ ∧ numCmp a b ≤ 0)) (k : upperS b c ≠ ⟨#[]⟩) : upperS a c ≠ ⟨#[]⟩ ∧ numCmp (upperS a c) (upperS b c) ≤ 0 := by
  have tr := num_TO.trans
  have nz : ∀ {s : ByteArray}, BoundOk s → s ≠ ⟨#[]⟩ → NumOk s := fun h1 h2 => h1.resolve_left h2
  have self : ∀ {s : ByteArray}, BoundOk s → s ≠ ⟨#[]⟩ → numCmp s s ≤ 0 := fun h1 h2 => by rw [num_self (nz h1 h2)]; exact Int.le_refl 0
  by_cases eb : b = ⟨#[]⟩
  · rw [upperS_e eb] at k ⊢
    by_cases ea : a = ⟨#[]⟩
    · rw [upperS_e ea]; exact ⟨k, self hc k⟩
    · by_cases h2 : 0 < numCmp a c
      · rw [upperS_lt k h2]; exact ⟨k, self hc k⟩
      · rw [upperS_ge ea h2]; exact ⟨ea, by omega⟩
  · obtain ⟨a1, a2⟩ := h.resolve_left eb
    have nb := nz hb eb
    have na := nz ha a1
    by_cases ec : c = ⟨#[]⟩
    · rw [upperS_r ec, upperS_r ec]
      exact ⟨a1, a2⟩
    · have nc := nz hc ec
      by_cases hb' : 0 < numCmp b c
      · rw [upperS_lt ec hb']
        by_cases ha' : 0 < numCmp a c
        · rw [upperS_lt ec ha']; exact ⟨ec, self hc ec⟩
        · rw [upperS_ge a1 ha']
          exact ⟨a1, by omega⟩
      · rw [upperS_ge eb hb']
        by_cases ha' : 0 < numCmp a c
        · rw [upperS_lt ec ha']
          have := num_TO.anti a c na nc
          exact ⟨ec, tr _ _ _ nc na nb (by omega) a2⟩
        · rw [upperS_ge a1 ha']
          exact ⟨a1, a2⟩
theorem span_apart {a b c : Sp} (ha : Sp.Ok a) (hb : SpOk b) (hc : SpOk c) (h : SpanIn a b) (k : Hollow ⟨lowerS b.low c.low, upperS b.high c.high⟩) : Hollow ⟨lowerS a.low c.low, upperS a.high c.high⟩ := by
  have a1 : BoundOk a.low := ha.low
  have a2 : BoundOk a.high := ha.high
  rcases h with h | ⟨h1, h2⟩
  · have := ha.order h.1 h.2.1
    have := h.2.2
    omega
  obtain ⟨l1, l2⟩ := lower_up a1 hb.1 hc.1 h1 k.1
  obtain ⟨u1, u2⟩ := upper_down a2 hb.2 hc.2 h2 k.2.1
  refine ⟨l1, u1, ?_⟩
  have k3 := k.2.2
  dsimp only at k3 l1 l2 u1 u2 ⊢
  have nl := (lowerS_ok a1 hc.1).resolve_left l1
  have nu := (upperS_ok a2 hc.2).resolve_left u1
  have nl' := (lowerS_ok hb.1 hc.1).resolve_left k.1
  have nu' := (upperS_ok hb.2 hc.2).resolve_left k.2.1
  by_cases hle : numCmp (lowerS a.low c.low) (upperS a.high c.high) ≤ 0
  · have := num_TO.trans _ _ _ nl' nl nu' l2 (num_TO.trans _ _ _ nl nu nu' hle u2)
    omega
  · omega
theorem below_apart {a b : Ty} (h : BelowP a b) : Formed a → Formed b → Bw a → Bw b → ∀ c, Formed c → Bw c → ApartP b c → ApartP a c := by
  induction h with
  | never h => exact fun _ _ _ _ c fc _ _ => apart_none (kinds_never h) fc
  | @all a b h => exact fun fa _ wa _ c fc wc k => apart_sym (apart_none (top_apart k h fc wc) fa) wc wa
  | @mk a b w n tx al ar it pick pm mu fl rs iht ihf ihr =>
    intro fa fb wa wb c fc wc k
    by_cases hb : b.all = true
    · exact apart_sym (apart_none (top_apart k hb fc wc) fa) wc wa
    have lb := laid_of_not (t := b) (by simpa using hb)
    have fla := fl_laid fa
    have wla := wa.laid
    have flc := fl_laid fc
    have wlc := wc.laid
    obtain ⟨kw, kn, kt, ka, ko⟩ := apartP_iff.1 k
    rw [lb] at kw kn kt ka ko
    refine apartP_iff.2 ⟨⟨fun h => kw.1 ⟨w.1 h.1, h.2⟩, fun h => kw.2.1 ⟨w.2.1 h.1, h.2⟩, fun h => kw.2.2 ⟨w.2.2 h.1, h.2⟩⟩, fun h h' => ?_, ⟨fun h => ?_, fun h h' s hs hs' => ?_⟩, ⟨fun h h' hno => ?_, fun h h' hno => ?_⟩, fun x hx z hz => ?_⟩
    · obtain ⟨h1, s1⟩ := n h
      exact span_apart (fla.spans.ok _ (List.getElem_mem h)) (bw_nums wb _ (List.getElem_mem h1)) (bw_nums wlc _ (List.getElem_mem h')) s1 (kn h1 h')
    · cases xa : (laid a).anyText with
      | true =>
        have hbx : b.anyText = true := tx.elim id fun t => by rw [xa] at t; cases t.1
        obtain ⟨p, q, r⟩ := kt.1 (.inl hbx)
        exact ⟨fun h => p ⟨hbx, h.2⟩, laid_any fa xa, r⟩
      | false =>
        have hcx := h.resolve_left (by rw [xa]; decide)
        obtain ⟨p, q, r⟩ := kt.1 (.inr hcx)
        refine ⟨fun h => (by cases h.1), ?_, r⟩
        rcases tx with t | ⟨t1, t2⟩
        · exact absurd ⟨t, hcx⟩ p
        · cases ht : (laid a).texts with
          | nil => rfl
          | cons s l => have := t2 s (by rw [ht]; exact List.mem_cons_self ..); rw [q] at this; cases this
    · rcases tx with t | ⟨t1, t2⟩
      · have := (kt.1 (.inl t)).2.2
        rw [this] at hs'; cases hs'
      · cases hbx : b.anyText with
        | true => have := (kt.1 (.inl hbx)).2.2; rw [this] at hs'; cases hs'
        | false => exact kt.2 hbx h' s (t2 s hs) hs'
    · have h1 := al h
      have hr := ar h h1
      have e : leastA b.arrays[0] (laid c).arrays[0] ≤ leastA (laid a).arrays[0] (laid c).arrays[0] := by
        have := hr.min
        unfold leastA; split <;> split <;> omega
      have hno' : ¬NoLen b.arrays[0] (laid c).arrays[0] := by
        rintro (h2 | h2)
        · have := hr.max h2.1
          exact hno (.inl ⟨this.1, by omega⟩)
        · exact hno (.inr ⟨h2.1, by omega⟩)
      have := ka.len h1 h' hno'
      omega
    · have h1 := al h
      have hr := ar h h1
      have e : leastA b.arrays[0] (laid c).arrays[0] ≤ leastA (laid a).arrays[0] (laid c).arrays[0] := by
        have := hr.min
        unfold leastA; split <;> split <;> omega
      have hno' : ¬NoLen b.arrays[0] (laid c).arrays[0] := by
        rintro (h2 | h2)
        · have := hr.max h2.1
          exact hno (.inl ⟨this.1, by omega⟩)
        · exact hno (.inr ⟨h2.1, by omega⟩)
      have hpos := ka.len h1 h' hno'
      have hz : (laid a).arrays[0].max ≠ 0 := fun ez => hno (.inl ⟨by omega, by omega⟩)
      exact iht h h1 hz (fla.item _ (List.getElem_mem h)) (fm_item fb _ (List.getElem_mem h1)) (bw_item wla _ (List.getElem_mem h)) (bw_item wb _ (List.getElem_mem h1)) _ (flc.item _ (List.getElem_mem h')) (bw_item wlc _ (List.getElem_mem h')) (ka.item h1 h' hno')
    · have hy := pm x hx
      obtain ⟨m, hn, hm, hap⟩ := ko _ hy z hz
      have wx := bw_obj wla x hx
      have wy := bw_obj wb _ hy
      have wz := bw_obj wlc z hz
      have hxm : (fieldO x m).2 = true ∨ (fieldO z m).2 = true := hm.imp (fun e => mu x hx m (.inr (fieldO_must e)) e) id
      refine ⟨m, hxm.imp fieldO_must fieldO_must, hxm, ?_⟩
      have fz : Formed (fieldO z m).1 := flc.fieldO hz wz m
      by_cases hn : Names2 x (pick x) m
      · exact ihf x hx m hn (fla.fieldO hx wx m) ((fl_of fb).fieldO hy wy m) (wla.fieldO hx m) (wb.fieldO hy m) _ fz (wlc.fieldO hz m) hap
      · have e1 : m ∉ x.names := fun e => hn (.inl e)
        have e2 : m ∉ (pick x).names := fun e => hn (.inr e)
        rw [fieldO_out e2] at hap
        rw [fieldO_out e1]
        exact ihr x hx (fla.rest x hx) (fm_rest fb _ hy) (bw_rest wla x hx) (bw_rest wb _ hy) _ fz (wlc.fieldO hz m) hap
end Go.Ab
set_option linter.unusedVariables false
set_option linter.unusedSimpArgs false
namespace Go.Ab
/-! ### Bounds -/
theorem lowerS_l {a b : ByteArray} (ha : BoundOk a) (hb : BoundOk b) (h : a ≠ ⟨#[]⟩) : lowerS a b ≠ ⟨#[]⟩ ∧ numCmp a (lowerS a b) ≤ 0 := by
  have na := ha.resolve_left h
  unfold lowerS
  split
  · rename_i e
    rcases e with e | e
    · exact absurd e h
    · exact ⟨e.1, by have := e.2; omega⟩
  · exact ⟨h, by rw [num_self na]; exact Int.le_refl _⟩
theorem lowerS_b {a b : ByteArray} (ha : BoundOk a) (hb : BoundOk b) (h : b ≠ ⟨#[]⟩) : lowerS a b ≠ ⟨#[]⟩ ∧ numCmp b (lowerS a b) ≤ 0 := by
  have nb := hb.resolve_left h
  unfold lowerS
  split
  · exact ⟨h, by rw [num_self nb]; exact Int.le_refl _⟩
  · rename_i e
    have e1 : a ≠ ⟨#[]⟩ := fun x => e (.inl x)
    have e2 : ¬numCmp a b < 0 := fun x => e (.inr ⟨h, x⟩)
    have := num_TO.anti _ _ (ha.resolve_left e1) nb
    exact ⟨e1, by omega⟩
theorem upperS_l {a b : ByteArray} (ha : BoundOk a) (hb : BoundOk b) (h : a ≠ ⟨#[]⟩) : upperS a b ≠ ⟨#[]⟩ ∧ numCmp (upperS a b) a ≤ 0 := by
  have na := ha.resolve_left h
  unfold upperS
  split
  · rename_i e
    rcases e with e | e
    · exact absurd e h
    · have := num_TO.anti _ _ na (hb.resolve_left e.1)
      exact ⟨e.1, by have := e.2; omega⟩
  · exact ⟨h, by rw [num_self na]; exact Int.le_refl _⟩
theorem upperS_b {a b : ByteArray} (ha : BoundOk a) (hb : BoundOk b) (h : b ≠ ⟨#[]⟩) : upperS a b ≠ ⟨#[]⟩ ∧ numCmp (upperS a b) b ≤ 0 := by
  have nb := hb.resolve_left h
  unfold upperS
  split
  · exact ⟨h, by rw [num_self nb]; exact Int.le_refl _⟩
  · rename_i e
    have e1 : a ≠ ⟨#[]⟩ := fun x => e (.inl x)
    have e2 : ¬0 < numCmp a b := fun x => e (.inr ⟨h, x⟩)
    exact ⟨e1, by omega⟩
/-- A number of two spans, if there is one. -/
structure NumS (a b : Sp) (n : ByteArray) : Prop where
  ok : NumOk n
  both : ¬Hollow ⟨lowerS a.low b.low, upperS a.high b.high⟩ → InSp n a ∧ InSp n b
theorem zero_ok : NumOk zeroS := by
  have e : digits zeroS = zeroS := by decide
  refine ⟨fun i hi => ?_, ?_, fun _ => rfl⟩
  · rw [e] at hi ⊢
    have : i = 0 := by have : zeroS.size = 1 := rfl; omega
    subst this
    exact ⟨by decide, by decide⟩
  · rw [e]; decide
theorem numS_low {a b : Sp} (ha : SpOk a) (hb : SpOk b) (h : lowerS a.low b.low ≠ ⟨#[]⟩) : NumS a b (lowerS a.low b.low) := by
  have ln := (lowerS_ok ha.1 hb.1).resolve_left h
  have tr := num_TO.trans
  refine ⟨ln, fun hh => ?_⟩
  have up : ∀ s, NumOk s → upperS a.high b.high ≠ ⟨#[]⟩ → numCmp (upperS a.high b.high) s ≤ 0 → numCmp (lowerS a.low b.low) s ≤ 0 := fun s hs hu hle => by
    have un := (upperS_ok ha.2 hb.2).resolve_left hu
    have : ¬0 < numCmp (lowerS a.low b.low) (upperS a.high b.high) := fun x => hh ⟨h, hu, x⟩
    exact tr _ _ _ ln un hs (by omega) hle
  refine ⟨⟨fun x => ?_, fun x => ?_⟩, ⟨fun x => ?_, fun x => ?_⟩⟩
  · have := (lowerS_l ha.1 hb.1 x).2
    have := num_TO.anti _ _ ln (ha.1.resolve_left x)
    omega
  · have := upperS_l ha.2 hb.2 x
    exact up _ (ha.2.resolve_left x) this.1 this.2
  · have := (lowerS_b ha.1 hb.1 x).2
    have := num_TO.anti _ _ ln (hb.1.resolve_left x)
    omega
  · have := upperS_b ha.2 hb.2 x
    exact up _ (hb.2.resolve_left x) this.1 this.2
theorem numS_high {a b : Sp} (ha : SpOk a) (hb : SpOk b) (h0 : lowerS a.low b.low = ⟨#[]⟩) (h : upperS a.high b.high ≠ ⟨#[]⟩) : NumS a b (upperS a.high b.high) := by
  have un := (upperS_ok ha.2 hb.2).resolve_left h
  refine ⟨un, fun hh => ?_⟩
  refine ⟨⟨fun x => absurd h0 (lowerS_l ha.1 hb.1 x).1, fun x => ?_⟩, ⟨fun x => absurd h0 (lowerS_b ha.1 hb.1 x).1, fun x => ?_⟩⟩
  · exact (upperS_l ha.2 hb.2 x).2
  · exact (upperS_b ha.2 hb.2 x).2
theorem numS_zero {a b : Sp} (ha : SpOk a) (hb : SpOk b) (h0 : lowerS a.low b.low = ⟨#[]⟩) (h : upperS a.high b.high = ⟨#[]⟩) : NumS a b zeroS :=
  ⟨zero_ok, fun _ => ⟨⟨fun x => absurd h0 (lowerS_l ha.1 hb.1 x).1, fun x => absurd h (upperS_l ha.2 hb.2 x).1⟩, ⟨fun x => absurd h0 (lowerS_b ha.1 hb.1 x).1, fun x => absurd h (upperS_b ha.2 hb.2 x).1⟩⟩⟩
theorem in_notHollow {a b : Sp} (ha : SpOk a) (hb : SpOk b) {n : ByteArray} (hn : NumOk n) (ia : InSp n a) (ib : InSp n b) : ¬Hollow ⟨lowerS a.low b.low, upperS a.high b.high⟩ := fun h =>
  hollow_none (s := ⟨lowerS a.low b.low, upperS a.high b.high⟩) ⟨lowerS_ok ha.1 hb.1, upperS_ok ha.2 hb.2⟩ hn h ⟨lower_low ia.low ib.low, upper_high ia.high ib.high⟩

/-! ### Texts that go on with one byte -/
def repB (p : ByteArray) (z : UInt8) : Nat → ByteArray
  | 0 => p
  | k + 1 => repB p z k ++ ⟨#[z]⟩
theorem size_app (a b : ByteArray) : (a ++ b).size = a.size + b.size := ByteArray.size_append
theorem bt_app (a b : ByteArray) (i : Nat) : bt (a ++ b) i = if i < a.size then bt a i else bt b (i - a.size) := by
  unfold bt
  have e : (a ++ b).data.toList = a.data.toList ++ b.data.toList := by simp
  have hl : a.data.toList.length = a.size := rfl
  rw [e]
  simp only [List.getD_eq_getElem?_getD, List.getElem?_append, hl]
  split <;> rfl
theorem repB_size (p : ByteArray) (z : UInt8) : ∀ k, (repB p z k).size = p.size + k
  | 0 => rfl
  | k + 1 => by
    rw [repB, size_app, repB_size p z k]
    have : (ByteArray.mk #[z]).size = 1 := rfl
    omega
theorem bt_repB (p : ByteArray) (z : UInt8) : ∀ k i, bt (repB p z k) i = if i < p.size then bt p i else if i < p.size + k then z.toNat else 0
  | 0, i => by
    rw [repB]
    split
    · rfl
    · rw [if_neg (by omega)]; exact bt_out (by omega)
  | k + 1, i => by
    rw [repB, bt_app, repB_size, bt_repB p z k i]
    by_cases h : i < p.size
    · rw [if_pos (by omega), if_pos h, if_pos h]
    · rw [if_neg h, if_neg h]
      by_cases h2 : i < p.size + k
      · rw [if_pos h2, if_pos h2, if_pos (by omega)]
      · rw [if_neg h2]
        by_cases h3 : i < p.size + (k + 1)
        · rw [if_pos h3]
          have : i - (p.size + k) = 0 := by omega
          rw [this]; rfl
        · rw [if_neg h3]
          exact bt_out (by have : (ByteArray.mk #[z]).size = 1 := rfl; omega)
/-! ### Far numbers -/
def oneS : ByteArray := ⟨#[49]⟩
def mOneS : ByteArray := ⟨#[45, 49]⟩
theorem farP_ok (k : Nat) : NumOk (repB oneS 48 k) := by
  have h0 : bt (repB oneS 48 k) 0 = 49 := by rw [bt_repB, if_pos (by decide)]; decide
  have e : digits (repB oneS 48 k) = repB oneS 48 k := if_neg (fun h => by have := h.2; omega)
  refine ⟨fun i hi => ?_, ?_, fun h => ?_⟩
  · rw [e] at hi ⊢
    rw [repB_size] at hi
    have h1 : oneS.size = 1 := rfl
    rw [bt_repB]
    by_cases h : i < oneS.size
    · rw [if_pos h]
      have : i = 0 := by omega
      subst this
      exact ⟨by decide, by decide⟩
    · rw [if_neg h, if_pos hi]; exact ⟨by decide, by decide⟩
  · rw [e, repB_size]; have : oneS.size = 1 := rfl; omega
  · rw [e, h0] at h; omega
theorem farP_gt {k : Nat} {x : ByteArray} (hx : x.size ≤ k) : 0 < numCmp (repB oneS 48 k) x := by
  have h0 : bt (repB oneS 48 k) 0 = 49 := by rw [bt_repB, if_pos (by decide)]; decide
  have hs : (repB oneS 48 k).size = k + 1 := by rw [repB_size]; have : oneS.size = 1 := rfl; omega
  unfold numCmp
  rw [if_neg (by omega)]
  split
  · omega
  · unfold numPos
    rw [if_neg (by omega), if_neg (by omega)]; omega
theorem farM_tail (k : Nat) (i : Nat) : bt (tail1 (repB mOneS 48 k)) i = bt (repB mOneS 48 k) (1 + i) := bt_tail i
theorem farM_ok (k : Nat) : NumOk (repB mOneS 48 k) := by
  have h0 : bt (repB mOneS 48 k) 0 = 45 := by rw [bt_repB, if_pos (by decide)]; decide
  have hs : (repB mOneS 48 k).size = k + 2 := by rw [repB_size]; have : mOneS.size = 2 := rfl; omega
  have e : digits (repB mOneS 48 k) = tail1 (repB mOneS 48 k) := if_pos ⟨by omega, h0⟩
  have h1 : bt (tail1 (repB mOneS 48 k)) 0 = 49 := by rw [farM_tail, bt_repB, if_pos (by decide)]; decide
  refine ⟨fun i hi => ?_, ?_, fun h => ?_⟩
  · rw [e] at hi ⊢
    rw [tail1_size, hs] at hi
    cases i with
    | zero => rw [h1]; exact ⟨by decide, by decide⟩
    | succ i =>
      rw [farM_tail, bt_repB, if_neg (by have : mOneS.size = 2 := rfl; omega), if_pos (by have : mOneS.size = 2 := rfl; omega)]
      exact ⟨by decide, by decide⟩
  · rw [e, tail1_size, hs]; omega
  · rw [e, h1] at h; omega
theorem farM_lt {k : Nat} {x : ByteArray} (hx : x.size ≤ k) : numCmp (repB mOneS 48 k) x < 0 := by
  have h0 : bt (repB mOneS 48 k) 0 = 45 := by rw [bt_repB, if_pos (by decide)]; decide
  have hs : (repB mOneS 48 k).size = k + 2 := by rw [repB_size]; have : mOneS.size = 2 := rfl; omega
  unfold numCmp
  rw [if_pos h0]
  split
  · unfold numPos
    rw [tail1_size, tail1_size, if_neg (by omega), if_pos (by omega)]; omega
  · omega
/-! ### Long texts -/
def xS : ByteArray := ⟨#[120]⟩
theorem long_utf (k : Nat) : Utf (repB xS 120 k) := by
  have hs : (repB xS 120 k).size = k + 1 := by rw [repB_size]; have : xS.size = 1 := rfl; omega
  have hb : ∀ i, i < k + 1 → bt (repB xS 120 k) i = 120 := fun i hi => by
    rw [bt_repB]
    split
    · rename_i h
      have h : i < 1 := h
      have : i = 0 := by omega
      subst this; decide
    · rw [if_pos (by have : xS.size = 1 := rfl; omega)]; decide
  have : ∀ m i, i + m = k + 1 → UtfFrom (repB xS 120 k) i := by
    intro m
    induction m with
    | zero => intro i hi; exact .done (by omega)
    | succ m ih =>
      intro i hi
      have hw : wid (repB xS 120 k) i = 1 := by rw [wid_eq (hb i (by omega))]; unfold widc; rw [if_pos (by omega)]
      exact .step (by omega) (by omega) (by rw [hw]; exact ih (i + 1) (by omega))
  exact this (k + 1) 0 (by omega)
end Go.Ab
set_option linter.unusedVariables false
set_option linter.unusedSimpArgs false
namespace Go.Ab
/-! ### Values that are made -/
def vk (k : Int) : Val := .mk k ⟨#[]⟩ ⟨#[]⟩ [] []
def vNum (n : ByteArray) : Val := .mk 3 n ⟨#[]⟩ [] []
def vTxt (s : ByteArray) : Val := .mk 4 ⟨#[]⟩ s [] []
def vArr (l : List Val) : Val := .mk 5 ⟨#[]⟩ ⟨#[]⟩ l []
theorem utf_empty : Utf ⟨#[]⟩ := .done (Nat.le_refl 0)
theorem vk_ok {k : Int} (h : k = 0 ∨ k = 1 ∨ k = 2 ∨ k = 5 ∨ k = 6) : VOk (vk k) := by
  refine .mk (v := vk k) ?_ ?_ ?_ (fun _ => rfl) ?_ (fun _ => rfl) (fun _ => rfl) (fun _ => rfl) (fun _ => rfl) (fun _ => rise_nil) (fun x hx => by cases hx)
  · show 0 ≤ k; omega
  · show k ≤ 6; omega
  · intro (e : k = 3); omega
  · intro (e : k = 4); omega
theorem vNum_ok {n : ByteArray} (h : NumOk n) : VOk (vNum n) :=
  .mk (v := vNum n) (by show (0 : Int) ≤ 3; omega) (by show (3 : Int) ≤ 6; omega) (fun _ => h) (fun e => absurd rfl e) (fun e => absurd e (by show (3 : Int) ≠ 4; omega)) (fun _ => rfl) (fun _ => rfl) (fun _ => rfl) (fun e => absurd e (by show (3 : Int) ≠ 6; omega)) (fun e => absurd e (by show (3 : Int) ≠ 6; omega)) (fun x hx => by cases hx)
theorem vTxt_ok {n : ByteArray} (h : Utf n) : VOk (vTxt n) :=
  .mk (v := vTxt n) (by show (0 : Int) ≤ 4; omega) (by show (4 : Int) ≤ 6; omega) (fun e => absurd e (by show (4 : Int) ≠ 3; omega)) (fun e => rfl) (fun e => h) (fun e => absurd rfl e) (fun _ => rfl) (fun _ => rfl) (fun e => absurd e (by show (4 : Int) ≠ 6; omega)) (fun e => absurd e (by show (4 : Int) ≠ 6; omega)) (fun x hx => by cases hx)
theorem vArr_ok {l : List Val} (h : ∀ x ∈ l, VOk x) : VOk (vArr l) :=
  .mk (v := vArr l) (by show (0 : Int) ≤ 5; omega) (by show (5 : Int) ≤ 6; omega) (fun e => absurd e (by show (5 : Int) ≠ 3; omega)) (fun e => rfl) (fun e => absurd e (by show (5 : Int) ≠ 4; omega)) (fun e => rfl) (fun e => absurd e (by show ¬(5 : Int) < 5; omega)) (fun _ => rfl) (fun e => absurd e (by show (5 : Int) ≠ 6; omega)) (fun e => absurd e (by show (5 : Int) ≠ 6; omega)) h
theorem vk_get {k : Int} (n : ByteArray) : (vk k).get n = none := rfl

/-- Lists of no great length, all the way down. -/
inductive SmV : Val → Prop where
  | mk {v : Val} (items : v.items.length ≤ 100000) (keys : v.keys.length ≤ 100000) (all : ∀ x ∈ v.items, SmV x) : SmV v
theorem SmV.items {v : Val} (h : SmV v) : v.items.length ≤ 100000 := by cases h; assumption
theorem SmV.keys {v : Val} (h : SmV v) : v.keys.length ≤ 100000 := by cases h; assumption
theorem SmV.all {v : Val} (h : SmV v) : ∀ x ∈ v.items, SmV x := by cases h; assumption
structure Vg (v : Val) : Prop where
  ok : VOk v
  sm : SmV v
theorem sm_flat {v : Val} (h : v.items = []) (k : v.keys = []) : SmV v := .mk (by rw [h]; exact Nat.zero_le _) (by rw [k]; exact Nat.zero_le _) (fun x hx => by rw [h] at hx; cases hx)
theorem vk_g {k : Int} (h : k = 0 ∨ k = 1 ∨ k = 2 ∨ k = 5 ∨ k = 6) : Vg (vk k) := ⟨vk_ok h, sm_flat rfl rfl⟩
theorem vNum_g {n : ByteArray} (h : NumOk n) : Vg (vNum n) := ⟨vNum_ok h, sm_flat rfl rfl⟩
theorem vTxt_g {n : ByteArray} (h : Utf n) : Vg (vTxt n) := ⟨vTxt_ok h, sm_flat rfl rfl⟩
theorem vArr_g {l : List Val} (h : ∀ x ∈ l, Vg x) (hl : l.length ≤ 100000) : Vg (vArr l) := ⟨vArr_ok fun x hx => (h x hx).ok, .mk hl (Nat.zero_le _) fun x hx => (h x hx).sm⟩
/-! ### A value of both -/
structure ScalS (x y : Ty) (v : Val) (f : Bool) : Prop where
  ok : Vg v
  yes : f = true → InT x v ∧ InT y v
  no : f = false → WordsAp x y ∧ NumsAp x y ∧ TextsAp x y
structure BothS (a b : Ty) (v : Val) (f : Bool) : Prop where
  ok : Vg v
  yes : f = true → InT a v ∧ InT b v
  no : f = false → ApartP a b
structure BothArS (a b : Ar) (v : Val) (f : Bool) : Prop where
  ok : Vg v
  yes : f = true → v.kind = 5 ∧ InAr v.items a ∧ InAr v.items b
  no : f = false → NoLen a b ∨ (0 < leastA a b ∧ ApartP a.item b.item)
structure BothObS (a b : Ob) (v : Val) (f : Bool) : Prop where
  ok : Vg v
  yes : f = true → v.kind = 6 ∧ InObF v a ∧ InObF v b
  no : f = false → UnlikeP a b
/-- An object that is being made: after k names. -/
structure ObjI (a b : Ob) (l : List ByteArray) (k : Nat) (v : Val) : Prop where
  cnt : v.keys.length ≤ k
  ok : Vg v
  kind : v.kind = 6
  f : ∀ n y, v.get n = some y → InT (fieldO a n).1 y ∧ InT (fieldO b n).1 y
  m : ∀ j (h : j < l.length), j < k → ((fieldO a l[j]).2 = true ∨ (fieldO b l[j]).2 = true) → v.get l[j] ≠ none
structure WithS (v : Val) (key : ByteArray) (item : Val) (v' : Val) : Prop where
  cnt : v'.keys.length ≤ v.keys.length + 1
  ok : Vg v'
  kind : v'.kind = 6
  get : ∀ n, v'.get n = if n = key then some item else v.get n
structure WithoutS (v : Val) (key : ByteArray) (v' : Val) : Prop where
  cnt : v'.keys.length ≤ v.keys.length
  ok : Vg v'
  kind : v'.kind = 6
  get : ∀ n, v'.get n = if n = key then none else v.get n
theorem objI_zero (a b : Ob) (l : List ByteArray) : ObjI a b l 0 (vk 6) :=
  ⟨Nat.le_refl 0, vk_g (by omega), rfl, fun n y h => (by rw [vk_get] at h; cases h), fun j h k => absurd k (Nat.not_lt_zero j)⟩
theorem ObjI.skip {a b : Ob} {l : List ByteArray} {k : Nat} {v : Val} (i : ObjI a b l k v) (h : k < l.length) (n1 : (fieldO a l[k]).2 = false) (n2 : (fieldO b l[k]).2 = false) : ObjI a b l (k + 1) v := by
  refine ⟨Nat.le_succ_of_le i.cnt, i.ok, i.kind, i.f, fun j hj hk hm => ?_⟩
  by_cases e : j = k
  · subst e; rw [n1, n2] at hm; rcases hm with hm | hm <;> cases hm
  · exact i.m j hj (by omega) hm
theorem ObjI.put {a b : Ob} {l : List ByteArray} {k : Nat} {v v' w : Val} (i : ObjI a b l k v) (h : k < l.length) (hw : WithS v l[k] w v') (ha : InT (fieldO a l[k]).1 w) (hb : InT (fieldO b l[k]).1 w) : ObjI a b l (k + 1) v' := by
  refine ⟨Nat.le_trans hw.cnt (Nat.add_le_add_right i.cnt 1), hw.ok, hw.kind, fun n y hg => ?_, fun j hj hk hm => ?_⟩
  · rw [hw.get] at hg
    split at hg
    · rename_i e; cases hg; subst e; exact ⟨ha, hb⟩
    · exact i.f n y hg
  · rw [hw.get]
    split
    · intro e; cases e
    · rename_i e
      exact i.m j hj (by rcases Nat.lt_or_ge j k with x | x; exact x; exact absurd (by congr; omega) e) hm
theorem ObjI.done {a b : Ob} {l : List ByteArray} {k : Nat} {v : Val} (i : ObjI a b l k v) (hk : l.length ≤ k) (hl : NamesOf a b l) : InObF v a ∧ InObF v b := by
  have m : ∀ n, n ∈ l → ((fieldO a n).2 = true ∨ (fieldO b n).2 = true) → v.get n ≠ none := fun n hn hm => by
    obtain ⟨j, hj, rfl⟩ := List.mem_iff_getElem.1 hn
    exact i.m j hj (by omega) hm
  exact ⟨⟨fun n y h => (i.f n y h).1, fun n h => m n ((hl.mem n).2 (.inl (fieldO_must h))) (.inl h)⟩, ⟨fun n y h => (i.f n y h).2, fun n h => m n ((hl.mem n).2 (.inr (fieldO_must h))) (.inr h)⟩⟩
theorem inAr_rep {x : Val} {n : Nat} {a : Ar} (h1 : a.min ≤ n) (h2 : 0 ≤ a.max → (n : Int) ≤ a.max) (h3 : 0 < n → InT a.item x) : InAr (List.replicate n x) a :=
  ⟨by simpa using h1, by simpa using h2, fun y hy => by
    obtain ⟨h, rfl⟩ := List.mem_replicate.1 hy
    exact h3 (by omega)⟩

theorem nums_ap {x y : Ty} (hx : ∀ s ∈ x.nums, SpOk s) (hy : ∀ s ∈ y.nums, SpOk s) {n : ByteArray} (h : ∀ (h : 0 < x.nums.length) (h' : 0 < y.nums.length), NumS (x.nums[0]'h) (y.nums[0]'h') n ∧ ¬(InSp n (x.nums[0]'h) ∧ InSp n (y.nums[0]'h'))) : NumsAp x y := fun h1 h2 => by
  have := h h1 h2
  exact Classical.byContradiction fun hn => this.2 (this.1.both hn)

/-- Together. -/
theorem bothS_scal {a b : Ty} {v : Val} (h : ScalS (laid a) (laid b) v true) : BothS a b v true :=
  ⟨h.ok, fun _ => ⟨(inT_laid h.ok.ok).2 (h.yes rfl).1, (inT_laid h.ok.ok).2 (h.yes rfl).2⟩, fun e => by cases e⟩
theorem bothS_arr {a b : Ty} {v : Val} (h1 : 0 < (laid a).arrays.length) (h2 : 0 < (laid b).arrays.length) (h : BothArS ((laid a).arrays[0]'h1) ((laid b).arrays[0]'h2) v true) : BothS a b v true :=
  ⟨h.ok, fun _ => by
    obtain ⟨k, i1, i2⟩ := h.yes rfl
    exact ⟨(inT_laid h.ok.ok).2 ((inT_5 (laid_notAll a) k).2 ⟨h1, i1⟩), (inT_laid h.ok.ok).2 ((inT_5 (laid_notAll b) k).2 ⟨h2, i2⟩)⟩, fun e => by cases e⟩
theorem bothS_obj {a b : Ty} {v : Val} {x y : Ob} (hx : x ∈ (laid a).objects) (hy : y ∈ (laid b).objects) (wx : ObW x) (wy : ObW y) (h : BothObS x y v true) : BothS a b v true :=
  ⟨h.ok, fun _ => by
    obtain ⟨k, i1, i2⟩ := h.yes rfl
    exact ⟨(inT_laid h.ok.ok).2 ((inT_6 (laid_notAll a) k).2 ⟨x, hx, (inOb_iff h.ok.ok k wx).2 i1⟩), (inT_laid h.ok.ok).2 ((inT_6 (laid_notAll b) k).2 ⟨y, hy, (inOb_iff h.ok.ok k wy).2 i2⟩)⟩, fun e => by cases e⟩
theorem arrsAp_of {x y : Ty} (h : ∀ (h1 : 0 < x.arrays.length) (h2 : 0 < y.arrays.length), NoLen (x.arrays[0]'h1) (y.arrays[0]'h2) ∨ (0 < leastA (x.arrays[0]'h1) (y.arrays[0]'h2) ∧ ApartP (x.arrays[0]'h1).item (y.arrays[0]'h2).item)) : ArrsAp x y :=
  ⟨fun h1 h2 n => ((h h1 h2).resolve_left n).1, fun h1 h2 n => ((h h1 h2).resolve_left n).2⟩
theorem bothS_no {a b : Ty} {v : Val} (hv : Vg v) (h : WordsAp (laid a) (laid b) ∧ NumsAp (laid a) (laid b) ∧ TextsAp (laid a) (laid b)) (ar : ArrsAp (laid a) (laid b)) (ob : ObjsAp (laid a) (laid b)) : BothS a b v false :=
  ⟨hv, fun e => (by cases e), fun _ => apartP_iff.2 ⟨h.1, h.2.1, h.2.2, ar, ob⟩⟩
/-- Arrays of both. -/
theorem bothAr_len {a b : Ar} (h : NoLen a b) : BothArS a b (vk 0) false := ⟨vk_g (by omega), fun e => (by cases e), fun _ => .inl h⟩
theorem bothAr_zero {a b : Ar} (h0 : leastA a b = 0) (h : ¬NoLen a b) (ha : 0 ≤ a.min) (hb : 0 ≤ b.min) : BothArS a b (vk 5) true := by
  have l0 : a.min ≤ leastA a b ∧ b.min ≤ leastA a b := by unfold leastA; split <;> omega
  unfold NoLen at h
  refine ⟨vk_g (by omega), fun _ => ⟨rfl, ⟨?_, ?_, fun x hx => by cases hx⟩, ⟨?_, ?_, fun x hx => by cases hx⟩⟩, fun e => (by cases e)⟩
  · show a.min ≤ ((0 : Nat) : Int); omega
  · intro hm; show ((0 : Nat) : Int) ≤ a.max; omega
  · show b.min ≤ ((0 : Nat) : Int); omega
  · intro hm; show ((0 : Nat) : Int) ≤ b.max; omega
theorem bothAr_some {a b : Ar} {x : Val} {f : Bool} {n : Nat} (hn : leastA a b = (n : Int)) (h0 : 0 < n) (hsm : n ≤ 100000) (h : ¬NoLen a b) (hx : BothS a.item b.item x f) : BothArS a b (vArr (List.replicate n x)) f := by
  have l0 : a.min ≤ leastA a b ∧ b.min ≤ leastA a b := by unfold leastA; split <;> omega
  unfold NoLen at h
  refine ⟨vArr_g (fun y hy => by obtain ⟨_, rfl⟩ := List.mem_replicate.1 hy; exact hx.ok) (by simpa using hsm), fun e => ⟨rfl, inAr_rep (by omega) (fun hm => by omega) fun _ => (hx.yes e).1, inAr_rep (by omega) (fun hm => by omega) fun _ => (hx.yes e).2⟩, fun e => .inr ⟨by omega, hx.no e⟩⟩

/-! ### A value of one alone -/
structure OutS (a b : Ty) (v : Val) (f : Bool) : Prop where
  ok : Vg v
  yes : f = true → InT a v ∧ ¬InT b v
  no : f = false → BelowP a b
structure OutObS (a b : Ob) (v : Val) (f : Bool) : Prop where
  ok : Vg v
  yes : f = true → v.kind = 6 ∧ InObF v a ∧ ¬InObF v b
  no : f = false → LiesP a b
structure SomeObS (a : Ob) (v : Val) : Prop where
  cnt : v.keys.length ≤ 5000
  ok : Vg v
  kind : v.kind = 6
  isIn : InObF v a
theorem out_without {a b : Ob} {v v' : Val} {n : ByteArray} (h : SomeObS a v) (hw : WithoutS v n v') (ha : (fieldO a n).2 = false) (hb : (fieldO b n).2 = true) : OutObS a b v' true :=
  ⟨hw.ok, fun _ => ⟨hw.kind, ⟨fun m y hg => by
      rw [hw.get] at hg
      split at hg
      · cases hg
      · exact h.isIn.f m y hg, fun m hm => by
      rw [hw.get]
      split
      · rename_i e; subst e; rw [ha] at hm; cases hm
      · exact h.isIn.m m hm⟩, fun k => k.m n hb (by rw [hw.get, if_pos rfl])⟩, fun e => by cases e⟩
theorem out_with {a b : Ob} {v v' w : Val} {n : ByteArray} {f : Bool} (h : SomeObS a v) (hw : WithS v n w v') (ho : OutS (fieldO a n).1 (fieldO b n).1 w f) (hf : f = true) : OutObS a b v' true :=
  ⟨hw.ok, fun _ => ⟨hw.kind, ⟨fun m y hg => by
      rw [hw.get] at hg
      split at hg
      · rename_i e; cases hg; subst e; exact (ho.yes hf).1
      · exact h.isIn.f m y hg, fun m hm => by
      rw [hw.get]
      split
      · intro e; cases e
      · exact h.isIn.m m hm⟩, fun k => (ho.yes hf).2 (k.f n w (by rw [hw.get, if_pos rfl]))⟩, fun e => by cases e⟩
theorem out_no {a b : Ty} {v : Val} (hv : Vg v) (h : BelowP a b) : OutS a b v false := ⟨hv, fun e => (by cases e), fun _ => h⟩
theorem out_yes {a b : Ty} {v : Val} (hv : Vg v) (ha : InT a v) (hb : ¬InT b v) : OutS a b v true := ⟨hv, fun _ => ⟨ha, hb⟩, fun e => (by cases e)⟩

/-- A number of one span alone. -/
structure OutNumS (a : Sp) (b : List Sp) (n : ByteArray) : Prop where
  ok : NumOk n
  isIn : InSp n a
  out : ∀ h : 0 < b.length, ¬InSp n (b[0]'h)
theorem outNum_nil {a : Sp} {n : ByteArray} (h : NumS a spOpen n) (ha : Sp.Ok a) : OutNumS a [] n := by
  have hs : SpOk a := ⟨ha.low, ha.high⟩
  have ho : SpOk spOpen := ⟨.inl rfl, .inl rfl⟩
  refine ⟨h.ok, (h.both fun hh => ?_).1, fun h => absurd h (Nat.lt_irrefl 0)⟩
  have e1 : lowerS a.low spOpen.low = a.low := lowerS_r rfl
  have e2 : upperS a.high spOpen.high = a.high := upperS_r rfl
  rw [e1, e2] at hh
  have := ha.order hh.1 hh.2.1
  have := hh.2.2
  have e3 : numCmp a.low a.high = numCmp (Sp.mk a.low a.high).low (Sp.mk a.low a.high).high := rfl
  omega
theorem outNum_low {a b : Sp} {l : List Sp} {n : ByteArray} (hn : NumOk n) (hi : InSp n a) (h : ¬InSp n b) : OutNumS a (b :: l) n := ⟨hn, hi, fun _ => h⟩
/-- The lower end of a: a.low, or one below all. -/
structure LowOf (a b : Sp) (n : ByteArray) : Prop where
  ok : NumOk n
  isIn : InSp n a
  open' : a.low = ⟨#[]⟩ → b.low ≠ ⟨#[]⟩ → ¬InSp n b
  eq : a.low ≠ ⟨#[]⟩ → n = a.low
theorem lowOf_set {a b : Sp} (ha : Sp.Ok a) (h : a.low ≠ ⟨#[]⟩) : LowOf a b a.low :=
  ⟨ha.low.resolve_left h, ⟨fun _ => by rw [num_self (ha.low.resolve_left h)]; exact Int.le_refl _, fun x => ha.order h x⟩, fun e => absurd e h, fun _ => rfl⟩
theorem lowOf_far {a b : Sp} (ha : Sp.Ok a) (h : a.low = ⟨#[]⟩) : LowOf a b (repB mOneS 48 (a.high.size + b.low.size)) :=
  ⟨farM_ok _, ⟨fun x => absurd h x, fun x => by have := farM_lt (k := a.high.size + b.low.size) (x := a.high) (by omega); omega⟩, fun _ hb hi => by
    have := hi.low hb
    have := farM_lt (k := a.high.size + b.low.size) (x := b.low) (by omega)
    omega, fun e => absurd h e⟩
/-- Where the lower end lies in b, the upper end doesn't. -/
theorem high_out {a b : Sp} {n : ByteArray} (hb : SpOk b) (hl : LowOf a b n) (h : ¬SpanIn a b) (hi : InSp n b) : b.high ≠ ⟨#[]⟩ ∧ (a.high = ⟨#[]⟩ ∨ 0 < numCmp a.high b.high) := by
  have low : b.low = ⟨#[]⟩ ∨ (a.low ≠ ⟨#[]⟩ ∧ numCmp b.low a.low ≤ 0) := by
    by_cases e : b.low = ⟨#[]⟩
    · exact .inl e
    · right
      by_cases ea : a.low = ⟨#[]⟩
      · exact absurd hi (hl.open' ea e)
      · have := hl.eq ea
        subst this
        have := hi.low e
        have := num_TO.anti _ _ hl.ok (hb.1.resolve_left e)
        exact ⟨ea, by omega⟩
  have : ¬(b.high = ⟨#[]⟩ ∨ (a.high ≠ ⟨#[]⟩ ∧ numCmp a.high b.high ≤ 0)) := fun x => h (.inr ⟨low, x⟩)
  refine ⟨fun e => this (.inl e), ?_⟩
  by_cases ea : a.high = ⟨#[]⟩
  · exact .inl ea
  · right
    have : ¬numCmp a.high b.high ≤ 0 := fun x => this (.inr ⟨ea, x⟩)
    omega
theorem outNum_far {a b : Sp} {l : List Sp} {n : ByteArray} (hb : SpOk b) (hl : LowOf a b n) (h : ¬SpanIn a b) (hi : InSp n b) (e : a.high = ⟨#[]⟩) : OutNumS a (b :: l) (repB oneS 48 (a.low.size + b.high.size)) := by
  have := high_out hb hl h hi
  refine ⟨farP_ok _, ⟨fun x => by have := farP_gt (k := a.low.size + b.high.size) (x := a.low) (by omega); omega, fun x => absurd e x⟩, fun _ hin => ?_⟩
  have h1 := hin.high this.1
  have h2 := farP_gt (k := a.low.size + b.high.size) (x := b.high) (by omega)
  have h1 : numCmp (repB oneS 48 (a.low.size + b.high.size)) b.high ≤ 0 := h1
  omega
theorem outNum_high {a b : Sp} {l : List Sp} {n : ByteArray} (ha : Sp.Ok a) (hb : SpOk b) (hl : LowOf a b n) (h : ¬SpanIn a b) (hi : InSp n b) (e : a.high ≠ ⟨#[]⟩) : OutNumS a (b :: l) a.high := by
  have := high_out hb hl h hi
  have hn := ha.high.resolve_left e
  refine ⟨hn, ⟨fun x => ?_, fun _ => by rw [num_self hn]; exact Int.le_refl _⟩, fun _ hin => ?_⟩
  · have := ha.order x e
    have := num_TO.anti _ _ hn (ha.low.resolve_left x)
    omega
  · have h1 : numCmp a.high b.high ≤ 0 := hin.high this.1
    have := this.2.resolve_left e
    omega
end Go.Ab
set_option linter.unusedVariables false
set_option linter.unusedSimpArgs false
namespace Go.Ab
/-! ### Names, rising, each once -/
theorem sorted_iff {l : List ByteArray} : Sorted l ↔ l.Pairwise fun a b => strLt a b = true :=
  ⟨fun h => List.pairwise_iff_getElem.2 fun i j hi hj hij => h i j hi hj hij, fun h i j hi hj hij => List.pairwise_iff_getElem.1 h i j hi hj hij⟩
theorem strLt_total {a b : ByteArray} (h : strLt a b = false) (k : a ≠ b) : strLt b a = true := by
  have r := str_TO.range a b trivial trivial
  have an := str_TO.anti a b trivial trivial
  have e := str_TO.eq a b trivial trivial
  apply strLt_cmp.2
  have : cmpS a b ≠ -1 := fun x => by rw [strLt_cmp.2 x] at h; cases h
  have : cmpS a b ≠ 0 := fun x => k (e x)
  omega
theorem strLt_asymm {a b : ByteArray} (h : strLt a b = true) : strLt b a = false := by
  cases h' : strLt b a with
  | false => rfl
  | true => have := strLt_trans h h'; rw [strLt_irrefl] at this; cases this
open Classical in
noncomputable def insS (x : ByteArray) : List ByteArray → List ByteArray
  | [] => [x]
  | y :: l => if strLt x y = true then x :: y :: l else if x = y then y :: l else y :: insS x l
theorem insS_mem {x n : ByteArray} : ∀ {l : List ByteArray}, n ∈ insS x l ↔ n = x ∨ n ∈ l
  | [] => by simp [insS]
  | y :: l => by
    rw [insS]
    split
    · simp
    · split
      · rename_i e; subst e; simp
      · simp only [List.mem_cons, insS_mem (l := l)]
        constructor
        · rintro (h | h | h) <;> simp [h]
        · rintro (h | h | h) <;> simp [h]
theorem insS_pw {x : ByteArray} : ∀ {l : List ByteArray}, (l.Pairwise fun a b => strLt a b = true) → (insS x l).Pairwise fun a b => strLt a b = true
  | [], _ => by simp [insS]
  | y :: l, h => by
    rw [insS]
    obtain ⟨h1, h2⟩ := List.pairwise_cons.1 h
    split
    · rename_i e
      refine List.pairwise_cons.2 ⟨fun b hb => ?_, h⟩
      rcases List.mem_cons.1 hb with rfl | hb
      · exact e
      · exact strLt_trans e (h1 b hb)
    · split
      · exact h
      · rename_i e1 e2
        refine List.pairwise_cons.2 ⟨fun b hb => ?_, insS_pw h2⟩
        rcases insS_mem.1 hb with rfl | hb
        · exact strLt_total (by simpa using e1) e2
        · exact h1 b hb
theorem insS_len {x : ByteArray} : ∀ {l : List ByteArray}, (insS x l).length ≤ l.length + 1
  | [] => by simp [insS]
  | y :: l => by
    rw [insS]
    split
    · simp
    · split
      · simp
      · have := insS_len (x := x) (l := l)
        simp; omega
noncomputable def setS (l : List ByteArray) : List ByteArray := l.foldr insS []
theorem setS_mem {n : ByteArray} : ∀ {l : List ByteArray}, n ∈ setS l ↔ n ∈ l
  | [] => by simp [setS]
  | y :: l => by
    show n ∈ insS y (setS l) ↔ _
    rw [insS_mem, setS_mem (l := l)]; simp
theorem setS_sorted (l : List ByteArray) : Sorted (setS l) := by
  apply sorted_iff.2
  induction l with
  | nil => simp [setS]
  | cons y l ih => exact insS_pw ih
theorem setS_len : ∀ l : List ByteArray, (setS l).length ≤ l.length
  | [] => by simp [setS]
  | y :: l => by
    have h := insS_len (x := y) (l := setS l)
    have := setS_len l
    show (insS y (setS l)).length ≤ _
    simp; omega
theorem sorted_lt {l : List ByteArray} (hs : Sorted l) {i j : Nat} (hi : i < l.length) (hj : j < l.length) (h : strLt l[i] l[j] = true) : i < j := by
  rcases Nat.lt_trichotomy i j with h1 | h1 | h1
  · exact h1
  · subst h1; rw [strLt_irrefl] at h; cases h
  · have := hs j i hj hi h1; rw [strLt_asymm h] at this; cases this

/-! ### The next name -/
def nextStep (above : ByteArray) (first : Bool) (p : ByteArray × Bool) (x : ByteArray) : ByteArray × Bool := if (first || strLt above x) && (!p.2 || strLt x p.1) then (x, true) else p
def nextL (keys : List ByteArray) (above : ByteArray) (first : Bool) : ByteArray × Bool := keys.foldl (nextStep above first) (⟨#[]⟩, false)
theorem nextL_snoc (keys : List ByteArray) (above x : ByteArray) (first : Bool) : nextL (keys ++ [x]) above first = nextStep above first (nextL keys above first) x := by simp [nextL]
structure NextS (keys : List ByteArray) (above : ByteArray) (first : Bool) (p : ByteArray × Bool) : Prop where
  mem : p.2 = true → p.1 ∈ keys
  up : p.2 = true → (first || strLt above p.1) = true
  least : p.2 = true → ∀ k ∈ keys, (first || strLt above k) = true → strLt k p.1 = false
  none : p.2 = false → p.1 = ⟨#[]⟩ ∧ ∀ k ∈ keys, (first || strLt above k) = false
theorem nextS_take (keys : List ByteArray) (above : ByteArray) (first : Bool) : ∀ k, k ≤ keys.length → NextS (keys.take k) above first (nextL (keys.take k) above first)
  | 0, _ => ⟨fun h => (by simp [nextL] at h), fun h => (by simp [nextL] at h), fun h => (by simp [nextL] at h), fun _ => ⟨rfl, by simp⟩⟩
  | k + 1, hk => by
    have ih := nextS_take keys above first k (by omega)
    have hk' : k < keys.length := by omega
    have e : keys.take (k + 1) = keys.take k ++ [keys[k]] := by rw [List.take_add_one, List.getElem?_eq_getElem hk']; rfl
    rw [e, nextL_snoc]
    generalize nextL (keys.take k) above first = p at ih
    generalize keys.take k = l at ih
    generalize keys[k] = x
    unfold nextStep
    by_cases hc : ((first || strLt above x) && (!p.2 || strLt x p.1)) = true
    · rw [if_pos hc]
      simp only [Bool.and_eq_true] at hc
      refine ⟨fun _ => by simp, fun _ => hc.1, fun _ y hy hup => ?_, fun h => by cases h⟩
      rcases List.mem_append.1 hy with hy | hy
      · cases hp : p.2 with
        | false => rw [(ih.none hp).2 y hy] at hup; cases hup
        | true =>
          have h1 := ih.least hp y hy hup
          have h2 : strLt x p.1 = true := by simpa [hp] using hc.2
          cases h3 : strLt y x with
          | false => rfl
          | true => have := strLt_trans h3 h2; rw [h1] at this; cases this
      · obtain rfl := List.mem_singleton.1 hy
        exact strLt_irrefl _
    · rw [if_neg hc]
      have hc : ((first || strLt above x) && (!p.2 || strLt x p.1)) = false := by simpa using hc
      refine ⟨fun h => List.mem_append_left _ (ih.mem h), ih.up, fun h y hy hup => ?_, fun h => ⟨(ih.none h).1, fun y hy => ?_⟩⟩
      · rcases List.mem_append.1 hy with hy | hy
        · exact ih.least h y hy hup
        · obtain rfl := List.mem_singleton.1 hy
          rw [hup, h] at hc
          simpa using hc
      · rcases List.mem_append.1 hy with hy | hy
        · exact (ih.none h).2 y hy
        · obtain rfl := List.mem_singleton.1 hy
          rw [h] at hc
          simpa using hc
theorem nextS_all (keys : List ByteArray) (above : ByteArray) (first : Bool) : NextS keys above first (nextL keys above first) := by
  have := nextS_take keys above first keys.length (Nat.le_refl _)
  rwa [List.take_length] at this
theorem next_first (keys : List ByteArray) (a : ByteArray) : nextL keys a true = ((setS keys).getD 0 ⟨#[]⟩, decide (0 < (setS keys).length)) := by
  have h := nextS_all keys a true
  generalize nextL keys a true = p at h
  obtain ⟨s, f⟩ := p
  cases f with
  | false =>
    have hn := h.none rfl
    have : keys = [] := by
      cases keys with
      | nil => rfl
      | cons x l => have := hn.2 x (by simp); simp at this
    subst this
    have := hn.1
    simp only at this
    subst this
    rfl
  | true =>
    have hm := h.mem rfl
    simp only at hm
    obtain ⟨m, hm', e⟩ := List.mem_iff_getElem.1 (setS_mem.2 hm)
    have h0 : 0 < (setS keys).length := by omega
    have hl := h.least rfl (setS keys)[0] (setS_mem.1 (List.getElem_mem h0)) (by simp)
    simp only at hl
    have : m = 0 := by
      rcases Nat.eq_zero_or_pos m with e' | e'
      · exact e'
      · have := setS_sorted keys 0 m h0 hm' e'
        rw [e, hl] at this; cases this
    subst this
    simp [List.getD_eq_getElem?_getD, h0, e]
theorem next_more (keys : List ByteArray) (j : Nat) (hj : j < (setS keys).length) : nextL keys (setS keys)[j] false = ((setS keys).getD (j + 1) ⟨#[]⟩, decide (j + 1 < (setS keys).length)) := by
  have h := nextS_all keys (setS keys)[j] false
  generalize nextL keys (setS keys)[j] false = p at h
  obtain ⟨s, f⟩ := p
  have hsd := setS_sorted keys
  cases f with
  | false =>
    have hn := h.none rfl
    have hno : ¬j + 1 < (setS keys).length := fun hlt => by
      have := hn.2 (setS keys)[j + 1] (setS_mem.1 (List.getElem_mem hlt))
      simp only [Bool.false_or] at this
      rw [hsd j (j + 1) hj hlt (by omega)] at this; cases this
    have := hn.1
    simp only at this
    subst this
    rw [decide_eq_false hno, List.getD_eq_getElem?_getD, List.getElem?_eq_none (by omega)]
    rfl
  | true =>
    have hm := h.mem rfl
    have hu := h.up rfl
    simp only [Bool.false_or] at hm hu
    obtain ⟨m, hm', e⟩ := List.mem_iff_getElem.1 (setS_mem.2 hm)
    rw [← e] at hu
    have h1 := sorted_lt hsd hj hm' hu
    have hlt : j + 1 < (setS keys).length := by omega
    have hl := h.least rfl (setS keys)[j + 1] (setS_mem.1 (List.getElem_mem hlt)) (by simp only [Bool.false_or]; exact hsd j (j + 1) hj hlt (by omega))
    simp only at hl
    have : m = j + 1 := by
      rcases Nat.lt_or_ge (j + 1) m with e' | e'
      · have := hsd (j + 1) m hlt hm' e'
        rw [e, hl] at this; cases this
      · omega
    subst this
    simp [List.getD_eq_getElem?_getD, hlt, e]

/-! ### The last place of a name -/
theorem last_ex {n : ByteArray} : ∀ {l : List ByteArray}, n ∈ l → ∃ i, ∃ h : i < l.length, l[i] = n ∧ ∀ m (h : m < l.length), i < m → l[m] ≠ n
  | x :: l, h => by
    by_cases hl : n ∈ l
    · obtain ⟨i, h1, h2, h3⟩ := last_ex hl
      refine ⟨i + 1, by simp; omega, by simpa using h2, fun m hm him => ?_⟩
      cases m with
      | zero => omega
      | succ m => simpa using h3 m (by simpa using hm) (by omega)
    · rcases List.mem_cons.1 h with rfl | h
      · refine ⟨0, by simp, rfl, fun m hm him e => ?_⟩
        cases m with
        | zero => omega
        | succ m => exact hl (by simp at e; exact e ▸ List.getElem_mem _)
      · exact absurd h hl
open Classical in
noncomputable def lastAt (l : List ByteArray) (n : ByteArray) : Nat := if h : n ∈ l then (last_ex h).choose else 0
theorem lastAt_spec {l : List ByteArray} {n : ByteArray} (h : n ∈ l) : ∃ hi : lastAt l n < l.length, l[lastAt l n] = n ∧ ∀ m (h : m < l.length), lastAt l n < m → l[m] ≠ n := by
  unfold lastAt
  rw [dif_pos h]
  exact (last_ex h).choose_spec
theorem lastAt_eq {l : List ByteArray} {n : ByteArray} {i : Nat} (hi : i < l.length) (e : l[i] = n) (hm : ∀ m (h : m < l.length), i < m → l[m] ≠ n) : lastAt l n = i := by
  obtain ⟨h1, h2, h3⟩ := lastAt_spec (l := l) (n := n) (e ▸ List.getElem_mem hi)
  rcases Nat.lt_trichotomy (lastAt l n) i with h | h | h
  · exact absurd e (h3 i hi h)
  · exact h
  · exact absurd h2 (hm _ h1 h)

/-! ### Objects put together -/
theorem vok_obj {v : Val} (h : VOk v) (k : v.kind = 6) : v.keys.length = v.items.length ∧ Rise v.keys := by
  cases h with | mk lo hi num num' text text' items keys len rise all => exact ⟨len k, rise k⟩
noncomputable def gItems (keys : List ByteArray) (items : List Val) : List Val := (setS keys).map fun n => items.getD (lastAt keys n) (vk 0)
noncomputable def gVal (keys : List ByteArray) (items : List Val) : Val := .mk 6 ⟨#[]⟩ ⟨#[]⟩ (gItems keys items) (setS keys)
open Classical in
theorem gVal_get (keys : List ByteArray) (items : List Val) (n : ByteArray) : (gVal keys items).get n = if n ∈ keys then some (items.getD (lastAt keys n) (vk 0)) else none := by
  show getL (setS keys) (gItems keys items) n = _
  by_cases h : n ∈ keys
  · rw [if_pos h]
    obtain ⟨i, hi, e⟩ := List.mem_iff_getElem.1 (setS_mem.2 h)
    have hl : (gItems keys items).length = (setS keys).length := by simp [gItems]
    rw [getL_at (fun i j hi hj e => sorted_inj (setS_sorted keys) hi hj e) hi (by omega) e]
    simp [gItems, e]
  · rw [if_neg h]
    exact (getL_none (by simp [gItems])).2 fun k => h (setS_mem.1 k)
theorem gVal_g {keys : List ByteArray} {items : List Val} (hl : keys.length = items.length) (hu : ∀ k ∈ keys, Utf k) (hi : ∀ x ∈ items, Vg x) (hs : keys.length ≤ 100000) : Vg (gVal keys items) := by
  have hmem : ∀ x ∈ gItems keys items, Vg x := fun x hx => by
    obtain ⟨n, hn, rfl⟩ := List.mem_map.1 hx
    obtain ⟨h1, _⟩ := lastAt_spec (setS_mem.1 hn)
    have h2 : lastAt keys n < items.length := by omega
    simp only [List.getD_eq_getElem?_getD, List.getElem?_eq_getElem h2, Option.getD_some]
    exact hi _ (List.getElem_mem h2)
  have hlen := setS_len keys
  refine ⟨.mk (v := gVal keys items) (by show (0 : Int) ≤ 6; omega) (by show (6 : Int) ≤ 6; omega) (fun e => absurd e (by show (6 : Int) ≠ 3; omega)) (fun _ => rfl) (fun e => absurd e (by show (6 : Int) ≠ 4; omega)) (fun _ => rfl)
    (fun e => absurd e (by show ¬(6 : Int) < 5; omega)) (fun e => absurd e (by show ¬(6 : Int) < 6; omega)) (fun _ => by show (setS keys).length = (gItems keys items).length; simp [gItems])
    (fun _ => ⟨fun s hs => hu s (setS_mem.1 hs), fun i (hi : i + 1 < (setS keys).length) => setS_sorted keys i (i + 1) (by omega) hi (by omega)⟩) (fun x hx => (hmem x hx).ok), .mk ?_ ?_ fun x hx => (hmem x hx).sm⟩
  · show (gItems keys items).length ≤ _; simp [gItems]; omega
  · show (setS keys).length ≤ _; omega
theorem with_ok {v item : Val} {key : ByteArray} (hv : Vg v) (k : v.kind = 6) (hk : Utf key) (hi : Vg item) (hs : v.keys.length ≤ 50000) : WithS v key item (gVal (v.keys ++ [key]) (v.items ++ [item])) := by
  have hlen : v.keys.length = v.items.length := (vok_obj hv.ok k).1
  have hr : Rise v.keys := (vok_obj hv.ok k).2
  refine ⟨?_, gVal_g (by simp [hlen]) (fun s hs => ?_) (fun x hx => ?_) (by simp; omega), rfl, fun n => ?_⟩
  · have := setS_len (v.keys ++ [key])
    show (setS (v.keys ++ [key])).length ≤ _
    simpa using this
  · rcases List.mem_append.1 hs with h | h
    · exact hr.utf s h
    · rw [List.mem_singleton.1 h]; exact hk
  · rcases List.mem_append.1 hx with h | h
    · exact ⟨vok_items hv.ok x h, hv.sm.all x h⟩
    · rw [List.mem_singleton.1 h]; exact hi
  · rw [gVal_get]
    by_cases e : n = key
    · subst e
      have : lastAt (v.keys ++ [n]) n = v.keys.length := lastAt_eq (by simp) (by simp) fun m hm h => by simp at hm; omega
      rw [if_pos (by simp), if_pos rfl, this, hlen]
      simp
    · rw [if_neg e]
      by_cases hn : n ∈ v.keys
      · obtain ⟨i, hi', ei⟩ := List.mem_iff_getElem.1 hn
        have : lastAt (v.keys ++ [key]) n = i := lastAt_eq (by simp; omega) (by rw [List.getElem_append_left hi']; exact ei) fun m hm h => by
          by_cases hml : m < v.keys.length
          · rw [List.getElem_append_left hml]
            intro e2
            have := sorted_inj hr.sorted hi' hml (ei.trans e2.symm)
            omega
          · have : m = v.keys.length := by simp at hm; omega
            subst this
            simpa using fun e' => e e'.symm
        rw [if_pos (by simp [hn]), this]
        have hi2 : i < v.items.length := by omega
        rw [show v.get n = getL v.keys v.items n from rfl, getL_at (fun i j hi hj e => sorted_inj hr.sorted hi hj e) hi' hi2 ei]
        simp [List.getD_eq_getElem?_getD, List.getElem?_append, hi2]
      · rw [if_neg (by simp [hn, e])]
        exact ((getL_none hlen).2 hn).symm

/-! ### Without a name -/
def getZ : List (ByteArray × Val) → ByteArray → Option Val
  | [], _ => none
  | p :: l, n => if p.1 = n then some p.2 else getZ l n
theorem getZ_eq {n : ByteArray} : ∀ (l : List (ByteArray × Val)), getL (l.map (·.1)) (l.map (·.2)) n = getZ l n
  | [] => rfl
  | p :: l => by simp only [List.map_cons, getL, getZ, getZ_eq l]
def notK (key : ByteArray) (p : ByteArray × Val) : Bool := !strEq p.1 key
theorem getZ_filter {key n : ByteArray} : ∀ (l : List (ByteArray × Val)), getZ (l.filter (notK key)) n = if n = key then none else getZ l n
  | [] => by simp [getZ]
  | p :: l => by
    rw [List.filter_cons]
    by_cases h : p.1 = key
    · have hn : notK key p = false := by unfold notK; rw [strEq_iff.2 h]; rfl
      rw [hn, if_neg (by simp), getZ_filter l]
      by_cases e : n = key
      · rw [if_pos e, if_pos e]
      · rw [if_neg e, if_neg e, getZ, if_neg (fun x => e (x.symm.trans h))]
    · have hn : notK key p = true := by unfold notK; rw [strEq_not.2 h]; rfl
      rw [hn, if_pos rfl, getZ, getZ_filter l, getZ]
      by_cases e : p.1 = n
      · rw [if_pos e, if_neg (fun x => h (e.trans x)), if_pos e]
      · rw [if_neg e, if_neg e]
def wVal (v : Val) (key : ByteArray) : Val := .mk 6 ⟨#[]⟩ ⟨#[]⟩ (((v.keys.zip v.items).filter (notK key)).map (·.2)) (((v.keys.zip v.items).filter (notK key)).map (·.1))
theorem without_ok {v : Val} {key : ByteArray} (hv : Vg v) (k : v.kind = 6) : WithoutS v key (wVal v key) := by
  have hlen : v.keys.length = v.items.length := (vok_obj hv.ok k).1
  have hr : Rise v.keys := (vok_obj hv.ok k).2
  have z1 : (v.keys.zip v.items).map (·.1) = v.keys := List.map_fst_zip (by omega)
  have z2 : (v.keys.zip v.items).map (·.2) = v.items := List.map_snd_zip (by omega)
  have hz : (v.keys.zip v.items).length = v.keys.length := by simp [hlen]
  have hfl := List.length_filter_le (notK key) (v.keys.zip v.items)
  have hmi : ∀ x ∈ (wVal v key).items, x ∈ v.items := fun x hx => by
    obtain ⟨p, hp, rfl⟩ := List.mem_map.1 hx
    rw [← z2]
    exact List.mem_map.2 ⟨p, (List.mem_filter.1 hp).1, rfl⟩
  have hmk : ∀ x ∈ (wVal v key).keys, x ∈ v.keys := fun x hx => by
    obtain ⟨p, hp, rfl⟩ := List.mem_map.1 hx
    rw [← z1]
    exact List.mem_map.2 ⟨p, (List.mem_filter.1 hp).1, rfl⟩
  have hsd : Sorted (wVal v key).keys := by
    apply sorted_iff.2
    have h0 := sorted_iff.1 hr.sorted
    rw [← z1] at h0
    exact List.pairwise_map.2 (List.Pairwise.filter _ (List.pairwise_map.1 h0))
  have hkl := hv.sm.keys
  have c1 : (wVal v key).keys.length ≤ v.keys.length := by show (List.map _ _).length ≤ _; rw [List.length_map]; omega
  have c2 : (wVal v key).items.length ≤ v.keys.length := by show (List.map _ _).length ≤ _; rw [List.length_map]; omega
  refine ⟨c1, ⟨.mk (v := wVal v key) (by show (0 : Int) ≤ 6; omega) (by show (6 : Int) ≤ 6; omega) (fun e => absurd e (by show (6 : Int) ≠ 3; omega)) (fun _ => rfl) (fun e => absurd e (by show (6 : Int) ≠ 4; omega)) (fun _ => rfl)
    (fun e => absurd e (by show ¬(6 : Int) < 5; omega)) (fun e => absurd e (by show ¬(6 : Int) < 6; omega)) (fun _ => by show (List.map _ _).length = (List.map _ _).length; simp)
    (fun _ => ⟨fun s hs => hr.utf s (hmk s hs), fun i hi => hsd i (i + 1) (by omega) hi (by omega)⟩) (fun x hx => vok_items hv.ok x (hmi x hx)), .mk (by omega) (by omega) fun x hx => hv.sm.all x (hmi x hx)⟩, rfl, fun n => ?_⟩
  show getL _ _ n = _
  show getL (((v.keys.zip v.items).filter (notK key)).map (·.1)) (((v.keys.zip v.items).filter (notK key)).map (·.2)) n = _
  rw [getZ_eq, getZ_filter, ← getZ_eq, z1, z2]
  rfl
end Go.Ab
