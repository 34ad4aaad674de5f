import Derived.Test.YtjggngbfmjneiaaPZ
import Derived.Test.YtjggngbfmjneiaaPG
set_option linter.unusedVariables false
set_option linter.unusedSimpArgs false
namespace Go.Ab
/-! ### From type to type -/
theorem num_self {n : ByteArray} (h : NumOk n) : numCmp n n = 0 := num_TO.refl h
theorem spanIn_refl {s : Sp} (h : SpOk s) : SpanIn s s := by
  by_cases hl : s.low = ⟨#[]⟩
  · by_cases hu : s.high = ⟨#[]⟩
    · exact .inr ⟨.inl hl, .inl hu⟩
    · exact .inr ⟨.inl hl, .inr ⟨hu, by rw [num_self (h.2.resolve_left hu)]; exact Int.le_refl 0⟩⟩
  · by_cases hu : s.high = ⟨#[]⟩
    · exact .inr ⟨.inr ⟨hl, by rw [num_self (h.1.resolve_left hl)]; exact Int.le_refl 0⟩, .inl hu⟩
    · exact .inr ⟨.inr ⟨hl, by rw [num_self (h.1.resolve_left hl)]; exact Int.le_refl 0⟩, .inr ⟨hu, by rw [num_self (h.2.resolve_left hu)]; exact Int.le_refl 0⟩⟩
theorem below_refl : ∀ t : Ty, Bw t → BelowP t t := by
  intro t
  generalize hs : SizeOf.sizeOf t = n
  induction n using Nat.strongRecOn generalizing t with
  | _ n ih =>
  intro w
  subst hs
  by_cases ha : t.all = true
  · exact .all ha
  · have e : laid t = t := laid_of_not (by simpa using ha)
    refine belowP_iff.2 (.inr (.inr ?_))
    rw [e]
    refine ⟨⟨id, id, id⟩, fun h => ⟨h, spanIn_refl (bw_nums w _ (List.getElem_mem h))⟩, ?_, ⟨id, fun h h' => ⟨Int.le_refl _, fun h => ⟨h, Int.le_refl _⟩⟩, fun h h' _ => ih _ (Ty.arr_lt (List.getElem_mem h)) _ rfl (bw_item w _ (List.getElem_mem h))⟩, fun x hx => ⟨x, hx, ⟨fun _ _ h => h, fun n _ => ih _ (fieldO_lt hx (bw_obj w x hx) n) _ rfl (w.fieldO hx n), ih _ (Ty.rest_lt hx) _ rfl (bw_rest w x hx)⟩⟩⟩
    cases h : t.anyText with
    | true => exact .inl h
    | false => exact .inr ⟨h, fun s hs => hs⟩

/-! Well shaped: what is used of it -/
theorem fm_bare {t : Ty} (h : Formed t) : t.all = true → Bare t := by cases h; assumption
theorem fm_spans {t : Ty} (h : Formed t) : SpansOk t.nums := by cases h; assumption
theorem fm_arr {t : Ty} (h : Formed t) : ∀ a ∈ t.arrays, ArOk a := by cases h; assumption
theorem fm_item {t : Ty} (h : Formed t) : ∀ a ∈ t.arrays, Formed a.item := by cases h; assumption
theorem fm_obj {t : Ty} (h : Formed t) : ∀ o ∈ t.objects, ObOk o := by cases h; assumption
theorem fm_rest {t : Ty} (h : Formed t) : ∀ o ∈ t.objects, Formed o.rest := by cases h; assumption
theorem fm_field {t : Ty} (h : Formed t) : ∀ o ∈ t.objects, ∀ f ∈ o.fields, Formed f := by cases h; assumption
theorem laid_of_all {t : Ty} (h : t.all = true) : laid t = tyLaid := by unfold laid; rw [if_pos h]
theorem rise_nil : Rise [] := ⟨fun s h => (by cases h), fun i h => absurd h (by simp)⟩
theorem bare_all : Bare tyAll := ⟨rfl, rfl, rfl, rfl, rfl, rfl, rfl, rfl⟩
theorem fm_all : Formed tyAll :=
  .mk (fun _ => bare_all) rise_nil (fun _ => rfl) ⟨by decide, fun s h => by cases h⟩ (by decide) (fun s h => by cases h) (fun s h => by cases h) (fun s h => by cases h) (fun s h => by cases h) (fun s h => by cases h)
/-- The layout of a well shaped type. -/
structure Fl (t : Ty) : Prop where
  spans : SpansOk t.nums
  arr : ∀ a ∈ t.arrays, ArOk a
  item : ∀ a ∈ t.arrays, Formed a.item
  obj : ∀ o ∈ t.objects, ObOk o
  rest : ∀ o ∈ t.objects, Formed o.rest
  field : ∀ o ∈ t.objects, ∀ f ∈ o.fields, Formed f
theorem fl_of {t : Ty} (h : Formed t) : Fl t := ⟨fm_spans h, fm_arr h, fm_item h, fm_obj h, fm_rest h, fm_field h⟩
theorem never_all : ¬Never tyAll := fun h => by have := h.all; cases this
theorem fl_laid {t : Ty} (h : Formed t) : Fl (laid t) := by
  by_cases ha : t.all = true
  · rw [laid_of_all ha]
    refine ⟨⟨by decide, fun s hs => ?_⟩, fun a hx => ?_, fun a hx => ?_, fun o hx => ?_, fun o hx => ?_, fun o hx f hf => ?_⟩
    · have hs : s ∈ [spOpen] := hs
      obtain rfl := List.mem_singleton.1 hs
      exact ⟨.inl rfl, .inl rfl, fun h => absurd rfl h⟩
    · have hx : a ∈ [arOpen] := hx
      obtain rfl := List.mem_singleton.1 hx
      exact ⟨by decide, by decide, fun h => absurd h (by decide), ⟨fun h => absurd h never_all, fun h => absurd h (by decide)⟩⟩
    · have hx : a ∈ [arOpen] := hx
      obtain rfl := List.mem_singleton.1 hx
      exact fm_all
    · have hx : o ∈ [obOpen] := hx
      obtain rfl := List.mem_singleton.1 hx
      exact ⟨rfl, rfl, rise_nil, fun i h => absurd h (Nat.not_lt_zero i)⟩
    · have hx : o ∈ [obOpen] := hx
      obtain rfl := List.mem_singleton.1 hx
      exact fm_all
    · have hx : o ∈ [obOpen] := hx
      obtain rfl := List.mem_singleton.1 hx
      cases hf
  · rw [laid_of_not (by simpa using ha)]
    exact fl_of h
theorem Fl.fieldO {t : Ty} (h : Fl t) {o : Ob} (ho : o ∈ t.objects) (w : ObW o) (n : ByteArray) : Formed (Ab.fieldO o n).1 := by
  rcases fieldO_mem o n w with e | e
  · rw [e]; exact h.rest o ho
  · exact h.field o ho _ e

/-! Apart is so in both directions -/
theorem lowerS_comm {a b : ByteArray} (ha : BoundOk a) (hb : BoundOk b) : lowerS a b = lowerS b a := by
  unfold lowerS
  by_cases ea : a = ⟨#[]⟩
  · by_cases eb : b = ⟨#[]⟩
    · rw [ea, eb]
    · rw [if_pos (.inl ea), if_neg (by rintro (h | h); exact eb h; exact h.1 ea)]
  · by_cases eb : b = ⟨#[]⟩
    · rw [if_neg (by rintro (h | h); exact ea h; exact h.1 eb), if_pos (.inl eb)]
    · have na := ha.resolve_left ea
      have nb := hb.resolve_left eb
      have an := num_TO.anti a b na nb
      by_cases h : numCmp a b < 0
      · rw [if_pos (.inr ⟨eb, h⟩), if_neg (by rintro (h' | h'); exact eb h'; have := h'.2; omega)]
      · rw [if_neg (by rintro (h' | h'); exact ea h'; exact h h'.2)]
        by_cases h2 : numCmp b a < 0
        · rw [if_pos (.inr ⟨ea, h2⟩)]
        · rw [if_neg (by rintro (h' | h'); exact eb h'; exact h2 h'.2)]
          exact num_TO.eq a b na nb (by omega)
theorem upperS_comm {a b : ByteArray} (ha : BoundOk a) (hb : BoundOk b) : upperS a b = upperS b a := by
  unfold upperS
  by_cases ea : a = ⟨#[]⟩
  · by_cases eb : b = ⟨#[]⟩
    · rw [ea, eb]
    · rw [if_pos (.inl ea), if_neg (by rintro (h | h); exact eb h; exact h.1 ea)]
  · by_cases eb : b = ⟨#[]⟩
    · rw [if_neg (by rintro (h | h); exact ea h; exact h.1 eb), if_pos (.inl eb)]
    · have na := ha.resolve_left ea
      have nb := hb.resolve_left eb
      have an := num_TO.anti a b na nb
      by_cases h : 0 < numCmp a b
      · rw [if_pos (.inr ⟨eb, h⟩), if_neg (by rintro (h' | h'); exact eb h'; have := h'.2; omega)]
      · rw [if_neg (by rintro (h' | h'); exact ea h'; exact h h'.2)]
        by_cases h2 : 0 < numCmp b a
        · rw [if_pos (.inr ⟨ea, h2⟩)]
        · rw [if_neg (by rintro (h' | h'); exact eb h'; exact h2 h'.2)]
          exact num_TO.eq a b na nb (by omega)
theorem leastA_comm (a b : Ar) : leastA a b = leastA b a := by unfold leastA; split <;> split <;> omega
theorem noLen_comm {a b : Ar} (h : NoLen a b) : NoLen b a := by
  unfold NoLen at *
  rw [leastA_comm b a]
  exact h.elim .inr .inl
theorem apart_sym {a b : Ty} (h : ApartP a b) : Bw a → Bw b → ApartP b a := by
  induction h with
  | @mk a b w n t ln it at' an am af iht ihf =>
    intro wa wb
    have wla := wa.laid
    have wlb := wb.laid
    refine apartP_iff.2 ⟨⟨fun h => w.1 h.symm, fun h => w.2.1 h.symm, fun h => w.2.2 h.symm⟩, fun h h' => ?_, ⟨fun h => ?_, fun h h' s hs hs' => t.2 h' h s hs' hs⟩, ⟨fun h h' hn => ?_, fun h h' hn => ?_⟩, fun y hy x hx => ?_⟩
    · have := n h' h
      have sa := bw_nums wla _ (List.getElem_mem h')
      have sb := bw_nums wlb _ (List.getElem_mem h)
      rw [lowerS_comm sb.1 sa.1, upperS_comm sb.2 sa.2]
      exact this
    · obtain ⟨p, q, r⟩ := t.1 h.symm
      exact ⟨fun h => p h.symm, r, q⟩
    · rw [leastA_comm]
      exact ln h' h fun e => hn (noLen_comm e)
    · exact iht h' h (fun e => hn (noLen_comm e)) (bw_item wla _ (List.getElem_mem h')) (bw_item wlb _ (List.getElem_mem h))
    · exact ⟨at' x y, (an x hx y hy).symm, (am x hx y hy).symm, ihf x hx y hy (wla.fieldO hx _) (wlb.fieldO hy _)⟩

/-! Every below: all below -/
theorem below_top {t c : Ty} (h : BelowP t c) : t.all = true → ∀ a, Formed a → Bw a → BelowP a c := by
  induction h with
  | never h => exact fun ht => by rw [(kinds_zero h).1] at ht; cases ht
  | all h => exact fun _ _ _ _ => .all h
  | @mk t c w n tx al ar it pick pm mu fl rs iht ihf ihr =>
    intro ht a fa wa
    have e := laid_of_all ht
    have fl' := fl_laid fa
    have wl := wa.laid
    have hk1 : ∀ {p : Ty → Prop}, p (laid t) → p tyLaid := fun h => e ▸ h
    have hmem : obOpen ∈ (laid t).objects := by rw [e]; exact List.mem_singleton.2 rfl
    have hA : ∀ (h : 0 < (laid t).arrays.length), (laid t).arrays[0] = arOpen := fun h => by simp only [e]; rfl
    have hlt : 0 < (laid t).arrays.length := by rw [e]; exact Nat.zero_lt_succ 0
    have hN : ∀ (h : 0 < (laid t).nums.length), (laid t).nums[0] = spOpen := fun h => by simp only [e]; rfl
    have hln : 0 < (laid t).nums.length := by rw [e]; exact Nat.zero_lt_succ 0
    have w' : WordsIn tyLaid c := hk1 (p := fun x => WordsIn x c) w
    have t' : TextsIn tyLaid c := hk1 (p := fun x => TextsIn x c) tx
    refine belowP_iff.2 (.inr (.inr ⟨⟨fun _ => w'.1 rfl, fun _ => w'.2.1 rfl, fun _ => w'.2.2 rfl⟩, fun h => ?_, ?_, ⟨fun _ => al hlt, fun h h' => ?_, fun h h' hz => ?_⟩, fun x hx => ?_⟩))
    · obtain ⟨h', hs⟩ := n hln
      rw [hN hln] at hs
      refine ⟨h', ?_⟩
      rcases hs with hs | ⟨h1, h2⟩
      · exact absurd rfl hs.1
      · exact .inr ⟨.inl (h1.resolve_right fun h => h.1 rfl), .inl (h2.resolve_right fun h => h.1 rfl)⟩
    · rcases t' with t' | t'
      · exact .inl t'
      · cases t'.1
    · have hr := ar hlt h'
      rw [hA hlt] at hr
      have h1 : c.arrays[0].min ≤ 0 := hr.min
      have h2 := (fl'.arr _ (List.getElem_mem h)).min
      exact ⟨by omega, fun h3 => absurd (hr.max h3).1 (by decide)⟩
    · have hi := iht hlt h' (by rw [hA hlt]; decide) (by rw [hA hlt]; rfl)
      exact hi _ (fl'.item _ (List.getElem_mem h)) (bw_item wl _ (List.getElem_mem h))
    · have hall : ∀ m, ∀ a', Formed a' → Bw a' → BelowP a' (fieldO (pick obOpen) m).1 := fun m => by
        by_cases hm : m ∈ (pick obOpen).names
        · exact ihf obOpen hmem m (.inr hm) (by rw [fieldO_out (o := obOpen) (by intro h; cases h)]; rfl)
        · rw [fieldO_out hm]
          exact ihr obOpen hmem rfl
      have wx := bw_obj wl x hx
      refine ⟨pick obOpen, pm _ hmem, ⟨fun m hm h => ?_, fun m _ => hall m _ (fl'.fieldO hx wx m) (wl.fieldO hx m), ihr obOpen hmem rfl _ (fl'.rest x hx) (bw_rest wl x hx)⟩⟩
      have := mu obOpen hmem m (.inr (fieldO_must h)) h
      rw [fieldO_out (o := obOpen) (by intro h; cases h)] at this
      cases this
end Go.Ab
