import Derived.Test.YtjggngbfmjneiaaGreatW70
set_option linter.unusedVariables false
set_option linter.unusedSimpArgs false
set_option maxRecDepth 4000
namespace Go.Ab
open Go.Proofs

/-! ### A value of one alone: what is made -/
open Classical in
noncomputable def lowN (a b : Sp) : ByteArray := if a.low = ⟨#[]⟩ then repB mOneS 48 (a.high.size + b.low.size) else a.low
theorem lowN_ok {a b : Sp} (ha : Sp.Ok a) : LowOf a b (lowN a b) := by
  unfold lowN
  split
  · rename_i h; exact lowOf_far ha h
  · rename_i h; exact lowOf_set ha h
open Classical in
noncomputable def outN (a : Sp) (l : List Sp) : ByteArray := match l with
  | [] => numB a spOpen
  | b :: _ => if ¬InSp (lowN a b) b then lowN a b else if a.high = ⟨#[]⟩ then repB oneS 48 (a.low.size + b.high.size) else a.high
theorem outN_ok {a : Sp} {l : List Sp} (ha : Sp.Ok a) (hl : ∀ s ∈ l, SpOk s) (h : ∀ h : 0 < l.length, ¬SpanIn a l[0]) : OutNumS a l (outN a l) := by
  cases l with
  | nil => exact outNum_nil (numB_ok ⟨ha.low, ha.high⟩ ⟨.inl rfl, .inl rfl⟩) ha
  | cons b l =>
    have hb := hl b (by simp)
    have h : ¬SpanIn a b := h (by simp)
    have lo := lowN_ok (b := b) ha
    unfold outN
    dsimp only
    split
    · rename_i h1; exact outNum_low lo.ok lo.isIn h1
    · rename_i h1
      have h1 : InSp (lowN a b) b := Classical.byContradiction h1
      split
      · rename_i h2; exact outNum_far hb lo h h1 h2
      · rename_i h2; exact outNum_high ha hb lo h h1 h2

noncomputable def outT (x b : Ty) : ByteArray := match x.texts.find? (fun s => !tt (s ∈ b.texts)) with
  | some s => s
  | none => repB xS 120 (maxL b.texts)
structure OutTextS (x b : Ty) (s : ByteArray) : Prop where
  utf : Utf s
  isIn : x.anyText = true ∨ s ∈ x.texts
  out : s ∉ b.texts ∧ b.anyText = false
theorem outT_ok {x b : Ty} (wx : LaidW x) (h : ¬TextsIn x b) : OutTextS x b (outT x b) := by
  have hb : b.anyText = false := by cases hb : b.anyText with
    | false => rfl
    | true => exact absurd (.inl hb) h
  unfold outT
  split
  · rename_i s hs
    have h1 := List.mem_of_find?_eq_some hs
    have h2 := List.find?_some hs
    exact ⟨wx.utf s h1, .inr h1, tt_not.1 (by simpa using h2), hb⟩
  · rename_i hs
    have hs := List.find?_eq_none.1 hs
    have hall : ∀ s ∈ x.texts, s ∈ b.texts := fun s hm => tt_iff.1 (by simpa using hs s hm)
    refine ⟨long_utf _, .inl ?_, long_notMem, hb⟩
    cases hx : x.anyText with
    | true => rfl
    | false => exact absurd (.inr ⟨hx, hall⟩) h

open Classical in
noncomputable def oarV (a : Ar) (l : List Ar) (sv ov : Val) (f : Bool) : Val × Bool := match l with
  | [] => (vArr (List.replicate a.min.toNat sv), true)
  | b :: _ => if a.min < b.min then (vArr (List.replicate a.min.toNat sv), true)
    else if 0 ≤ b.max ∧ (a.max < 0 ∨ b.max < a.max) then (vArr (List.replicate (if b.max + 1 < a.min then a.min else b.max + 1).toNat sv), true)
    else (vArr (List.replicate (if a.min = 0 then 1 else a.min).toNat ov), f)
structure OutArS (a : Ar) (l : List Ar) (v : Val) : Prop where
  ok : Vg v
  kind : v.kind = 5
  isIn : InAr v.items a
  out : ∀ h : 0 < l.length, ¬InAr v.items l[0]
theorem rep_ok {x : Val} {n : Nat} (hx : Vg x) (hn : n ≤ 100) : Vg (vArr (List.replicate n x)) := vArr_g (fun y hy => by obtain ⟨_, rfl⟩ := List.mem_replicate.1 hy; exact hx) (by simp; omega)
theorem oarV_ok {a : Ar} {l : List Ar} {sv ov : Val} {f : Bool} (oa : ArOk a) (m4 : a.min ≤ 4) (ob : ∀ b ∈ l, ArOk b ∧ b.max ≤ 8) (hs : SomeS a.item sv) (ho : ∀ h : 0 < l.length, OutS a.item l[0].item ov f)
    (h : ∀ h : 0 < l.length, ¬(ArrIn a l[0] ∧ (a.max ≠ 0 → BelowP a.item l[0].item))) : OutArS a l (oarV a l sv ov f).1 ∧ (oarV a l sv ov f).2 = true := by
  have h0 := oa.min
  have hle := oa.le
  have hne := oa.never
  have hmin : ∀ n : Nat, n ≤ 100 → a.min ≤ n → (0 ≤ a.max → (n : Int) ≤ a.max) → InAr (vArr (List.replicate n sv)).items a := fun n _ h1 h2 => inAr_rep h1 h2 fun hp => hs.isIn fun hn => by
    have := hne.1 hn
    have := h2 (by omega)
    omega
  cases l with
  | nil => exact ⟨⟨rep_ok hs.ok (by omega), rfl, hmin _ (by omega) (by omega) (by omega), fun h => absurd h (Nat.lt_irrefl 0)⟩, rfl⟩
  | cons b l =>
    have ob := ob b (by simp)
    have h : ¬(ArrIn a b ∧ (a.max ≠ 0 → BelowP a.item b.item)) := h (by simp)
    have ho : OutS a.item b.item ov f := ho (by simp)
    unfold oarV
    dsimp only
    split
    · rename_i h1
      refine ⟨⟨rep_ok hs.ok (by omega), rfl, hmin _ (by omega) (by omega) (by omega), fun _ hi => ?_⟩, rfl⟩
      have h2 := hi.min
      have h3 : ((vArr (List.replicate a.min.toNat sv)).items.length : Int) = a.min := by show ((List.replicate a.min.toNat sv).length : Int) = _; simp; omega
      rw [h3] at h2
      have h2 : b.min ≤ a.min := h2
      omega
    · rename_i h1
      split
      · rename_i h2
        have hn9 : (if b.max + 1 < a.min then a.min else b.max + 1) ≤ 9 ∧ b.max + 1 ≤ (if b.max + 1 < a.min then a.min else b.max + 1) ∧ a.min ≤ (if b.max + 1 < a.min then a.min else b.max + 1) ∧ (0 ≤ a.max → (if b.max + 1 < a.min then a.min else b.max + 1) ≤ a.max) := by split <;> omega
        generalize (if b.max + 1 < a.min then a.min else b.max + 1) = n at *
        refine ⟨⟨rep_ok hs.ok (by omega), rfl, hmin _ (by omega) (by omega) (by omega), fun _ hi => ?_⟩, rfl⟩
        have h3 : ((vArr (List.replicate n.toNat sv)).items.length : Int) = n := by show ((List.replicate n.toNat sv).length : Int) = _; simp; omega
        have h4 : ((vArr (List.replicate n.toNat sv)).items.length : Int) ≤ b.max := hi.max h2.1
        rw [h3] at h4
        omega
      · rename_i h2
        have hin : ArrIn a b := ⟨by omega, fun h => by omega⟩
        have hnb : a.max ≠ 0 ∧ ¬BelowP a.item b.item := ⟨fun e => h ⟨hin, fun h' => absurd e h'⟩, fun e => h ⟨hin, fun _ => e⟩⟩
        have hf : f = true := by cases f with
          | true => rfl
          | false => exact absurd (ho.no rfl) hnb.2
        have hy := ho.yes hf
        have hm := oa.max
        have hn9 : (if a.min = 0 then 1 else a.min) ≤ 9 ∧ 1 ≤ (if a.min = 0 then 1 else a.min) ∧ a.min ≤ (if a.min = 0 then 1 else a.min) ∧ (0 ≤ a.max → (if a.min = 0 then 1 else a.min) ≤ a.max) := by split <;> omega
        generalize (if a.min = 0 then 1 else a.min) = n at *
        refine ⟨⟨rep_ok ho.ok (by omega), rfl, inAr_rep (by omega) (by omega) fun _ => hy.1, fun _ hi => ?_⟩, hf⟩
        exact hy.2 (hi.item ov (List.mem_replicate.2 ⟨by omega, rfl⟩))

/-! Objects -/
noncomputable def badN (x y : Ob) (n : ByteArray) : Bool := ((fieldO y n).2 && !(fieldO x n).2) || !tt (BelowP (fieldO x n).1 (fieldO y n).1)
noncomputable def oobV (x y : Ob) (v0 : Val) (ov : ByteArray → Val) (of : ByteArray → Bool) (rv : Val) (rf : Bool) : Val × Bool := match (names12 x y).find? (badN x y) with
  | some n => if ((fieldO y n).2 && !(fieldO x n).2) = true then (wVal v0 n, true) else (gVal (v0.keys ++ [n]) (v0.items ++ [ov n]), of n)
  | none => (gVal (v0.keys ++ [repB xS 120 (maxL (names12 x y))]) (v0.items ++ [rv]), rf)
theorem oobV_ok {x y : Ob} {v0 : Val} {ov : ByteArray → Val} {of : ByteArray → Bool} {rv : Val} {rf : Bool} (h0 : SomeObS x v0) (ux : ∀ n ∈ x.names, Utf n) (uy : ∀ n ∈ y.names, Utf n)
    (ho : ∀ n, OutS (fieldO x n).1 (fieldO y n).1 (ov n) (of n)) (hr : OutS x.rest y.rest rv rf) : OutObS x y (oobV x y v0 ov of rv rf).1 (oobV x y v0 ov of rv rf).2 := by
  have hN := names12_of x y
  have c0 := h0.cnt
  unfold oobV
  cases hf : (names12 x y).find? (badN x y) with
  | some n =>
    dsimp only
    have hb := List.find?_some hf
    have hm := List.mem_of_find?_eq_some hf
    have hu : Utf n := ((hN.mem n).1 hm).elim (ux n) (uy n)
    by_cases h1 : ((fieldO y n).2 && !(fieldO x n).2) = true
    · rw [if_pos h1]
      simp only [Bool.and_eq_true, Bool.not_eq_true'] at h1
      exact out_without h0 (without_ok h0.ok h0.kind) h1.2 h1.1
    · rw [if_neg h1]
      have hnb : ¬BelowP (fieldO x n).1 (fieldO y n).1 := by
        unfold badN at hb
        simp only [Bool.or_eq_true] at hb
        exact tt_not.1 (by simpa using hb.resolve_left h1)
      have hof : of n = true := by cases e : of n with
        | true => rfl
        | false => exact absurd ((ho n).no e) hnb
      have := out_with h0 (with_ok h0.ok h0.kind hu (ho n).ok (by omega)) (ho n) hof
      rw [hof]
      exact this
  | none =>
    dsimp only
    have hall := List.find?_eq_none.1 hf
    obtain ⟨f1, f2⟩ := fresh_not x y
    have e1 := fieldO_out f1
    have e2 := fieldO_out f2
    have hw := with_ok h0.ok h0.kind (long_utf (maxL (names12 x y))) hr.ok (by omega)
    cases hrf : rf with
    | true =>
      rw [hrf] at hr
      exact out_with (f := true) h0 hw (by rw [e1, e2]; exact hr) rfl
    | false =>
      refine ⟨hw.ok, fun e => (by cases e), fun _ => ⟨fun n hn hm => ?_, fun n hn => ?_, hr.no hrf⟩⟩
      · have := hall n ((hN.mem n).2 hn)
        unfold badN at this
        rw [hm] at this
        simp at this
        exact this.1
      · have := hall n ((hN.mem n).2 hn)
        unfold badN at this
        simp only [Bool.or_eq_true, not_or] at this
        exact tt_iff.1 (by simpa using this.2)

/-! Types -/
noncomputable def oobjsV (x b : Ty) (so : Ob → Val) (oo : Ob → Ob → Val × Bool) : Val × Bool := match b.objects with
  | [] => (match x.objects with
    | [] => (vk 0, false)
    | o :: _ => (so o, true))
  | q :: _ => match x.objects.find? (fun o => !tt (LiesP o q)) with
    | some o => oo o q
    | none => (vk 0, false)
open Classical in
noncomputable def out2V (b x : Ty) (sv ov : Val) (of : Bool) (so : Ob → Val) (oo : Ob → Ob → Val × Bool) : Val × Bool :=
  if ¬NumsIn x b then (vNum (outN (x.nums.getD 0 spOpen) b.nums), true)
  else if ¬TextsIn x b then (vTxt (outT x b), true)
  else if ¬ArrsIn x b then oarV (x.arrays.getD 0 arOpen) b.arrays sv ov of
  else oobjsV x b so oo
open Classical in
noncomputable def outV (a b x : Ty) (sv ov : Val) (of : Bool) (so : Ob → Val) (oo : Ob → Ob → Val × Bool) : Val × Bool :=
  if Never a ∨ b.all = true then (vk 0, false)
  else if x.null = true ∧ b.null = false then (vk 0, true) else if x.fls = true ∧ b.fls = false then (vk 1, true) else if x.tru = true ∧ b.tru = false then (vk 2, true)
  else out2V b x sv ov of so oo
theorem outV_ok {a b : Ty} (ga : Good a) (gb : Good b) (sb : SingleP b) {sv ov : Val} {of : Bool} {so : Ob → Val} {oo : Ob → Ob → Val × Bool}
    (hsv : ∀ h : 0 < (laid a).arrays.length, SomeS (laid a).arrays[0].item sv) (hov : b.all = false → ∀ (h : 0 < (laid a).arrays.length) (h' : 0 < b.arrays.length), OutS (laid a).arrays[0].item b.arrays[0].item ov of)
    (hso : ∀ o ∈ (laid a).objects, SomeObS o (so o)) (hoo : b.all = false → ∀ o ∈ (laid a).objects, ∀ q ∈ b.objects, OutObS o q (oo o q).1 (oo o q).2) :
    OutS a b (outV a b (laid a) sv ov of so oo).1 (outV a b (laid a) sv ov of so oo).2 := by
  have wx := ga.laidW
  have flb := fl_of gb.fm
  have yes : ∀ {v : Val}, Vg v → InT (laid a) v → ¬InT b v → OutS a b v true := fun hv h1 h2 => ⟨hv, fun _ => ⟨(inT_laid hv.ok).2 h1, h2⟩, fun e => by cases e⟩
  unfold outV
  by_cases hn : Never a ∨ b.all = true
  · rw [if_pos hn]
    exact out_no (vk_g (by omega)) (belowP_iff.2 (hn.elim (fun h => .inl (never_iff.2 h)) fun h => .inr (.inl h)))
  rw [if_neg hn]
  have hna : ¬Never a := fun h => hn (.inl h)
  have hball : b.all = false := by simpa using fun h => hn (.inr h)
  have hov := hov hball
  have hoo := hoo hball
  by_cases h0 : (laid a).null = true ∧ b.null = false
  · rw [if_pos h0]
    exact yes (vk_g (by omega)) (.null rfl h0.1) fun h => by rw [(inT_0 hball rfl).1 h] at h0; cases h0.2
  rw [if_neg h0]
  by_cases h1 : (laid a).fls = true ∧ b.fls = false
  · rw [if_pos h1]
    exact yes (vk_g (by omega)) (.fls rfl h1.1) fun h => by rw [(inT_1 hball rfl).1 h] at h1; cases h1.2
  rw [if_neg h1]
  by_cases h2 : (laid a).tru = true ∧ b.tru = false
  · rw [if_pos h2]
    exact yes (vk_g (by omega)) (.tru rfl h2.1) fun h => by rw [(inT_2 hball rfl).1 h] at h2; cases h2.2
  rw [if_neg h2]
  unfold out2V
  have hw : WordsIn (laid a) b := ⟨fun h => by cases e : b.null with | true => rfl | false => exact absurd ⟨h, e⟩ h0, fun h => by cases e : b.fls with | true => rfl | false => exact absurd ⟨h, e⟩ h1, fun h => by cases e : b.tru with | true => rfl | false => exact absurd ⟨h, e⟩ h2⟩
  by_cases h3 : NumsIn (laid a) b
  case neg =>
    rw [if_pos h3]
    have hl : 0 < (laid a).nums.length := by
      rcases Nat.eq_zero_or_pos (laid a).nums.length with e | e
      · exact absurd (fun h => absurd h (by omega)) h3
      · exact e
    have e : (laid a).nums.getD 0 spOpen = (laid a).nums[0] := by simp [List.getD_eq_getElem?_getD, hl]
    rw [e]
    have hon := outN_ok (a := (laid a).nums[0]) (l := b.nums) ((fl_laid ga.fm).spans.ok _ (List.getElem_mem hl)) (bw_nums gb.bw) (fun h' hs => h3 fun _ => ⟨h', hs⟩)
    exact yes (vNum_g hon.ok) (.num rfl hl hon.isIn) fun h => by
      obtain ⟨l, hi⟩ := (inT_3 hball rfl).1 h
      exact hon.out l hi
  rw [if_neg (fun h => h h3)]
  by_cases h4 : TextsIn (laid a) b
  case neg =>
    rw [if_pos h4]
    have ht := outT_ok wx h4
    exact yes (vTxt_g ht.utf) (ht.isIn.elim (fun h => .anyText rfl h) fun h => .text rfl h) fun h => by
      rcases (inT_4 hball rfl).1 h with h | h
      · rw [ht.out.2] at h; cases h
      · exact ht.out.1 h
  rw [if_neg (fun h => h h4)]
  by_cases h5 : ArrsIn (laid a) b
  case neg =>
    rw [if_pos h5]
    have hl : 0 < (laid a).arrays.length := by
      rcases Nat.eq_zero_or_pos (laid a).arrays.length with e | e
      · exact absurd ⟨fun h => absurd h (by omega), fun h => absurd h (by omega), fun h => absurd h (by omega)⟩ h5
      · exact e
    have e : (laid a).arrays.getD 0 arOpen = (laid a).arrays[0] := by simp [List.getD_eq_getElem?_getD, hl]
    rw [e]
    obtain ⟨r1, r2⟩ := oarV_ok (l := b.arrays) (sv := sv) (ov := ov) (f := of) ((fl_laid ga.fm).arr _ (List.getElem_mem hl)) (ga.md.laid.min _ (List.getElem_mem hl)) (fun q hq => ⟨flb.arr q hq, gb.md.max q hq⟩) (hsv hl) (hov hl)
      (fun h' hh => h5 ⟨fun _ => h', fun _ _ => hh.1, fun _ _ => hh.2⟩)
    rw [r2]
    exact yes r1.ok (.arr r1.kind hl r1.isIn.min r1.isIn.max r1.isIn.item) fun h => by
      obtain ⟨l, hi⟩ := (inT_5 hball r1.kind).1 h
      exact r1.out l hi
  rw [if_neg (fun h => h h5)]
  have below : ObjsIn (laid a) b → BelowP a b := fun h => belowP_iff.2 (.inr (.inr ⟨hw, h3, h4, h5, h⟩))
  unfold oobjsV
  cases hb : b.objects with
  | nil =>
    cases hx : (laid a).objects with
    | nil => exact out_no (vk_g (by omega)) (below fun o ho => by rw [hx] at ho; cases ho)
    | cons o l =>
      have hm : o ∈ (laid a).objects := by rw [hx]; simp
      have hs := hso o hm
      exact yes hs.ok ((inT_6 (laid_notAll a) hs.kind).2 ⟨o, hm, (inOb_iff hs.ok.ok hs.kind (ga.obw o hm)).2 hs.isIn⟩) fun h => by
        obtain ⟨q, hq, _⟩ := (inT_6 hball hs.kind).1 h
        rw [hb] at hq; cases hq
  | cons q l =>
    have hq : q ∈ b.objects := by rw [hb]; simp
    have hone : ∀ q' ∈ b.objects, q' = q := fun q' hq' => by
      have := sb.len
      rw [hb] at this hq'
      have : l = [] := List.eq_nil_of_length_eq_zero (by simpa using this)
      subst this
      simpa using hq'
    dsimp only
    cases hf : (laid a).objects.find? (fun o => !tt (LiesP o q)) with
    | some o =>
      have hm := List.mem_of_find?_eq_some hf
      have hl : ¬LiesP o q := tt_not.1 (by simpa using List.find?_some hf)
      have hs := hoo o hm q hq
      dsimp only
      have h2 : (oo o q).2 = true := by cases e : (oo o q).2 with
        | true => rfl
        | false => exact absurd (hs.no e) hl
      rw [h2] at hs ⊢
      obtain ⟨k, i1, i2⟩ := hs.yes rfl
      exact yes hs.ok ((inT_6 (laid_notAll a) k).2 ⟨o, hm, (inOb_iff hs.ok.ok k (ga.obw o hm)).2 i1⟩) fun h => by
        obtain ⟨q', hq', hi⟩ := (inT_6 hball k).1 h
        rw [hone q' hq'] at hi
        exact i2 ((inOb_iff hs.ok.ok k (bw_obj gb.bw q hq)).1 hi)
    | none =>
      have hall := List.find?_eq_none.1 hf
      exact out_no (vk_g (by omega)) (below fun o ho => ⟨q, hq, tt_iff.1 (by simpa using hall o ho)⟩)
end Go.Ab
set_option linter.unusedVariables false
set_option linter.unusedSimpArgs false
set_option maxRecDepth 4000
namespace Go.Ab
open Go.Proofs

open Classical in
set_option maxHeartbeats 4000000 in
theorem outNum12_ok (a : Sp) (l : List Sp) (ha : Sp.Ok a) (hl : ∀ s ∈ l, SpOk s) (sa : a.low.size ≤ smB ∧ a.high.size ≤ smB) (sl : ∀ s ∈ l, s.low.size ≤ smB ∧ s.high.size ≤ smB) : PCall Tryz.prog 22 [vSp a, vSps l] (vStr (outN a l)) := by
  cases l with
  | nil =>
    have hn := number12_ok a spOpen ⟨ha.low, ha.high⟩ ⟨.inl rfl, .inl rfl⟩
    refine PCall.of_fx TTok mixed Tryz.func22 rfl (by decide) rfl rfl ?_
    conv => whnf
    refine hn.use (.refl _) ?_
    conv => whnf
    exact retP TTok rfl (.refl _) rfl
  | cons b l =>
    have hb := hl b (by simp)
    have sb := sl b (by simp)
    have lo := lowN_ok (b := b) ha
    have h0 : 0 < (b :: l).length := by simp
    have hin := inSpan_ok (lowN a b) b lo.ok hb
    have oN : outN a (b :: l) = if ¬InSp (lowN a b) b then lowN a b else if a.high = ⟨#[]⟩ then repB oneS 48 (a.low.size + b.high.size) else a.high := by unfold outN; rfl
    refine PCall.of_fx TTok mixed Tryz.func22 rfl (by decide) rfl rfl ?_
    rw [oN]
    conv => whnf
    refine bsel_intro (fun h1 => ?_) (fun h1 => ?_)
    case' refine_1 =>
      have h1 : a.low = ⟨#[]⟩ := strEq_iff.1 h1
      have e : lowN a b = repB mOneS 48 (a.high.size + b.low.size) := by unfold lowN; rw [if_pos h1]
      conv => whnf
      (refine ⟨by decide +kernel, ?_⟩; conv => whnf)
      refine idxSp (k := 0) h0 rfl ?_
      conv => whnf
      refine (farM_call a.high b.low sa.2 sb.1).useQ (.refl _) ?_
    case' refine_2 =>
      have h1 : a.low ≠ ⟨#[]⟩ := strEq_not.1 h1
      have e : lowN a b = a.low := by unfold lowN; rw [if_neg h1]
    all_goals
      rw [e] at hin lo ⊢
      conv => whnf
      refine idxSp (k := 0) h0 rfl ?_
      conv => whnf
      refine hin.use (.refl _) ?_
      conv => whnf
      refine bsel_intro (fun i => ?_) (fun i => ?_)
      · have i := tt_not.1 (by simpa only [Bool.not_eq_true'] using i)
        rw [if_pos i]
        conv => whnf
        exact retP TTok rfl (.refl _) rfl
      · have i := tt_iff.1 (by simpa only [Bool.not_eq_false'] using i)
        rw [if_neg (fun h => h i)]
        conv => whnf
        refine bsel_intro (fun h2 => ?_) (fun h2 => ?_)
        · have h2 : a.high = ⟨#[]⟩ := strEq_iff.1 h2
          rw [if_pos h2]
          conv => whnf
          (refine ⟨by decide +kernel, ?_⟩; conv => whnf)
          refine idxSp (k := 0) h0 rfl ?_
          conv => whnf
          refine (farP_call a.low b.high sa.1 sb.2).useQ (.refl _) ?_
          conv => whnf
          exact retP TTok rfl (.refl _) rfl
        · have h2 : a.high ≠ ⟨#[]⟩ := strEq_not.1 h2
          rw [if_neg h2]
          conv => whnf
          exact retP TTok rfl (.refl _) rfl

set_option maxHeartbeats 4000000 in
theorem outText12_ok (x b : Ty) (sb : ∀ s ∈ b.texts, s.size ≤ smB) (fb : b.texts.length ≤ 1000000) : PCall Tryz.prog 24 [vTy x, vTy b] (vVal (vTxt (outT x b))) := by
  refine PCall.bd Tryz.func24 rfl (by decide) rfl rfl (fun hbd => ?_)
  have hb := (deep_of (hbd 0 (by simp))).bd.texts
  simp only [maxRows] at hb
  refine PCall.of_fx TTok mixed Tryz.func24 rfl (by decide) rfl rfl ?_
  conv => whnf
  refine ⟨SExec.loop_p x.texts.length (fun k => ∀ j (h : j < x.texts.length), j < k → (!tt (x.texts[j] ∈ b.texts)) = false) (fun k => ⟨34, [(5, vInt k), (4, .bx 2 0), (3, .bx 1 0), (2, .bx 0 0)], [.row 27 (cellsV (vTy x)), .row 27 (cellsV (vTy b)), .row 33 zVal]⟩) (fun j _ h => absurd h (Nat.not_lt_zero j)) (fun k => Nat.le_refl _)
    (St.subD_of rfl [] rfl rfl (.cons (.refl _) rfl (.cons (.refl _) rfl (.cons (.refl _) rfl (.cons (.refl _) rfl .nil))))) ?_⟩
  intro k hk hI
  refine fx_sound TTok mixed ?_
  conv => whnf
  refine bsel_intro (fun hlt => ?_) (fun hlt => ?_)
  · have hlt : k < x.texts.length := by simpa using hlt
    conv => whnf
    (refine ⟨by decide +kernel, ?_⟩; conv => whnf)
    refine idxStr hlt rfl ?_
    conv => whnf
    refine (has_ok b.texts _).useQ (.refl _) ?_
    conv => whnf
    refine bsel_intro (fun h2 => ?_) (fun h2 => ?_)
    · have e : outT x b = x.texts[k] := by unfold outT; rw [find_at hlt h2 hI]
      rw [e]
      conv => whnf
      refine idxStr hlt rfl ?_
      conv => whnf
      exact retP TTok rfl (.agg (.cons (.refl _) (.cons (.refl _) (.cons (.refl _) (.cons .nil_sl (.cons .nil_sl .nil)))))) rfl
    · conv => whnf
      exact ⟨⟨hlt, fun j hj hjk => by
        by_cases e : j = k
        · subst e; exact h2
        · exact hI j hj (by omega)⟩, St.subD_of rfl _ rfl rfl (.cons (.of_eq (vInt_succ k (by omega))) rfl (.cons (.refl _) rfl (.cons (.refl _) rfl (.cons (.refl _) rfl .nil))))⟩
  · have hge : x.texts.length ≤ k := by simpa using hlt
    have none : x.texts.find? (fun s => !tt (s ∈ b.texts)) = none := List.find?_eq_none.2 fun s hs => by
      obtain ⟨j, hj, rfl⟩ := List.mem_iff_getElem.1 hs
      rw [hI j hj (by omega)]; simp
    have e : outT x b = repB xS 120 (maxL b.texts) := by unfold outT; rw [none]
    rw [e]
    conv => whnf
    refine (long12_ok b.texts sb fb).use (.refl _) ?_
    conv => whnf
    exact retP TTok rfl (.agg (.cons (.refl _) (.cons (.refl _) (.cons (.refl _) (.cons .nil_sl (.cons .nil_sl .nil)))))) rfl

set_option maxHeartbeats 8000000 in
theorem outArr12_ok (a : Ar) (l : List Ar) (m0 : 0 ≤ a.min) (m4 : a.min ≤ 4) (ob : ∀ b ∈ l, -1 ≤ b.max ∧ b.max ≤ 8) {sv ov : Val} {f : Bool} (hs : PCall Tryz.prog 64 [vTy a.item] (vVal sv))
    (ho : ∀ h : 0 < l.length, PCall Tryz.prog 10 [vTy a.item, vTy l[0].item] (vVB ov f)) : PCall Tryz.prog 26 [vAr a, vArs l] (vVB (oarV a l sv ov f).1 (oarV a l sv ov f).2) := by
  have tm : ∀ (v : Val) (n : Int), 0 ≤ n → n ≤ 100 → PCall Tryz.prog 65 [vVal v, vInt n] (vVal (vArr (List.replicate n.toNat v))) := fun v n h0 h1 => by
    have := times12_ok v n.toNat (by omega)
    rwa [Int.toNat_of_nonneg h0] at this
  cases l with
  | nil =>
    refine PCall.of_fx TTok mixed Tryz.func26 rfl (by decide) rfl rfl ?_
    conv => whnf
    refine hs.use (.refl _) ?_
    conv => whnf
    (refine ⟨by decide +kernel, ?_⟩; conv => whnf)
    refine (tm sv a.min m0 (by omega)).use (.refl _) ?_
    conv => whnf
    exact retP TTok rfl (.of_eq rfl) rfl
  | cons b l =>
    have ho : PCall Tryz.prog 10 [vTy a.item, vTy b.item] (vVB ov f) := ho (by simp)
    have ob := ob b (by simp)
    have h0 : 0 < (b :: l).length := by simp
    have oV : oarV a (b :: l) sv ov f = if a.min < b.min then (vArr (List.replicate a.min.toNat sv), true) else if 0 ≤ b.max ∧ (a.max < 0 ∨ b.max < a.max) then (vArr (List.replicate (if b.max + 1 < a.min then a.min else b.max + 1).toNat sv), true) else (vArr (List.replicate (if a.min = 0 then 1 else a.min).toNat ov), f) := by unfold oarV; rfl
    rw [oV]
    refine PCall.of_fx TTok mixed Tryz.func26 rfl (by decide) rfl rfl ?_
    conv => whnf
    refine hs.use (.refl _) ?_
    conv => whnf
    (refine ⟨by decide +kernel, ?_⟩; conv => whnf)
    refine idxAr (k := 0) h0 rfl ?_
    conv => whnf
    refine bsel_intro (fun m1 => ?_) (fun m1 => ?_)
    · have m1 : a.min < b.min := by simpa using m1
      rw [if_pos m1]
      conv => whnf
      refine (tm sv a.min m0 (by omega)).use (.refl _) ?_
      conv => whnf
      exact retP TTok rfl (.of_eq rfl) rfl
    have m1 : ¬a.min < b.min := by simpa using m1
    rw [if_neg m1]
    conv => whnf
    (refine ⟨by decide +kernel, ?_⟩; conv => whnf)
    refine idxAr (k := 0) h0 rfl ?_
    have ew : IntKind.i64.wrap (b.max + 1) = b.max + 1 := wrap_id (by omega) (by omega)
    conv => whnf
    refine bsel_intro (fun m2 => ?_) (fun m2 => ?_)
    · have m2 : 0 ≤ b.max := by simpa using m2
      conv => whnf
      refine bsel_intro (fun m3 => ?_) (fun m3 => ?_)
      · have m3 : ¬a.max < 0 := by simpa using m3
        conv => whnf
        refine idxAr (k := 0) h0 rfl ?_
        conv => whnf
        refine bsel_intro (fun m4 => ?_) (fun m4 => ?_)
        · have m4 : 0 ≤ b.max ∧ (a.max < 0 ∨ b.max < a.max) := ⟨m2, .inr (by simpa using m4)⟩
          rw [if_pos m4]
          conv => whnf
          refine idxAr (k := 0) h0 rfl ?_
          conv => whnf
          refine bsel_intro (fun m5 => ?_) (fun m5 => ?_)
          · have m5 : b.max + 1 < a.min := by have m5 : IntKind.i64.wrap (b.max + 1) < a.min := of_decide_eq_true m5; rwa [ew] at m5
            rw [if_pos m5]
            conv => whnf
            refine (tm sv a.min (by omega) (by omega)).use (.refl _) ?_
            conv => whnf
            exact retP TTok rfl (.of_eq rfl) rfl
          · have m5 : ¬b.max + 1 < a.min := by have m5 : ¬IntKind.i64.wrap (b.max + 1) < a.min := of_decide_eq_false m5; rwa [ew] at m5
            rw [if_neg m5]
            conv => whnf
            refine (tm sv (b.max + 1) (by omega) (by omega)).use (.cons (.refl _) (.cons (.of_eq (congrArg vInt ew)) .nil)) ?_
            conv => whnf
            exact retP TTok rfl (.of_eq rfl) rfl
        · have m4 : ¬(0 ≤ b.max ∧ (a.max < 0 ∨ b.max < a.max)) := fun h => h.2.elim m3 (by simpa using m4)
          rw [if_neg m4]
          conv => whnf
          refine ⟨SExec.region_fG TTok mixed 0 0 (by decide +kernel) rfl rfl ?_⟩
          conv => whnf
          refine idxAr (k := 0) h0 rfl ?_
          conv => whnf
          refine .inr (.inr ?_)
          conv => whnf
          refine ho.useP (.refl _) ?_
          conv => whnf
          refine bsel_intro (fun z => ?_) (fun z => ?_)
          · have z : a.min = 0 := by simpa using z
            rw [if_pos z]
            conv => whnf
            refine (tm ov 1 (by omega) (by omega)).use (.refl _) ?_
            conv => whnf
            exact retP TTok rfl (.of_eq rfl) rfl
          · have z : ¬a.min = 0 := by simpa using z
            rw [if_neg z]
            conv => whnf
            refine (tm ov a.min (by omega) (by omega)).use (.refl _) ?_
            conv => whnf
            exact retP TTok rfl (.of_eq rfl) rfl
      · have m4 : 0 ≤ b.max ∧ (a.max < 0 ∨ b.max < a.max) := ⟨m2, .inl (by simpa using m3)⟩
        rw [if_pos m4]
        conv => whnf
        refine idxAr (k := 0) h0 rfl ?_
        conv => whnf
        refine bsel_intro (fun m5 => ?_) (fun m5 => ?_)
        · have m5 : b.max + 1 < a.min := by have m5 : IntKind.i64.wrap (b.max + 1) < a.min := of_decide_eq_true m5; rwa [ew] at m5
          rw [if_pos m5]
          conv => whnf
          refine (tm sv a.min (by omega) (by omega)).use (.refl _) ?_
          conv => whnf
          exact retP TTok rfl (.of_eq rfl) rfl
        · have m5 : ¬b.max + 1 < a.min := by have m5 : ¬IntKind.i64.wrap (b.max + 1) < a.min := of_decide_eq_false m5; rwa [ew] at m5
          rw [if_neg m5]
          conv => whnf
          refine (tm sv (b.max + 1) (by omega) (by omega)).use (.cons (.refl _) (.cons (.of_eq (congrArg vInt ew)) .nil)) ?_
          conv => whnf
          exact retP TTok rfl (.of_eq rfl) rfl
    · have m4 : ¬(0 ≤ b.max ∧ (a.max < 0 ∨ b.max < a.max)) := fun h => absurd h.1 (by simpa using m2)
      rw [if_neg m4]
      conv => whnf
      refine ⟨SExec.region_fG TTok mixed 0 0 (by decide +kernel) rfl rfl ?_⟩
      conv => whnf
      refine idxAr (k := 0) h0 rfl ?_
      conv => whnf
      refine .inr (.inr ?_)
      conv => whnf
      refine ho.useP (.refl _) ?_
      conv => whnf
      refine bsel_intro (fun z => ?_) (fun z => ?_)
      · have z : a.min = 0 := by simpa using z
        rw [if_pos z]
        conv => whnf
        refine (tm ov 1 (by omega) (by omega)).use (.refl _) ?_
        conv => whnf
        exact retP TTok rfl (.of_eq rfl) rfl
      · have z : ¬a.min = 0 := by simpa using z
        rw [if_neg z]
        conv => whnf
        refine (tm ov a.min (by omega) (by omega)).use (.refl _) ?_
        conv => whnf
        exact retP TTok rfl (.of_eq rfl) rfl
end Go.Ab
