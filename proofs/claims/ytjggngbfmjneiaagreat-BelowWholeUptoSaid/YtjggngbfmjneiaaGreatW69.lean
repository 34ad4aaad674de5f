import Derived.Test.YtjggngbfmjneiaaGreatW66
set_option linter.unusedVariables false
set_option linter.unusedSimpArgs false
set_option maxRecDepth 4000
namespace Go.Ab
open Go.Proofs

/-! ### A value of both -/
def BothC (a b : Ty) : Prop := ∃ v f, PCall Tryz.prog 14 [vTy a, vTy b] (vVB v f) ∧ BothS a b v f
open Classical in
noncomputable def barV (a b : Ar) (x : Val) (f : Bool) : Val × Bool := if NoLen a b then (vk 0, false) else if leastA a b = 0 then (vk 5, true) else (vArr (List.replicate (leastA a b).toNat x), f)
theorem barV_ok {a b : Ar} {x : Val} {f : Bool} (ha : 0 ≤ a.min ∧ a.min ≤ 100000) (hb : 0 ≤ b.min ∧ b.min ≤ 100000) (h : BothS a.item b.item x f) : BothArS a b (barV a b x f).1 (barV a b x f).2 := by
  have l0 : 0 ≤ leastA a b ∧ leastA a b ≤ 100000 := by unfold leastA; split <;> omega
  unfold barV
  split
  · rename_i h; exact bothAr_len h
  · rename_i hn
    split
    · rename_i h0; exact bothAr_zero h0 hn ha.1 hb.1
    · rename_i h0
      exact bothAr_some (n := (leastA a b).toNat) (by omega) (by omega) (by omega) hn h

set_option maxHeartbeats 8000000 in
theorem bothArr12_ok (a b : Ar) (ha : 0 ≤ a.min ∧ a.min ≤ 100000) (hb : 0 ≤ b.min ∧ b.min ≤ 100000) {x : Val} {f : Bool} (hc : PCall Tryz.prog 14 [vTy a.item, vTy b.item] (vVB x f)) : PCall Tryz.prog 45 [vAr a, vAr b] (vVB (barV a b x f).1 (barV a b x f).2) := by
  refine PCall.of_fx TTok mixed Tryz.func45 rfl (by decide) rfl rfl ?_
  have l0 : 0 ≤ leastA a b ∧ leastA a b ≤ 100000 := by unfold leastA; split <;> omega
  have yes : NoLen a b → barV a b x f = (vk 0, false) := fun h => by unfold barV; rw [if_pos h]
  have zer : ¬NoLen a b → leastA a b = 0 → barV a b x f = (vk 5, true) := fun h h0 => by unfold barV; rw [if_neg h, if_pos h0]
  have som : ¬NoLen a b → leastA a b ≠ 0 → barV a b x f = (vArr (List.replicate (leastA a b).toNat x), f) := fun h h0 => by unfold barV; rw [if_neg h, if_neg h0]
  have nl : NoLen a b ↔ (0 ≤ a.max ∧ a.max < leastA a b) ∨ (0 ≤ b.max ∧ b.max < leastA a b) := .rfl
  have tm := times12_ok x (leastA a b).toNat (by omega)
  have etm : vInt (((leastA a b).toNat : Nat) : Int) = vInt (leastA a b) := by rw [Int.toNat_of_nonneg l0.1]
  rw [etm] at tm
  generalize hN : NoLen a b = N at *
  generalize hn : leastA a b = n at *
  have hn' : (if a.min < b.min then b.min else a.min) = n := hn
  conv => whnf
  refine bsel_intro (fun m1 => ?_) (fun m1 => ?_)
  case' refine_1 =>
    have m1 : a.min < b.min := by simpa using m1
    have e : b.min = n := by rw [← hn', if_pos m1]
  case' refine_2 =>
    have m1 : ¬a.min < b.min := by simpa using m1
    have e : a.min = n := by rw [← hn', if_neg m1]
  all_goals
    clear m1 hn'
    conv => whnf
    refine bsel_intro (fun m2 => ?_) (fun m2 => ?_)
    case' refine_1 =>
      have m2 : 0 ≤ a.max := by simpa using m2
      conv => whnf
      refine bsel_intro (fun m3 => ?_) (fun m3 => ?_)
      case' refine_2 =>
        have m3 : a.max < n := by have m3 := m3; simp at m3; omega
        conv => whnf
        exact retP TTok rfl (entVB' (v := vk 0) (yes (nl.2 (.inl ⟨m2, m3⟩))) (.refl _) (.refl _) (.refl _) rfl rfl) rfl
      have m3 : ¬(0 ≤ a.max ∧ a.max < n) := by have m3 := m3; simp at m3; omega
    case' refine_2 =>
      have m3 : ¬(0 ≤ a.max ∧ a.max < n) := by have m2 := m2; simp at m2; omega
    all_goals
      clear m2
      conv => whnf
      refine bsel_intro (fun m4 => ?_) (fun m4 => ?_)
      case' refine_1 =>
        have m4 : 0 ≤ b.max := by simpa using m4
        conv => whnf
        refine bsel_intro (fun m5 => ?_) (fun m5 => ?_)
        case' refine_1 =>
          have m5 : b.max < n := by have m5 := m5; simp at m5; omega
          conv => whnf
          exact retP TTok rfl (entVB' (v := vk 0) (yes (nl.2 (.inr ⟨m4, m5⟩))) (.refl _) (.refl _) (.refl _) rfl rfl) rfl
        have m5 : ¬(0 ≤ b.max ∧ b.max < n) := by have m5 := m5; simp at m5; omega
      case' refine_2 =>
        have m5 : ¬(0 ≤ b.max ∧ b.max < n) := by have m4 := m4; simp at m4; omega
      all_goals
        clear m4
        have nN : ¬N := fun h => (nl.1 h).elim m3 m5
        conv => whnf
        refine bsel_intro (fun z => ?_) (fun z => ?_)
        · have z : n = 0 := by have z := z; simp at z; omega
          conv => whnf
          exact retP TTok rfl (entVB' (v := vk 5) (zer nN z) (.refl _) (.refl _) (.refl _) rfl rfl) rfl
        · have z : n ≠ 0 := by have z := z; simp at z; omega
          conv => whnf
          refine hc.use (.refl _) ?_
          conv => whnf
          refine tm.use (.cons (.refl _) (.cons (.of_eq (congrArg vInt e)) .nil)) ?_
          conv => whnf
          exact retP TTok rfl (.of_eq (by rw [som nN z]; rfl)) rfl

/-! ### Objects -/
noncomputable def objV (mu : ByteArray → Bool) (bv : ByteArray → Val) (l : List ByteArray) : Val := l.foldl (fun v n => if mu n = true then gVal (v.keys ++ [n]) (v.items ++ [bv n]) else v) (vk 6)
theorem objV_next {mu : ByteArray → Bool} {bv : ByteArray → Val} {l : List ByteArray} {k : Nat} (h : k < l.length) : objV mu bv (l.take (k + 1)) = if mu l[k] = true then gVal ((objV mu bv (l.take k)).keys ++ [l[k]]) ((objV mu bv (l.take k)).items ++ [bv l[k]]) else objV mu bv (l.take k) := by
  rw [take_next h]; unfold objV; rw [List.foldl_append]; rfl
structure ObjW (a b : Ob) (l : List ByteArray) (bv : ByteArray → Val) (bf : ByteArray → Bool) : Prop where
  names : NamesOf a b l
  few : l.length ≤ 4000
  utf : ∀ n ∈ l, Utf n
  spec : ∀ n, Names2 a b n → BothS (fieldO a n).1 (fieldO b n).1 (bv n) (bf n)
def muO (a b : Ob) (n : ByteArray) : Bool := (fieldO a n).2 || (fieldO b n).2
theorem objV_ok {a b : Ob} {l : List ByteArray} {bv : ByteArray → Val} {bf : ByteArray → Bool} (w : ObjW a b l bv bf) : ∀ k, k ≤ l.length → (∀ j (h : j < l.length), j < k → muO a b l[j] = true → bf l[j] = true) → ObjI a b l k (objV (muO a b) bv (l.take k))
  | 0, _, _ => objI_zero a b l
  | k + 1, hk, hf => by
    have hk' : k < l.length := by omega
    have ih := objV_ok w k (by omega) fun j h hj => hf j h (by omega)
    have few := w.few
    rw [objV_next hk']
    split
    · rename_i hm
      have hb := w.spec l[k] ((w.names.mem _).1 (List.getElem_mem hk'))
      have := hb.yes (hf k hk' (by omega) hm)
      exact ih.put hk' (with_ok ih.ok ih.kind (w.utf _ (List.getElem_mem hk')) hb.ok (by have := ih.cnt; omega)) this.1 this.2
    · rename_i hm
      unfold muO at hm
      simp only [Bool.or_eq_true, not_or, Bool.not_eq_true] at hm
      exact ih.skip hk' hm.1 hm.2
def NoneO (a b : Ob) (l : List ByteArray) (bf : ByteArray → Bool) : Prop := ∃ n ∈ l, muO a b n = true ∧ bf n = false
open Classical in
noncomputable def bobV (a b : Ob) (l : List ByteArray) (bv : ByteArray → Val) (bf : ByteArray → Bool) : Val × Bool := if NoneO a b l bf then (vk 0, false) else (objV (muO a b) bv l, true)
theorem bobV_ok {a b : Ob} {l : List ByteArray} {bv : ByteArray → Val} {bf : ByteArray → Bool} (w : ObjW a b l bv bf) : BothObS a b (bobV a b l bv bf).1 (bobV a b l bv bf).2 := by
  unfold bobV
  split
  · rename_i h
    obtain ⟨n, hn, hm, hf⟩ := h
    refine ⟨vk_g (by omega), fun e => (by cases e), fun _ => ⟨n, (w.names.mem n).1 hn, by simpa [muO] using hm, (w.spec n ((w.names.mem n).1 hn)).no hf⟩⟩
  · rename_i h
    have h1 : ∀ j (h : j < l.length), muO a b l[j] = true → bf l[j] = true := fun j hj hm => by
      cases hb : bf l[j] with
      | true => rfl
      | false => exact absurd ⟨_, List.getElem_mem hj, hm, hb⟩ h
    have i := objV_ok w l.length (Nat.le_refl _) fun j h _ => h1 j h
    rw [List.take_length] at i
    exact ⟨i.ok, fun _ => ⟨i.kind, (i.done (Nat.le_refl _) w.names).1, (i.done (Nat.le_refl _) w.names).2⟩, fun e => by cases e⟩

set_option maxHeartbeats 8000000 in
theorem bothObj12_ok (a b : Ob) (wa : ObW a) (wb : ObW b) {bv : ByteArray → Val} {bf : ByteArray → Bool} (w : ObjW a b (names12 a b) bv bf)
    (hc : ∀ n, Names2 a b n → muO a b n = true → PCall Tryz.prog 14 [vTy (fieldO a n).1, vTy (fieldO b n).1] (vVB (bv n) (bf n))) :
    PCall Tryz.prog 46 [vOb a, vOb b] (vVB (bobV a b (names12 a b) bv bf).1 (bobV a b (names12 a b) bv bf).2) := by
  have f1 := wa.few
  have f2 := wb.few
  have hn := names12_ok a b (by omega) (by omega)
  have few := w.few
  generalize names12 a b = l at *
  have fail : NoneO a b l bf → bobV a b l bv bf = (vk 0, false) := fun h => by unfold bobV; rw [if_pos h]
  have good : ¬NoneO a b l bf → bobV a b l bv bf = (objV (muO a b) bv l, true) := fun h => by unfold bobV; rw [if_neg h]
  generalize bobV a b l bv bf = res at *
  refine PCall.of_fx TTok mixed Tryz.func46 rfl (by decide) rfl rfl ?_
  conv => whnf
  refine hn.use (.refl _) ?_
  conv => whnf
  refine ⟨SExec.up 9 1 ⟨67, [(8, vInt (0 : Nat)), (7, vStrs l), (6, .bx 3 0), (4, .bx 2 0), (3, .bx 1 0), (2, .bx 0 0)], [.row 44 (cellsV (vOb a)), .row 44 (cellsV (vOb b)), .row 33 zVal, .row 33 (cellsV (vVal (vk 6))), .tok 9 1 0]⟩ _ rfl
    (.cons (.refl _) (.cons (.refl _) (.cons (.refl _) (.cons (.row (.cons (.refl _ _) (.cons (.refl _ _) (.cons (.refl _ _) (.cons (.of_ent .nil_sl) (.cons (.of_ent .nil_sl) .nil)))))) .nil)))) rfl (.cons (.refl _ _) (.cons (.refl _ _) (.cons (.refl _ _) (.cons (.refl _ _) (.cons (.refl _ _) (.cons (.refl _ _) .nil)))))) ?_⟩
  refine SExec.loop_p l.length (fun k => ∀ j (h : j < l.length), j < k → muO a b l[j] = true → bf l[j] = true) (fun k => ⟨67, [(8, vInt k), (7, vStrs l), (6, .bx 3 0), (4, .bx 2 0), (3, .bx 1 0), (2, .bx 0 0)], [.row 44 (cellsV (vOb a)), .row 44 (cellsV (vOb b)), .row 33 zVal, .row 33 (cellsV (vVal (objV (muO a b) bv (l.take k)))), .tok 9 1 0]⟩) (fun j _ h => absurd h (Nat.not_lt_zero j)) (fun k => Nat.le_refl _)
    (St.subD_of rfl [] rfl rfl (.cons (.refl _) rfl (.cons (.refl _) rfl (.cons (.refl _) rfl (.cons (.refl _) rfl (.cons (.refl _) rfl (.cons (.refl _) rfl .nil))))))) ?_
  intro k hk hI
  have hi := objV_ok w k hk hI
  have hcnt := hi.cnt
  refine fx_sound TTok mixed ?_
  conv => whnf
  refine bsel_intro (fun hlt => ?_) (fun hlt => ?_)
  · have hlt : k < l.length := by simpa using hlt
    have hm := (w.names.mem _).1 (List.getElem_mem hlt)
    have hcc := hc _ hm
    have ev := objV_next (mu := muO a b) (bv := bv) hlt
    have hsp := w.spec _ hm
    have fin := fun (h : muO a b l[k] = true → bf l[k] = true) => (show ∀ j (h : j < l.length), j < k + 1 → muO a b l[j] = true → bf l[j] = true from fun j hj hjk => by
      by_cases e : j = k
      · subst e; exact h
      · exact hI j hj (by omega))
    conv => whnf
    refine ⟨SExec.region_fG TTok mixed 0 1 (by decide +kernel) rfl rfl ?_⟩
    conv => whnf
    refine idxStr hlt rfl ?_
    conv => whnf
    refine .inr (.inr ?_)
    conv => whnf
    refine (field12_ok a l[k] wa.fields wa.must).useP (.refl _) ?_
    conv => whnf
    refine ⟨SExec.region_fG TTok mixed 0 1 (by decide +kernel) rfl rfl ?_⟩
    conv => whnf
    refine idxStr hlt rfl ?_
    conv => whnf
    refine .inr (.inr ?_)
    conv => whnf
    refine (field12_ok b l[k] wb.fields wb.must).useP (.refl _) ?_
    conv => whnf
    refine bsel_intro (fun a1 => ?_) (fun a1 => ?_)
    case' refine_1 =>
      have a1 : (fieldO a l[k]).2 = false := beqF a1
      conv => whnf
      refine bsel_intro (fun b1 => ?_) (fun b1 => ?_)
      case' refine_2 =>
        have b1 : (fieldO b l[k]).2 = false := b1
        have hmu : muO a b l[k] = false := by unfold muO; rw [a1, b1]; rfl
        rw [hmu, if_neg (by simp)] at ev
        conv => whnf
        exact ⟨⟨hlt, fin fun h => by rw [hmu] at h; cases h⟩, St.subD_of rfl _ (by rw [ev]; rfl) rfl (.cons (.of_eq (vInt_succ k (by omega))) rfl (.cons (.refl _) rfl (.cons (.refl _) rfl (.cons (.refl _) rfl (.cons (.refl _) rfl (.cons (.refl _) rfl .nil))))))⟩
      have hmu : muO a b l[k] = true := by unfold muO; rw [show (fieldO b l[k]).2 = true from b1]; simp
    case' refine_2 =>
      have hmu : muO a b l[k] = true := by unfold muO; rw [show (fieldO a l[k]).2 = true by simpa using a1]; simp
    all_goals
      have hcc := hcc hmu
      rw [hmu, if_pos rfl] at ev
      conv => whnf
      refine hcc.use (.refl _) ?_
      conv => whnf
      refine bsel_intro (fun f1 => ?_) (fun f1 => ?_)
      · have f1 : bf l[k] = false := by simpa using f1
        conv => whnf
        exact retP TTok rfl (entVB' (v := vk 0) (fail ⟨_, List.getElem_mem hlt, hmu, f1⟩) (.refl _) (.refl _) (.refl _) rfl rfl) rfl
      · have f1 : bf l[k] = true := by simpa using f1
        conv => whnf
        refine ⟨SExec.region_fG TTok mixed 0 0 (by decide +kernel) rfl rfl ?_⟩
        conv => whnf
        refine idxStr hlt rfl ?_
        conv => whnf
        refine .inr (.inr ?_)
        conv => whnf
        refine (with03_ok _ (bv l[k]) l[k] hi.ok hi.kind (w.utf _ (List.getElem_mem hlt)) hsp.ok (by omega)).useP (.refl _) ?_
        conv => whnf
        exact ⟨⟨hlt, fin fun _ => f1⟩, St.subD_of rfl _ (by rw [ev]; rfl) rfl (.cons (.of_eq (vInt_succ k (by omega))) rfl (.cons (.refl _) rfl (.cons (.refl _) rfl (.cons (.refl _) rfl (.cons (.refl _) rfl (.cons (.refl _) rfl .nil))))))⟩
  · have hge : l.length ≤ k := by simpa using hlt
    have hk' : k = l.length := by omega
    have hno : ¬NoneO a b l bf := fun ⟨n, hn, hm, hf⟩ => by
      obtain ⟨j, hj, rfl⟩ := List.mem_iff_getElem.1 hn
      rw [hI j hj (by omega) hm] at hf; cases hf
    rw [good hno]
    subst hk'
    rw [List.take_length]
    conv => whnf
    exact retP TTok rfl (.of_eq rfl) rfl
end Go.Ab
