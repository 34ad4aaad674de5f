import Derived.Test.YtjggngbfmjneiaaGreatW22
set_option linter.unusedVariables false
set_option linter.unusedSimpArgs false
set_option maxRecDepth 4000
namespace Go.Ab
open Go.Proofs

theorem vall_ok (l : List Val) (hc : ∀ x ∈ l, PCall Tryz.prog 12 [vVal x] (vBool (tt (VOk x)))) : PCall Tryz.prog 40 [vVals l] (vBool (tt (∀ x ∈ l, VOk x))) := by
  refine PCall.bd Tryz.func40 rfl (by decide) rfl rfl (fun hbd => ?_)
  have hl : l.length ≤ 140737488355328 := bd_map (hbd 0 (by simp))
  refine PCall.of_fx TTok mixed Tryz.func40 rfl (by decide) rfl rfl ?_
  conv => whnf
  refine ⟨SExec.loop_p l.length (fun k => ∀ j (h : j < l.length), j < k → VOk l[j]) (fun k => ⟨16, [(3, vInt k), (0, vVals l)], []⟩) (fun j _ h => absurd h (Nat.not_lt_zero _))
    (fun k => Nat.le_refl _) (St.subD_of rfl [] rfl rfl (.cons (.refl _) rfl (.cons (.refl _) rfl .nil))) ?_⟩
  intro k hk hI
  refine fx_sound TTok mixed ?_
  conv => whnf
  refine bsel_intro (fun hlt => ?_) (fun hlt => ?_)
  · have hlt : k < l.length := by simpa using hlt
    conv => whnf
    refine idxVal hlt rfl ?_
    conv => whnf
    refine (hc _ (List.getElem_mem hlt)).use (.refl _) ?_
    conv => whnf
    refine bsel_intro (fun h1 => ?_) (fun h1 => ?_)
    · have h1 := tt_not.1 (by simpa using h1)
      conv => whnf
      exact retB TTok rfl (tt_f fun h => h1 (h _ (List.getElem_mem hlt)))
    · have h1 := tt_iff.1 (by simpa using h1)
      conv => whnf
      refine ⟨⟨hlt, fun j h hj => ?_⟩, St.subD_of rfl _ rfl rfl (.cons (.of_eq (vInt_succ k (by omega))) rfl (.cons (.refl _) rfl .nil))⟩
      by_cases e : j = k
      · subst e; exact h1
      · exact hI j h (by omega)
  · have hge : l.length ≤ k := by simpa using hlt
    conv => whnf
    refine retB TTok rfl (tt_t fun x hx => ?_)
    obtain ⟨j, hj, rfl⟩ := List.mem_iff_getElem.1 hx
    exact hI j hj (by omega)

set_option maxHeartbeats 2000000 in
theorem vformed_0 (num text : ByteArray) (items : List Val) (keys : List ByteArray) (ih : ∀ x ∈ items, PCall Tryz.prog 12 [vVal x] (vBool (tt (VOk x)))) : PCall Tryz.prog 12 [vVal (.mk 0 num text items keys)] (vBool (tt (VOk (.mk 0 num text items keys)))) := by
  refine PCall.of_fx TTok mixed Tryz.func12 rfl (by decide) rfl rfl ?_
  conv => whnf
  refine bsel_intro (fun hn => ?_) (fun hn => ?_)
  · have hn : num ≠ ⟨#[]⟩ := strEq_not.1 (by simpa [Val.num, Val.text] using hn)
    conv => whnf
    exact retB TTok rfl (tt_f (p := VOk (.mk 0 num text items keys)) fun h => by have h := vok_iff.1 h; simp [Val.kind, Val.num, Val.text, Val.items, Val.keys] at h; simp_all)
  have hn : num = ⟨#[]⟩ := strEq_iff.1 (by simpa [Val.num, Val.text] using hn)
  conv => whnf
  refine bsel_intro (fun ht => ?_) (fun ht => ?_)
  · have ht : text ≠ ⟨#[]⟩ := strEq_not.1 (by simpa [Val.num, Val.text] using ht)
    conv => whnf
    exact retB TTok rfl (tt_f (p := VOk (.mk 0 num text items keys)) fun h => by have h := vok_iff.1 h; simp [Val.kind, Val.num, Val.text, Val.items, Val.keys] at h; simp_all)
  have ht : text = ⟨#[]⟩ := strEq_iff.1 (by simpa [Val.num, Val.text] using ht)
  conv => whnf
  refine bsel_intro (fun hi => ?_) (fun hi => ?_)
  case' refine_2 =>
    have hi : items ≠ [] := by rintro rfl; simp [Val.items, Val.keys] at hi
    conv => whnf
    exact retB TTok rfl (tt_f (p := VOk (.mk 0 num text items keys)) fun h => by have h := vok_iff.1 h; simp [Val.kind, Val.num, Val.text, Val.items, Val.keys] at h; simp_all)
  have hi : items = [] := by
    cases items with
    | nil => rfl
    | cons a b => simp [Val.items, Val.keys] at hi
  conv => whnf
  refine bsel_intro (fun hk => ?_) (fun hk => ?_)
  · have hk : keys ≠ [] := by rintro rfl; simp [Val.items, Val.keys] at hk
    conv => whnf
    exact retB TTok rfl (tt_f (p := VOk (.mk 0 num text items keys)) fun h => by have h := vok_iff.1 h; simp [Val.kind, Val.num, Val.text, Val.items, Val.keys] at h; simp_all)
  have hk : keys = [] := by
    cases keys with
    | nil => rfl
    | cons a b => simp [Val.items, Val.keys] at hk
  conv => whnf
  refine (vall_ok items fun x hx => ih x hx).use (.refl _) ?_
  conv => whnf
  exact retB TTok rfl (tt_congr (by rw [vok_iff]; simp [Val.kind, Val.num, Val.text, Val.items, Val.keys, hn, ht, hi, hk]))

set_option maxHeartbeats 2000000 in
theorem vformed_1 (num text : ByteArray) (items : List Val) (keys : List ByteArray) (ih : ∀ x ∈ items, PCall Tryz.prog 12 [vVal x] (vBool (tt (VOk x)))) : PCall Tryz.prog 12 [vVal (.mk 1 num text items keys)] (vBool (tt (VOk (.mk 1 num text items keys)))) := by
  refine PCall.of_fx TTok mixed Tryz.func12 rfl (by decide) rfl rfl ?_
  conv => whnf
  refine bsel_intro (fun hn => ?_) (fun hn => ?_)
  · have hn : num ≠ ⟨#[]⟩ := strEq_not.1 (by simpa [Val.num, Val.text] using hn)
    conv => whnf
    exact retB TTok rfl (tt_f (p := VOk (.mk 1 num text items keys)) fun h => by have h := vok_iff.1 h; simp [Val.kind, Val.num, Val.text, Val.items, Val.keys] at h; simp_all)
  have hn : num = ⟨#[]⟩ := strEq_iff.1 (by simpa [Val.num, Val.text] using hn)
  conv => whnf
  refine bsel_intro (fun ht => ?_) (fun ht => ?_)
  · have ht : text ≠ ⟨#[]⟩ := strEq_not.1 (by simpa [Val.num, Val.text] using ht)
    conv => whnf
    exact retB TTok rfl (tt_f (p := VOk (.mk 1 num text items keys)) fun h => by have h := vok_iff.1 h; simp [Val.kind, Val.num, Val.text, Val.items, Val.keys] at h; simp_all)
  have ht : text = ⟨#[]⟩ := strEq_iff.1 (by simpa [Val.num, Val.text] using ht)
  conv => whnf
  refine bsel_intro (fun hi => ?_) (fun hi => ?_)
  case' refine_2 =>
    have hi : items ≠ [] := by rintro rfl; simp [Val.items, Val.keys] at hi
    conv => whnf
    exact retB TTok rfl (tt_f (p := VOk (.mk 1 num text items keys)) fun h => by have h := vok_iff.1 h; simp [Val.kind, Val.num, Val.text, Val.items, Val.keys] at h; simp_all)
  have hi : items = [] := by
    cases items with
    | nil => rfl
    | cons a b => simp [Val.items, Val.keys] at hi
  conv => whnf
  refine bsel_intro (fun hk => ?_) (fun hk => ?_)
  · have hk : keys ≠ [] := by rintro rfl; simp [Val.items, Val.keys] at hk
    conv => whnf
    exact retB TTok rfl (tt_f (p := VOk (.mk 1 num text items keys)) fun h => by have h := vok_iff.1 h; simp [Val.kind, Val.num, Val.text, Val.items, Val.keys] at h; simp_all)
  have hk : keys = [] := by
    cases keys with
    | nil => rfl
    | cons a b => simp [Val.items, Val.keys] at hk
  conv => whnf
  refine (vall_ok items fun x hx => ih x hx).use (.refl _) ?_
  conv => whnf
  exact retB TTok rfl (tt_congr (by rw [vok_iff]; simp [Val.kind, Val.num, Val.text, Val.items, Val.keys, hn, ht, hi, hk]))

set_option maxHeartbeats 2000000 in
theorem vformed_2 (num text : ByteArray) (items : List Val) (keys : List ByteArray) (ih : ∀ x ∈ items, PCall Tryz.prog 12 [vVal x] (vBool (tt (VOk x)))) : PCall Tryz.prog 12 [vVal (.mk 2 num text items keys)] (vBool (tt (VOk (.mk 2 num text items keys)))) := by
  refine PCall.of_fx TTok mixed Tryz.func12 rfl (by decide) rfl rfl ?_
  conv => whnf
  refine bsel_intro (fun hn => ?_) (fun hn => ?_)
  · have hn : num ≠ ⟨#[]⟩ := strEq_not.1 (by simpa [Val.num, Val.text] using hn)
    conv => whnf
    exact retB TTok rfl (tt_f (p := VOk (.mk 2 num text items keys)) fun h => by have h := vok_iff.1 h; simp [Val.kind, Val.num, Val.text, Val.items, Val.keys] at h; simp_all)
  have hn : num = ⟨#[]⟩ := strEq_iff.1 (by simpa [Val.num, Val.text] using hn)
  conv => whnf
  refine bsel_intro (fun ht => ?_) (fun ht => ?_)
  · have ht : text ≠ ⟨#[]⟩ := strEq_not.1 (by simpa [Val.num, Val.text] using ht)
    conv => whnf
    exact retB TTok rfl (tt_f (p := VOk (.mk 2 num text items keys)) fun h => by have h := vok_iff.1 h; simp [Val.kind, Val.num, Val.text, Val.items, Val.keys] at h; simp_all)
  have ht : text = ⟨#[]⟩ := strEq_iff.1 (by simpa [Val.num, Val.text] using ht)
  conv => whnf
  refine bsel_intro (fun hi => ?_) (fun hi => ?_)
  case' refine_2 =>
    have hi : items ≠ [] := by rintro rfl; simp [Val.items, Val.keys] at hi
    conv => whnf
    exact retB TTok rfl (tt_f (p := VOk (.mk 2 num text items keys)) fun h => by have h := vok_iff.1 h; simp [Val.kind, Val.num, Val.text, Val.items, Val.keys] at h; simp_all)
  have hi : items = [] := by
    cases items with
    | nil => rfl
    | cons a b => simp [Val.items, Val.keys] at hi
  conv => whnf
  refine bsel_intro (fun hk => ?_) (fun hk => ?_)
  · have hk : keys ≠ [] := by rintro rfl; simp [Val.items, Val.keys] at hk
    conv => whnf
    exact retB TTok rfl (tt_f (p := VOk (.mk 2 num text items keys)) fun h => by have h := vok_iff.1 h; simp [Val.kind, Val.num, Val.text, Val.items, Val.keys] at h; simp_all)
  have hk : keys = [] := by
    cases keys with
    | nil => rfl
    | cons a b => simp [Val.items, Val.keys] at hk
  conv => whnf
  refine (vall_ok items fun x hx => ih x hx).use (.refl _) ?_
  conv => whnf
  exact retB TTok rfl (tt_congr (by rw [vok_iff]; simp [Val.kind, Val.num, Val.text, Val.items, Val.keys, hn, ht, hi, hk]))

set_option maxHeartbeats 2000000 in
theorem vformed_3 (num text : ByteArray) (items : List Val) (keys : List ByteArray) (ih : ∀ x ∈ items, PCall Tryz.prog 12 [vVal x] (vBool (tt (VOk x)))) : PCall Tryz.prog 12 [vVal (.mk 3 num text items keys)] (vBool (tt (VOk (.mk 3 num text items keys)))) := by
  refine PCall.of_fx TTok mixed Tryz.func12 rfl (by decide) rfl rfl ?_
  conv => whnf
  refine (number_ok num).use (.refl _) ?_
  conv => whnf
  refine bsel_intro (fun hn => ?_) (fun hn => ?_)
  case' refine_2 =>
    have hn : ¬NumOk num := tt_not.1 (by simpa using hn)
    conv => whnf
    exact retB TTok rfl (tt_f (p := VOk (.mk 3 num text items keys)) fun h => by have h := vok_iff.1 h; simp [Val.kind, Val.num, Val.text, Val.items, Val.keys] at h; simp_all)
  have hn : NumOk num := tt_iff.1 (by simpa using hn)
  conv => whnf
  refine bsel_intro (fun ht => ?_) (fun ht => ?_)
  · have ht : text ≠ ⟨#[]⟩ := strEq_not.1 (by simpa [Val.num, Val.text] using ht)
    conv => whnf
    exact retB TTok rfl (tt_f (p := VOk (.mk 3 num text items keys)) fun h => by have h := vok_iff.1 h; simp [Val.kind, Val.num, Val.text, Val.items, Val.keys] at h; simp_all)
  have ht : text = ⟨#[]⟩ := strEq_iff.1 (by simpa [Val.num, Val.text] using ht)
  conv => whnf
  refine bsel_intro (fun hi => ?_) (fun hi => ?_)
  case' refine_2 =>
    have hi : items ≠ [] := by rintro rfl; simp [Val.items, Val.keys] at hi
    conv => whnf
    exact retB TTok rfl (tt_f (p := VOk (.mk 3 num text items keys)) fun h => by have h := vok_iff.1 h; simp [Val.kind, Val.num, Val.text, Val.items, Val.keys] at h; simp_all)
  have hi : items = [] := by
    cases items with
    | nil => rfl
    | cons a b => simp [Val.items, Val.keys] at hi
  conv => whnf
  refine bsel_intro (fun hk => ?_) (fun hk => ?_)
  · have hk : keys ≠ [] := by rintro rfl; simp [Val.items, Val.keys] at hk
    conv => whnf
    exact retB TTok rfl (tt_f (p := VOk (.mk 3 num text items keys)) fun h => by have h := vok_iff.1 h; simp [Val.kind, Val.num, Val.text, Val.items, Val.keys] at h; simp_all)
  have hk : keys = [] := by
    cases keys with
    | nil => rfl
    | cons a b => simp [Val.items, Val.keys] at hk
  conv => whnf
  refine (vall_ok items fun x hx => ih x hx).use (.refl _) ?_
  conv => whnf
  exact retB TTok rfl (tt_congr (by rw [vok_iff]; simp [Val.kind, Val.num, Val.text, Val.items, Val.keys, hn, ht, hi, hk]))

set_option maxHeartbeats 2000000 in
theorem vformed_4 (num text : ByteArray) (items : List Val) (keys : List ByteArray) (ih : ∀ x ∈ items, PCall Tryz.prog 12 [vVal x] (vBool (tt (VOk x)))) : PCall Tryz.prog 12 [vVal (.mk 4 num text items keys)] (vBool (tt (VOk (.mk 4 num text items keys)))) := by
  refine PCall.of_fx TTok mixed Tryz.func12 rfl (by decide) rfl rfl ?_
  conv => whnf
  refine bsel_intro (fun hn => ?_) (fun hn => ?_)
  · have hn : num ≠ ⟨#[]⟩ := strEq_not.1 (by simpa [Val.num, Val.text] using hn)
    conv => whnf
    exact retB TTok rfl (tt_f (p := VOk (.mk 4 num text items keys)) fun h => by have h := vok_iff.1 h; simp [Val.kind, Val.num, Val.text, Val.items, Val.keys] at h; simp_all)
  have hn : num = ⟨#[]⟩ := strEq_iff.1 (by simpa [Val.num, Val.text] using hn)
  conv => whnf
  refine (utf_ok text).use (.refl _) ?_
  conv => whnf
  refine bsel_intro (fun ht => ?_) (fun ht => ?_)
  case' refine_2 =>
    have ht : ¬Utf text := tt_not.1 (by simpa using ht)
    conv => whnf
    exact retB TTok rfl (tt_f (p := VOk (.mk 4 num text items keys)) fun h => by have h := vok_iff.1 h; simp [Val.kind, Val.num, Val.text, Val.items, Val.keys] at h; simp_all)
  have ht : Utf text := tt_iff.1 (by simpa using ht)
  conv => whnf
  refine bsel_intro (fun hi => ?_) (fun hi => ?_)
  case' refine_2 =>
    have hi : items ≠ [] := by rintro rfl; simp [Val.items, Val.keys] at hi
    conv => whnf
    exact retB TTok rfl (tt_f (p := VOk (.mk 4 num text items keys)) fun h => by have h := vok_iff.1 h; simp [Val.kind, Val.num, Val.text, Val.items, Val.keys] at h; simp_all)
  have hi : items = [] := by
    cases items with
    | nil => rfl
    | cons a b => simp [Val.items, Val.keys] at hi
  conv => whnf
  refine bsel_intro (fun hk => ?_) (fun hk => ?_)
  · have hk : keys ≠ [] := by rintro rfl; simp [Val.items, Val.keys] at hk
    conv => whnf
    exact retB TTok rfl (tt_f (p := VOk (.mk 4 num text items keys)) fun h => by have h := vok_iff.1 h; simp [Val.kind, Val.num, Val.text, Val.items, Val.keys] at h; simp_all)
  have hk : keys = [] := by
    cases keys with
    | nil => rfl
    | cons a b => simp [Val.items, Val.keys] at hk
  conv => whnf
  refine (vall_ok items fun x hx => ih x hx).use (.refl _) ?_
  conv => whnf
  exact retB TTok rfl (tt_congr (by rw [vok_iff]; simp [Val.kind, Val.num, Val.text, Val.items, Val.keys, hn, ht, hi, hk]))

set_option maxHeartbeats 2000000 in
theorem vformed_5 (num text : ByteArray) (items : List Val) (keys : List ByteArray) (ih : ∀ x ∈ items, PCall Tryz.prog 12 [vVal x] (vBool (tt (VOk x)))) : PCall Tryz.prog 12 [vVal (.mk 5 num text items keys)] (vBool (tt (VOk (.mk 5 num text items keys)))) := by
  refine PCall.of_fx TTok mixed Tryz.func12 rfl (by decide) rfl rfl ?_
  conv => whnf
  refine bsel_intro (fun hn => ?_) (fun hn => ?_)
  · have hn : num ≠ ⟨#[]⟩ := strEq_not.1 (by simpa [Val.num, Val.text] using hn)
    conv => whnf
    exact retB TTok rfl (tt_f (p := VOk (.mk 5 num text items keys)) fun h => by have h := vok_iff.1 h; simp [Val.kind, Val.num, Val.text, Val.items, Val.keys] at h; simp_all)
  have hn : num = ⟨#[]⟩ := strEq_iff.1 (by simpa [Val.num, Val.text] using hn)
  conv => whnf
  refine bsel_intro (fun ht => ?_) (fun ht => ?_)
  · have ht : text ≠ ⟨#[]⟩ := strEq_not.1 (by simpa [Val.num, Val.text] using ht)
    conv => whnf
    exact retB TTok rfl (tt_f (p := VOk (.mk 5 num text items keys)) fun h => by have h := vok_iff.1 h; simp [Val.kind, Val.num, Val.text, Val.items, Val.keys] at h; simp_all)
  have ht : text = ⟨#[]⟩ := strEq_iff.1 (by simpa [Val.num, Val.text] using ht)
  conv => whnf
  refine bsel_intro (fun hk => ?_) (fun hk => ?_)
  · have hk : keys ≠ [] := by rintro rfl; simp [Val.items, Val.keys] at hk
    conv => whnf
    exact retB TTok rfl (tt_f (p := VOk (.mk 5 num text items keys)) fun h => by have h := vok_iff.1 h; simp [Val.kind, Val.num, Val.text, Val.items, Val.keys] at h; simp_all)
  have hk : keys = [] := by
    cases keys with
    | nil => rfl
    | cons a b => simp [Val.items, Val.keys] at hk
  conv => whnf
  refine (vall_ok items fun x hx => ih x hx).use (.refl _) ?_
  conv => whnf
  exact retB TTok rfl (tt_congr (by rw [vok_iff]; simp [Val.kind, Val.num, Val.text, Val.items, Val.keys, hn, ht, hk]))

set_option maxHeartbeats 2000000 in
theorem vformed_6 (num text : ByteArray) (items : List Val) (keys : List ByteArray) (ih : ∀ x ∈ items, PCall Tryz.prog 12 [vVal x] (vBool (tt (VOk x)))) : PCall Tryz.prog 12 [vVal (.mk 6 num text items keys)] (vBool (tt (VOk (.mk 6 num text items keys)))) := by
  refine PCall.of_fx TTok mixed Tryz.func12 rfl (by decide) rfl rfl ?_
  conv => whnf
  refine bsel_intro (fun hn => ?_) (fun hn => ?_)
  · have hn : num ≠ ⟨#[]⟩ := strEq_not.1 (by simpa [Val.num, Val.text] using hn)
    conv => whnf
    exact retB TTok rfl (tt_f (p := VOk (.mk 6 num text items keys)) fun h => by have h := vok_iff.1 h; simp [Val.kind, Val.num, Val.text, Val.items, Val.keys] at h; simp_all)
  have hn : num = ⟨#[]⟩ := strEq_iff.1 (by simpa [Val.num, Val.text] using hn)
  conv => whnf
  refine bsel_intro (fun ht => ?_) (fun ht => ?_)
  · have ht : text ≠ ⟨#[]⟩ := strEq_not.1 (by simpa [Val.num, Val.text] using ht)
    conv => whnf
    exact retB TTok rfl (tt_f (p := VOk (.mk 6 num text items keys)) fun h => by have h := vok_iff.1 h; simp [Val.kind, Val.num, Val.text, Val.items, Val.keys] at h; simp_all)
  have ht : text = ⟨#[]⟩ := strEq_iff.1 (by simpa [Val.num, Val.text] using ht)
  conv => whnf
  refine bsel_intro (fun hl => ?_) (fun hl => ?_)
  case' refine_2 =>
    have hl : keys.length ≠ items.length := by simp [ofNat_cast, Val.items, Val.keys] at hl; omega
    conv => whnf
    exact retB TTok rfl (tt_f (p := VOk (.mk 6 num text items keys)) fun h => by have h := vok_iff.1 h; simp [Val.kind, Val.num, Val.text, Val.items, Val.keys] at h; simp_all)
  have hl : keys.length = items.length := by simp [ofNat_cast, Val.items, Val.keys] at hl; omega
  conv => whnf
  refine (rise_ok keys).use (.refl _) ?_
  conv => whnf
  refine bsel_intro (fun hr => ?_) (fun hr => ?_)
  · have hr : ¬Rise keys := tt_not.1 (by simpa using hr)
    conv => whnf
    exact retB TTok rfl (tt_f (p := VOk (.mk 6 num text items keys)) fun h => by have h := vok_iff.1 h; simp [Val.kind, Val.num, Val.text, Val.items, Val.keys] at h; simp_all)
  have hr : Rise keys := tt_iff.1 (by simpa using hr)
  conv => whnf
  refine (vall_ok items fun x hx => ih x hx).use (.refl _) ?_
  conv => whnf
  exact retB TTok rfl (tt_congr (by rw [vok_iff]; simp [Val.kind, Val.num, Val.text, Val.items, Val.keys, hn, ht, hl, hr]))

theorem vformed_ok : ∀ v : Val, PCall Tryz.prog 12 [vVal v] (vBool (tt (VOk v))) := by
  intro v
  induction v using Val.ind with
  | h v ih =>
  obtain ⟨kind, num, text, items, keys⟩ := v
  by_cases k1 : kind < 0
  · refine PCall.of_fx TTok mixed Tryz.func12 rfl (by decide) rfl rfl ?_
    conv => whnf
    refine bsel_false (by simp [Val.kind]; exact decide_eq_true k1) ?_
    conv => whnf
    exact retB TTok rfl (tt_f fun h => by have h := (vok_iff.1 h).1.1; simp only [Val.kind] at h; omega)
  by_cases k2 : 6 < kind
  · refine PCall.of_fx TTok mixed Tryz.func12 rfl (by decide) rfl rfl ?_
    conv => whnf
    refine bsel_true (by simp [Val.kind]; exact decide_eq_false k1) ?_
    conv => whnf
    refine bsel_true (by simp [Val.kind]; omega) ?_
    conv => whnf
    exact retB TTok rfl (tt_f fun h => by have h := (vok_iff.1 h).1.2; simp only [Val.kind] at h; omega)
  have k3 : kind = 0 ∨ kind = 1 ∨ kind = 2 ∨ kind = 3 ∨ kind = 4 ∨ kind = 5 ∨ kind = 6 := by omega
  rcases k3 with rfl | rfl | rfl | rfl | rfl | rfl | rfl
  · exact vformed_0 num text items keys ih
  · exact vformed_1 num text items keys ih
  · exact vformed_2 num text items keys ih
  · exact vformed_3 num text items keys ih
  · exact vformed_4 num text items keys ih
  · exact vformed_5 num text items keys ih
  · exact vformed_6 num text items keys ih
end Go.Ab
