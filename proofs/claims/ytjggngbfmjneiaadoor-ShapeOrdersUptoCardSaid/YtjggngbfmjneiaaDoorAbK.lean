import Derived.Test.YtjggngbfmjneiaaDoorAbJ
set_option linter.unusedVariables false
set_option linter.unusedSimpArgs false
namespace Go.Ab
section
variable {P : Program}

/-! ### Slices that grow -/
/-- A type that is appended: cells, bytes. -/
def ElIs (P : Program) (e : TypeId) (sz bytes : Nat) : Prop := ∃ i z, P.info? e = some i ∧ i.zero = some z ∧ i.size = sz ∧ i.bytes = bytes ∧ z.cells.size = sz ∧ 0 < sz

def oneRows (rows : List (List D)) : Bool := rows.all fun r => r.all D.oneC

theorem RepD.sl_inv {F : Mem} {a : Option Addr} {n cap : Nat} {rows : List (List D)} (h : RepD F (.slice a n cap) (.sl rows)) :
    n = rows.length ∧ rows.length ≤ maxRows ∧ rows.length ≤ cap ∧ ∃ sz, (∀ r ∈ rows, r.length = sz) ∧ ∃ vals : Nat → Value,
      (0 < rows.length * sz → ∃ ad, a = some ad ∧ ∀ k, k < rows.length * sz → F (ad.add k) = some (vals k)) ∧
      (∀ i j, i < rows.length → j < sz → RepD F (vals (i * sz + j)) ((rows.getD i []).getD j default)) := by
  generalize hv : Value.slice a n cap = v at h
  cases h with
  | sl a' cap' sz _ vals hrow hlen hcap ha hr =>
    injection hv with e1 e2 e3
    subst e1; subst e2; subst e3
    exact ⟨rfl, hlen, hcap, sz, hrow, vals, ha, hr⟩

theorem rows_sz {rows : List (List D)} {sz n : Nat} (h : ∀ r ∈ rows, r.length = sz) (k : ∀ r ∈ rows, r.length = n) : rows = [] ∨ sz = n := by
  cases rows with
  | nil => exact .inl rfl
  | cons r l => exact .inr ((h r (by simp)).symm.trans (k r (by simp)))

theorem div_lt {k sz n : Nat} (h : k < n * sz) (hs : 0 < sz) : k / sz < n := Nat.div_lt_of_lt_mul (by rw [Nat.mul_comm]; exact h)

/-- The cells of a slice that is read, as a list. -/
theorem RepD.flat {F : Mem} {w : World} {a : Option Addr} {n cap sz : Nat} {rows : List (List D)} (h : RepD F (.slice a n cap) (.sl rows)) (hF : ∀ a v, F a = some v → w.cell? a = some v) (hsz : ∀ r ∈ rows, r.length = sz) (hs0 : 0 < sz)
    (h1 : oneRows rows = true) : ∃ news : List Value, news.length = n * sz ∧ (∀ u ∈ news, u.oneCell' = true) ∧ (∀ i j, i < rows.length → j < sz → RepD F (news.getD (i * sz + j) undef) ((rows.getD i []).getD j default)) ∧
      (0 < n → ∃ ad, a = some ad ∧ ∀ j u, news[j]? = some u → w.cell? (ad.add j) = some u) := by
  obtain ⟨rfl, hl, hc, sz', hrow, vals, ha, hr⟩ := h.sl_inv
  rcases rows_sz hrow hsz with h0 | rfl
  · subst h0
    exact ⟨[], by simp, by simp, by simp, by simp⟩
  · refine ⟨(List.range (rows.length * sz')).map vals, by simp, ?_, ?_, ?_⟩
    · intro u hu
      simp at hu
      obtain ⟨k, hk, rfl⟩ := hu
      have hi : k / sz' < rows.length := div_lt hk hs0
      have := hr (k / sz') (k % sz') hi (Nat.mod_lt _ hs0)
      rw [show k / sz' * sz' + k % sz' = k by rw [Nat.mul_comm]; exact Nat.div_add_mod k sz'] at this
      refine this.oneC ?_
      have hrw := List.all_eq_true.1 h1 (rows.getD (k / sz') []) (by simp [List.getD_eq_getElem?_getD, hi])
      have hlen := getD_row hrow hi
      have hj : k % sz' < (rows.getD (k / sz') []).length := by rw [hlen]; exact Nat.mod_lt _ hs0
      refine List.all_eq_true.1 hrw _ ?_
      have e : (rows.getD (k / sz') []).getD (k % sz') default = (rows.getD (k / sz') [])[k % sz']'hj := by
        rw [List.getD_eq_getElem?_getD, List.getElem?_eq_getElem hj]; rfl
      rw [e]
      exact List.getElem_mem hj
    · intro i j hi hj
      have hlt : i * sz' + j < rows.length * sz' := calc i * sz' + j < i * sz' + sz' := by omega
          _ = (i + 1) * sz' := by rw [Nat.add_mul]; simp
          _ ≤ rows.length * sz' := Nat.mul_le_mul_right _ hi
      have e : ((List.range (rows.length * sz')).map vals).getD (i * sz' + j) undef = vals (i * sz' + j) := by
        simp [List.getD_eq_getElem?_getD, List.getElem?_range hlt]
      rw [e]
      exact hr i j hi hj
    · intro h0
      obtain ⟨ad, rfl, hf⟩ := ha (Nat.mul_pos h0 hs0)
      refine ⟨ad, rfl, fun j u hu => ?_⟩
      have hj := (List.getElem?_eq_some_iff.1 hu).1
      simp at hj
      simp [List.getElem?_range hj] at hu
      subst hu
      exact hF _ _ (hf j hj)

theorem repD_of_flat {F : Mem} {ad : Addr} {cap sz : Nat} {rows : List (List D)} (vs : List Value) (hsz : ∀ r ∈ rows, r.length = sz) (hl : rows.length ≤ maxRows) (hc : rows.length ≤ cap) (hv : vs.length = rows.length * sz)
    (hF : ∀ k, k < rows.length * sz → F (ad.add k) = some (vs.getD k undef)) (hr : ∀ i j, i < rows.length → j < sz → RepD F (vs.getD (i * sz + j) undef) ((rows.getD i []).getD j default)) :
    RepD F (.slice (some ad) rows.length cap) (.sl rows) :=
  .sl (some ad) cap sz rows (fun k => vs.getD k undef) hsz hl hc (fun _ => ⟨ad, rfl, hF⟩) hr

theorem flat_append {F : Mem} {sz : Nat} {rows news : List (List D)} {xs ys : List Value} (hx : xs.length = rows.length * sz) (hxr : ∀ i j, i < rows.length → j < sz → RepD F (xs.getD (i * sz + j) undef) ((rows.getD i []).getD j default))
    (hyr : ∀ i j, i < news.length → j < sz → RepD F (ys.getD (i * sz + j) undef) ((news.getD i []).getD j default)) :
    ∀ i j, i < (rows ++ news).length → j < sz → RepD F ((xs ++ ys).getD (i * sz + j) undef) (((rows ++ news).getD i []).getD j default) := by
  intro i j hi hj
  simp only [List.length_append] at hi
  by_cases h : i < rows.length
  · have hlt : i * sz + j < xs.length := by
      rw [hx]
      calc i * sz + j < i * sz + sz := by omega
          _ = (i + 1) * sz := by rw [Nat.add_mul]; simp
          _ ≤ rows.length * sz := Nat.mul_le_mul_right _ h
    have e1 : (xs ++ ys).getD (i * sz + j) undef = xs.getD (i * sz + j) undef := by
      simp only [List.getD_eq_getElem?_getD]; rw [List.getElem?_append_left hlt]
    have e2 : (rows ++ news).getD i [] = rows.getD i [] := by
      simp only [List.getD_eq_getElem?_getD]; rw [List.getElem?_append_left h]
    rw [e1, e2]; exact hxr i j h hj
  · have hge : xs.length ≤ i * sz + j := by
      rw [hx]
      calc rows.length * sz ≤ i * sz := Nat.mul_le_mul_right _ (by omega)
        _ ≤ _ := by omega
    have e1 : (xs ++ ys).getD (i * sz + j) undef = ys.getD ((i - rows.length) * sz + j) undef := by
      simp only [List.getD_eq_getElem?_getD]; rw [List.getElem?_append_right hge, hx]
      congr 2
      rw [Nat.mul_sub_right_distrib]
      have : rows.length * sz ≤ i * sz := Nat.mul_le_mul_right _ (by omega)
      omega
    have e2 : (rows ++ news).getD i [] = news.getD (i - rows.length) [] := by
      simp only [List.getD_eq_getElem?_getD]; rw [List.getElem?_append_right (by omega)]
    rw [e1, e2]; exact hyr _ j (by omega) hj

theorem rows_append_sz {rows news : List (List D)} {sz : Nat} (h : ∀ r ∈ rows, r.length = sz) (k : ∀ r ∈ news, r.length = sz) : ∀ r ∈ rows ++ news, r.length = sz := by
  intro r hr
  rcases List.mem_append.1 hr with h1 | h1
  · exact h r h1
  · exact k r h1

theorem run_append_call {o : Oper} {ρ : Operand → Value} {s x : Operand} {t : TypeId} {w w' : World} {v : Value} (ho : o.op = .call { callee := .builtin .append, args := #[s, x], argTypes := #[t, t] })
    (h : (Builtin.append_ #[t, t] o.type #[ρ s, ρ x]).run P w = .ok v w') : (execOp ρ o).run P w = .ok (.value v) w' := by
  simp [execOp, ho, resolve, invoke, builtin, h]

theorem add_block (g : Nat) (k : Nat) : ((⟨g, 0, none⟩ : Addr).add k) = ⟨g, k, none⟩ := by rw [add_lit]; simp

theorem add_inj {p n sz k : Nat} (h : p + k < n * sz) : p + k < n * sz := h

/-- The growing slice. -/
theorem Yl.append {o : Oper} {g : Nat → V} {H : List O} {s x : Operand} {t e : TypeId} {tok sz bytes : Nat} {rows news : List (List D)} (ho : o.op = .call { callee := .builtin .append, args := #[s, x], argTypes := #[t, t] })
    (ht : P.underlying t = some (.slice e)) (he : ElIs P e sz bytes) (hs : evO g s = .gs tok rows) (hH : H[tok]? = some (.tok e sz rows.length)) (hx : rowsOf (evO g x) = some news)
    (hrs : ∀ r ∈ rows, r.length = sz) (hns : ∀ r ∈ news, r.length = sz) (hone : oneRows news = true) (hroom : (rows.length + news.length) * bytes ≤ 140737488355328) (hlen : rows.length + news.length ≤ 140737488355328) :
    Yl P o g H (.gs tok (rows ++ news)) (H.set tok (.tok e sz (rows.length + news.length))) := by
  intro F M w ρ hi hr
  obtain ⟨inf, z, hinf, hz, hsize, hbytes, hzs, hs0⟩ := he
  have h1 := hr s
  rw [hs] at h1
  have h2 := rowsOf_sound (hr x) hx
  generalize hvs : ρ s = vs at h1
  generalize hvx : ρ x = vx at h2
  have h2' := h2
  cases h2' with
  | sl ax capx szx _ valsx hrowx hlenx hcapx hax hrx =>
  obtain ⟨nl, hnl, hn1, hnr, hncell⟩ := h2.flat hi.cells hns hs0 hone
  cases h1 with
  | @gs _ _ n _ hdr hrd hM hle hv =>
  have hobj := hi.objs tok _ _ hH hM
  have hml : rows.length + news.length ≤ maxLen := by simp only [maxLen]; omega
  have hmr : rows.length + news.length ≤ maxRows := by simp only [maxRows]; omega
  generalize hN : rows.length = N at hobj
  cases hobj with
  | nil _ _ =>
    have hrows : rows = [] := List.eq_nil_of_length_eq_zero hN
    subst hrows
    have hv' := hv rfl
    subst hv'
    by_cases hm : news = []
    · subst hm
      refine ⟨.slice none 0 0, w, F, M, .inl (run_append_call ho ?_), .gs (by simpa using repD_nil F) hM (by simp) (fun _ => rfl), ?_, .refl _ _ _⟩
      · rw [hvs, hvx]
        simp [Builtin.append_, run_underlying ht, sizeOf, typeInfo, hinf, Builtin.lenOf]
        cases ax <;> simp [Builtin.firstCells, loadCells, loadCellsFrom]
      · rw [set_self H tok _ (by simpa using hH)]; exact hi
    · have hpos : 0 < news.length := List.length_pos_iff.2 hm
      obtain ⟨ad, rfl, hcell⟩ := hncell hpos
      simp only [List.nil_append, List.length_nil, Nat.zero_add] at *
      have hrun := run_append_nil (P := P) w t o.type e inf z ht hinf hz ad news.length capx nl (by rw [hnl, hsize]) hcell hpos (by simp only [maxLen] at hml; omega) (by rw [hbytes]; omega)
      generalize hcap : grownCap w news.length 0 e = cap at hrun
      have hge : news.length ≤ cap := by rw [← hcap]; exact grownCap_ge ..
      have hcm : cap ≤ maxLen := by rw [← hcap]; exact grownCap_le_maxLen _ _ _ _ hml
      generalize hc : (nl.toArray ++ Builtin.zeroCells z.cells (cap - news.length)) = c at hrun
      have hcs : c.size = cap * sz := by
        rw [← hc]; simp only [Array.size_append, List.size_toArray, size_zeroCells, hzs, hnl]
        rw [← Nat.add_mul]; congr 1; omega
      have hcg : ∀ k, k < nl.length → c.getD k undef = nl.getD k undef := fun k hk => by
        rw [← hc]; simp [Array.getD_eq_getD_getElem?, List.getD_eq_getElem?_getD, Array.getElem?_append, hk]
      have hdi : Inv F M w.drew H := ⟨hi.cells, hi.len, fun i o p a b => (hi.objs i o p a b).mono (.refl _) (.refl _) (fun _ _ => rfl) (fun _ _ _ _ h => h), hi.sep, hi.inb, hi.gnd⟩
      let F' := withBlock F w.heap.size (news.length * sz) (fun k => c.getD k undef)
      have hle' : F.le F' := withBlock_le (F_new hi)
      have hFat : ∀ k, k < news.length * sz → F' ⟨w.heap.size, k, none⟩ = some (c.getD k undef) := fun k hk => withBlock_at _ _ _ _ _ hk
      have hpl : Pl.le (.tok (.slice none 0 0) 0) (.tok (.slice (some ⟨w.heap.size, 0, none⟩) news.length cap) news.length) := .inr hpos
      have hrep : RepD F' (.slice (some ⟨w.heap.size, 0, none⟩) news.length cap) (.sl news) :=
        repD_of_flat nl hns (by omega) hge hnl (fun k hk => by rw [add_block, hFat k hk, hcg k (by omega)]) (fun i j a b => (hnr i j a b).mono hle')
      refine ⟨_, w.drew.alloc (.cells c e), F', M.set tok _, .inl (run_append_call ho (by rw [hvs, hvx]; exact hrun)), .gs hrep (List.getElem?_set_self (List.getElem?_eq_some_iff.1 hM).1) (Nat.le_refl _) (fun _ => rfl), ?_, ?_⟩
      · refine hi.turn hH hM rfl rfl hpl hle' (fun a v h => ?_) (by simp) (fun b hb _ => heap_alloc_old w.drew _ hb) (fun b hb _ o s h => ?_) (.tok e sz news.length w.heap.size cap c (heap_alloc_new w.drew _) hcs hge hcm hFat ?_) (fun b h => .inr ?_)
        · exact (freeze_new hdi c e (news.length * sz) (by rw [hcs]; exact Nat.mul_le_mul_right _ hge)).1.cells a v h
        · show withBlock F _ _ _ _ = none
          rw [withBlock_other _ _ _ _ _ (by simp; omega)]; exact h
        · intro o s ho'
          show withBlock F _ _ _ _ = none
          unfold withBlock
          rw [if_neg (by simp; omega)]
          exact F_new hi o s
        · simp [Pl.blk] at h; subst h; simp
      · refine Ext.turn hM rfl hpl hle' (by simp) rfl rfl rfl (fun b hb _ => heap_alloc_old w.drew _ hb) (fun a h h' => .inl ?_) (fun b h => .inr ?_)
        · by_cases hb : a.block = w.heap.size
          · omega
          · exact absurd (show F' a = none by show withBlock F _ _ _ _ = none; rw [withBlock_other _ _ _ _ _ hb]; exact h) h'
        · simp [Pl.blk] at h; omega
  | tok _ _ _ blk cap c hc hcs hnc hcm hpre hF0 =>
    subst hN
    have hv' := hv rfl
    subst hv'
    have hblt : blk < w.heap.size := hi.inb tok _ blk hM rfl
    obtain ⟨_, _, _, sz', hrow', vals, ha', hr'⟩ := hrd.sl_inv
    have hxs : ∀ i j, i < rows.length → j < sz → RepD F ((c.toList.take (rows.length * sz)).getD (i * sz + j) undef) ((rows.getD i []).getD j default) := by
      intro i j hi' hj
      rcases rows_sz hrow' hrs with h0 | rfl
      · subst h0; simp at hi'
      · have hlt : i * sz' + j < rows.length * sz' := calc i * sz' + j < i * sz' + sz' := by omega
            _ = (i + 1) * sz' := by rw [Nat.add_mul]; simp
            _ ≤ rows.length * sz' := Nat.mul_le_mul_right _ hi'
        obtain ⟨ad, e1, hf⟩ := ha' (by omega)
        cases e1
        have e2 := hf _ hlt
        rw [add_block, hpre _ hlt] at e2
        injection e2 with e2
        have e3 : (c.toList.take (rows.length * sz')).getD (i * sz' + j) undef = c.getD (i * sz' + j) undef := by
          simp [List.getD_eq_getElem?_getD, Array.getD_eq_getD_getElem?, List.getElem?_take, hlt]
        rw [e3, e2]
        exact hr' i j hi' hj
    have hxl : (c.toList.take (rows.length * sz)).length = rows.length * sz := by
      simp only [List.length_take, Array.length_toList]; rw [hcs]; exact Nat.min_eq_left (Nat.mul_le_mul_right _ hnc)
    have hall : ∀ i j, i < (rows ++ news).length → j < sz → RepD F ((c.toList.take (rows.length * sz) ++ nl).getD (i * sz + j) undef) (((rows ++ news).getD i []).getD j default) := flat_append hxl hxs hnr
    have hsum : (rows.length + news.length) * sz = rows.length * sz + nl.length := by rw [Nat.add_mul, hnl]
    by_cases hm : news = []
    · subst hm
      simp only [List.append_nil, List.length_nil, Nat.add_zero] at *
      have hnl0 : nl = [] := List.eq_nil_of_length_eq_zero (by simpa using hnl)
      subst hnl0
      refine ⟨.slice (some ⟨blk, 0, none⟩) rows.length cap, w, F, M, .inl (run_append_call ho ?_), .gs hrd hM (Nat.le_refl _) (fun _ => rfl), ?_, .refl _ _ _⟩
      · rw [hvs, hvx]
        have hst : (storeCells ⟨blk, rows.length * sz, none⟩ [] 0).run P w = .ok () w := rfl
        simp [Builtin.append_, run_underlying ht, sizeOf, typeInfo, hinf, Builtin.lenOf, hnc, hsize, add_block]
        cases ax <;> simp [Builtin.firstCells, loadCells, loadCellsFrom, storeCells]
      · rw [set_self H tok _ hH]; exact hi
    · have hpos : 0 < news.length := List.length_pos_iff.2 hm
      obtain ⟨ad, rfl, hcell⟩ := hncell hpos
      by_cases hfit : rows.length + news.length ≤ cap
      · have hfit' : rows.length * inf.size + nl.length ≤ c.size := by rw [hsize, ← hsum, hcs]; exact Nat.mul_le_mul_right _ hfit
        have hrun := run_append_room (P := P) w t o.type e inf ht hinf blk rows.length cap c hc ad news.length capx nl (by rw [hnl, hsize]) hcell hn1 hfit hfit'
        rw [hsize] at hrun hfit'
        generalize hnew : (c.toList.take (rows.length * sz) ++ nl ++ c.toList.drop (rows.length * sz + nl.length)).toArray = new at hrun
        have hnewl : new.size = c.size := by rw [← hnew]; simp; omega
        have hg : ∀ k, new.getD k undef = if rows.length * sz ≤ k ∧ k < rows.length * sz + nl.length then nl.getD (k - rows.length * sz) undef else c.getD k undef := by
          intro k
          have := getD_sets c.toList nl (rows.length * sz) k undef (by simpa using hfit')
          rw [← hnew]
          simp only [Array.getD_eq_getD_getElem?, List.getElem?_toArray] at *
          simpa [List.getD_eq_getElem?_getD, Array.getD_eq_getD_getElem?] using this
        have hgl : ∀ k, k < (rows.length + news.length) * sz → new.getD k undef = (c.toList.take (rows.length * sz) ++ nl).getD k undef := by
          intro k hk
          rw [hg]
          split
          · simp only [List.getD_eq_getElem?_getD]; rw [List.getElem?_append_right (by omega), hxl]
          · have hk' : k < rows.length * sz := by omega
            simp only [List.getD_eq_getElem?_getD, Array.getD_eq_getD_getElem?]; rw [List.getElem?_append_left (by omega), List.getElem?_take, if_pos hk']; simp
        let F' : Mem := fun a => if a.block = blk ∧ a.spot = none ∧ rows.length * sz ≤ a.off ∧ a.off < (rows.length + news.length) * sz then some (new.getD a.off undef) else F a
        have hle' : F.le F' := by
          intro a v h
          show (if _ then _ else _) = _
          rw [if_neg]
          · exact h
          · rintro ⟨rfl, _, h1, _⟩
            rw [show a = ⟨a.block, a.off, a.spot⟩ from rfl, hF0 a.off a.spot h1] at h
            cases h
        have hFat : ∀ k, k < (rows.length + news.length) * sz → F' ⟨blk, k, none⟩ = some (new.getD k undef) := by
          intro k hk
          show (if _ then _ else _) = _
          by_cases hk' : rows.length * sz ≤ k
          · rw [if_pos ⟨rfl, rfl, hk', hk⟩]
          · rw [if_neg (fun h => hk' h.2.2.1), hpre k (by omega), hg, if_neg (by omega)]
        have hpl : Pl.le (.tok (.slice (some ⟨blk, 0, none⟩) rows.length cap) rows.length) (.tok (.slice (some ⟨blk, 0, none⟩) (rows.length + news.length) cap) (rows.length + news.length)) := .inr (by omega)
        have hrep : RepD F' (.slice (some ⟨blk, 0, none⟩) (rows.length + news.length) cap) (.sl (rows ++ news)) := by
          have := repD_of_flat (F := F') (ad := ⟨blk, 0, none⟩) (cap := cap) (sz := sz) (rows := rows ++ news) (c.toList.take (rows.length * sz) ++ nl) (rows_append_sz hrs hns) (by simp; omega) (by simp; omega) (by simp only [List.length_append]; rw [hxl, hsum])
            (fun k hk => by rw [List.length_append] at hk; rw [add_block, hFat k hk, hgl k hk]) (fun i j a b => (hall i j a b).mono hle')
          simpa using this
        have hcell' : ∀ a v, F' a = some v → (w.setRow blk new).cell? a = some v := by
          intro a v h
          have h' : (if a.block = blk ∧ a.spot = none ∧ rows.length * sz ≤ a.off ∧ a.off < (rows.length + news.length) * sz then some (new.getD a.off undef) else F a) = some v := h
          split at h'
          · rename_i hc'
            obtain ⟨e1, e2, e3, e4⟩ := hc'
            cases h'
            have ea : a = ⟨blk, a.off, none⟩ := by cases a; simp_all
            have hlt : a.off < new.size := by rw [hnewl, hcs]; exact Nat.lt_of_lt_of_le e4 (Nat.mul_le_mul_right _ hfit)
            rw [ea, World.cell?, setRow_heap w blk c new e (0, 0) hc]
            simp [Array.getD_eq_getD_getElem?, hlt]
          · by_cases hb : a.block = blk
            · have h0 := hi.cells a v h'
              have hsp : a.spot = none := by
                cases hsp : a.spot with
                | none => rfl
                | some s => rw [World.cell?, hb, hc] at h0; simp [hsp] at h0
              have hoff : a.off < rows.length * sz := by
                rcases Nat.lt_or_ge a.off (rows.length * sz) with h1 | h1
                · exact h1
                · rw [show a = ⟨a.block, a.off, a.spot⟩ from rfl, hb, hF0 a.off a.spot h1] at h'; cases h'
              have ea : a = ⟨blk, a.off, none⟩ := by cases a; simp_all
              rw [ea, hpre _ hoff] at h'
              have hlt : a.off < new.size := by rw [hnewl, hcs]; exact Nat.lt_of_lt_of_le hoff (Nat.mul_le_mul_right _ hnc)
              rw [ea, World.cell?, setRow_heap w blk c new e (0, 0) hc]
              have hgo := hg a.off
              rw [if_neg (by omega)] at hgo
              rw [← hgo] at h'
              simpa [Array.getD_eq_getD_getElem?, hlt] using h'
            · rw [setRow_cell_other w blk new a hb]; exact hi.cells a v h'
        refine ⟨_, w.setRow blk new, F', M.set tok (.tok (.slice (some ⟨blk, 0, none⟩) (rows.length + news.length) cap) (rows.length + news.length)), .inl (run_append_call ho (by rw [hvs, hvx]; exact hrun)), .gs hrep (List.getElem?_set_self (List.getElem?_eq_some_iff.1 hM).1) (by simp) (fun _ => rfl), ?_, ?_⟩
        · refine hi.turn hH hM rfl rfl hpl hle' hcell' (by rw [size_setRow]; exact Nat.le_refl _) (fun b hb hne => setRow_other w blk b new (fun e => hne (by simp [Pl.blk, e]))) (fun b hb hne o s h => ?_)
            (.tok e sz _ blk cap new (setRow_heap w blk c new e (0, 0) hc) (by rw [hnewl, hcs]) hfit hcm hFat ?_) (fun b h => .inl (by simpa [Pl.blk] using h))
          · show (if _ then _ else _) = _
            rw [if_neg (fun hh => hne (by have hb' := hh.1; simp at hb'; simp [Pl.blk, hb']))]; exact h
          · intro o s ho'
            show (if _ then _ else _) = _
            rw [if_neg (fun hh => by have := hh.2.2.2; simp at this; omega)]
            exact hF0 o s (by omega)
        · refine Ext.turn hM rfl hpl hle' (by rw [size_setRow]; exact Nat.le_refl _) rfl rfl rfl (fun b hb hne => setRow_other w blk b new (fun e => hne (by simp [Pl.blk, e]))) (fun a h h' => .inr ?_) (fun b h => .inl (by simpa [Pl.blk] using h))
          by_cases hb : a.block = blk
          · simp [Pl.blk, hb]
          · exact absurd (show F' a = none by show (if _ then _ else _) = _; rw [if_neg (fun hh => hb hh.1)]; exact h) h'
      · have hcl : ∀ j u, (c.toList.take (rows.length * sz))[j]? = some u → w.cell? ((⟨blk, 0, none⟩ : Addr).add j) = some u := by
          intro j u hu
          have hj := (List.getElem?_eq_some_iff.1 hu).1
          rw [hxl] at hj
          rw [add_block, World.cell?, hc]
          rw [List.getElem?_take, if_pos hj] at hu
          simpa using hu
        have hrun := run_append_grow (P := P) w t o.type e inf z ht hinf hz ⟨blk, 0, none⟩ rows.length cap (c.toList.take (rows.length * sz)) (by rw [hxl, hsize]) hcl ad news.length capx nl (by rw [hnl, hsize]) hcell (by omega)
          (by simp only [maxLen] at hml; omega) (by rw [hbytes]; exact growslice_fits (by omega) hroom)
        generalize hcap : grownCap w (rows.length + news.length) cap e = cap' at hrun
        have hge : rows.length + news.length ≤ cap' := by rw [← hcap]; exact grownCap_ge ..
        have hcm' : cap' ≤ maxLen := by rw [← hcap]; exact grownCap_le_maxLen _ _ _ _ hml
        generalize hc' : ((c.toList.take (rows.length * sz)).toArray ++ nl.toArray ++ Builtin.zeroCells z.cells (cap' - (rows.length + news.length))) = c' at hrun
        have hcs' : c'.size = cap' * sz := by
          rw [← hc']; simp only [Array.size_append, List.size_toArray, size_zeroCells, hzs]
          rw [hxl, ← hsum, ← Nat.add_mul]; congr 1; omega
        have hcg : ∀ k, k < (rows.length + news.length) * sz → c'.getD k undef = (c.toList.take (rows.length * sz) ++ nl).getD k undef := fun k hk => by
          have hk' : k < (c.toList.take (rows.length * sz) ++ nl).length := by rw [List.length_append, hxl, ← hsum]; exact hk
          rw [← hc', show ((c.toList.take (rows.length * sz)).toArray ++ nl.toArray) = (c.toList.take (rows.length * sz) ++ nl).toArray by simp]
          simp only [Array.getD_eq_getD_getElem?, List.getD_eq_getElem?_getD, Array.getElem?_append]
          rw [if_pos (by simpa using hk')]
          simp
        have hdi : Inv F M w.drew H := ⟨hi.cells, hi.len, fun i o p a b => (hi.objs i o p a b).mono (.refl _) (.refl _) (fun _ _ => rfl) (fun _ _ _ _ h => h), hi.sep, hi.inb, hi.gnd⟩
        let F' := withBlock F w.heap.size ((rows.length + news.length) * sz) (fun k => c'.getD k undef)
        have hle' : F.le F' := withBlock_le (F_new hi)
        have hFat : ∀ k, k < (rows.length + news.length) * sz → F' ⟨w.heap.size, k, none⟩ = some (c'.getD k undef) := fun k hk => withBlock_at _ _ _ _ _ hk
        have hpl : Pl.le (.tok (.slice (some ⟨blk, 0, none⟩) rows.length cap) rows.length) (.tok (.slice (some ⟨w.heap.size, 0, none⟩) (rows.length + news.length) cap') (rows.length + news.length)) := .inr (by omega)
        have hrep : RepD F' (.slice (some ⟨w.heap.size, 0, none⟩) (rows.length + news.length) cap') (.sl (rows ++ news)) := by
          have := repD_of_flat (F := F') (ad := ⟨w.heap.size, 0, none⟩) (cap := cap') (sz := sz) (rows := rows ++ news) (c.toList.take (rows.length * sz) ++ nl) (rows_append_sz hrs hns) (by simp; omega) (by simp; omega) (by simp only [List.length_append]; rw [hxl, hsum])
            (fun k hk => by rw [List.length_append] at hk; rw [add_block, hFat k hk, hcg k hk]) (fun i j a b => (hall i j a b).mono hle')
          simpa using this
        refine ⟨_, w.drew.alloc (.cells c' e), F', M.set tok (.tok (.slice (some ⟨w.heap.size, 0, none⟩) (rows.length + news.length) cap') (rows.length + news.length)), .inl (run_append_call ho (by rw [hvs, hvx]; exact hrun)), .gs hrep (List.getElem?_set_self (List.getElem?_eq_some_iff.1 hM).1) (by simp) (fun _ => rfl), ?_, ?_⟩
        · refine hi.turn hH hM rfl rfl hpl hle' (fun a v h => ?_) (by simp) (fun b hb _ => heap_alloc_old w.drew _ hb) (fun b hb _ o s h => ?_) (.tok e sz _ w.heap.size cap' c' (heap_alloc_new w.drew _) hcs' hge hcm' hFat ?_) (fun b h => .inr ?_)
          · exact (freeze_new hdi c' e ((rows.length + news.length) * sz) (by rw [hcs']; exact Nat.mul_le_mul_right _ hge)).1.cells a v h
          · show withBlock F _ _ _ _ = none
            rw [withBlock_other _ _ _ _ _ (by simp; omega)]; exact h
          · intro o s ho'
            show withBlock F _ _ _ _ = none
            unfold withBlock
            rw [if_neg (by simp; omega)]
            exact F_new hi o s
          · simp [Pl.blk] at h; subst h; simp
        · refine Ext.turn hM rfl hpl hle' (by simp) rfl rfl rfl (fun b hb _ => heap_alloc_old w.drew _ hb) (fun a h h' => .inl ?_) (fun b h => .inr ?_)
          · by_cases hb : a.block = w.heap.size
            · omega
            · exact absurd (show F' a = none by show withBlock F _ _ _ _ = none; rw [withBlock_other _ _ _ _ _ hb]; exact h) h'
          · simp [Pl.blk] at h; omega
end
end Go.Ab
