import Derived.Test.YtjggngbfmjneiaaGreatFA
set_option linter.unusedVariables false
set_option linter.unusedSimpArgs false
namespace Go.Ab
section
variable {P : Program}

/-! ### Slices that grow -/
/-- A type that is appended: cells, bytes. -/
def ElIs (P : Program) (e : TypeId) (sz bytes : Nat) : Prop := ∃ i z, P.info? e = some i ∧ i.zero = some z ∧ i.size = sz ∧ i.bytes = bytes ∧ z.cells.size = sz ∧ 0 < sz

def oneRows (rows : List (List D)) : Bool := rows.all fun r => r.all D.oneC

theorem RepD.sl_inv {F : Mem} {a : Option Addr} {n cap : Nat} {rows : List (List D)} (h : RepD F (.slice a n cap) (.sl rows)) :
    n = rows.length ∧ rows.length ≤ maxRows ∧ rows.length ≤ cap ∧ ∃ sz, (∀ r ∈ rows, r.length = sz) ∧ ∃ vals : Nat → Value,
      (0 < rows.length * sz → ∃ ad, a = some ad ∧ ∀ k, k < rows.length * sz → F (ad.add k) = some (vals k)) ∧
      (∀ i j, i < rows.length → j < sz → RepD F (vals (i * sz + j)) ((rows.getD i []).getD j default)) := by
  generalize hv : Value.slice a n cap = v at h
  cases h with
  | sl a' cap' sz _ vals hrow hlen hcap ha hr =>
    injection hv with e1 e2 e3
    subst e1; subst e2; subst e3
    exact ⟨rfl, hlen, hcap, sz, hrow, vals, ha, hr⟩

theorem rows_sz {rows : List (List D)} {sz n : Nat} (h : ∀ r ∈ rows, r.length = sz) (k : ∀ r ∈ rows, r.length = n) : rows = [] ∨ sz = n := by
  cases rows with
  | nil => exact .inl rfl
  | cons r l => exact .inr ((h r (by simp)).symm.trans (k r (by simp)))

theorem div_lt {k sz n : Nat} (h : k < n * sz) (hs : 0 < sz) : k / sz < n := Nat.div_lt_of_lt_mul (by rw [Nat.mul_comm]; exact h)

/-- The cells of a slice that is read, as a list. -/
theorem RepD.flat {F : Mem} {w : World} {a : Option Addr} {n cap sz : Nat} {rows : List (List D)} (h : RepD F (.slice a n cap) (.sl rows)) (hF : ∀ a v, F a = some v → w.cell? a = some v) (hsz : ∀ r ∈ rows, r.length = sz) (hs0 : 0 < sz)
    (h1 : oneRows rows = true) : ∃ news : List Value, news.length = n * sz ∧ (∀ u ∈ news, u.oneCell' = true) ∧ (∀ i j, i < rows.length → j < sz → RepD F (news.getD (i * sz + j) undef) ((rows.getD i []).getD j default)) ∧
      (0 < n → ∃ ad, a = some ad ∧ ∀ j u, news[j]? = some u → w.cell? (ad.add j) = some u) := by
  obtain ⟨rfl, hl, hc, sz', hrow, vals, ha, hr⟩ := h.sl_inv
  rcases rows_sz hrow hsz with h0 | rfl
  · subst h0
    exact ⟨[], by simp, by simp, by simp, by simp⟩
  · refine ⟨(List.range (rows.length * sz')).map vals, by simp, ?_, ?_, ?_⟩
    · intro u hu
      simp at hu
      obtain ⟨k, hk, rfl⟩ := hu
      have hi : k / sz' < rows.length := div_lt hk hs0
      have := hr (k / sz') (k % sz') hi (Nat.mod_lt _ hs0)
      rw [show k / sz' * sz' + k % sz' = k by rw [Nat.mul_comm]; exact Nat.div_add_mod k sz'] at this
      refine this.oneC ?_
      have hrw := List.all_eq_true.1 h1 (rows.getD (k / sz') []) (by simp [List.getD_eq_getElem?_getD, hi])
      have hlen := getD_row hrow hi
      have hj : k % sz' < (rows.getD (k / sz') []).length := by rw [hlen]; exact Nat.mod_lt _ hs0
      refine List.all_eq_true.1 hrw _ ?_
      have e : (rows.getD (k / sz') []).getD (k % sz') default = (rows.getD (k / sz') [])[k % sz']'hj := by
        rw [List.getD_eq_getElem?_getD, List.getElem?_eq_getElem hj]; rfl
      rw [e]
      exact List.getElem_mem hj
    · intro i j hi hj
      have hlt : i * sz' + j < rows.length * sz' := calc i * sz' + j < i * sz' + sz' := by omega
          _ = (i + 1) * sz' := by rw [Nat.add_mul]; simp
          _ ≤ rows.length * sz' := Nat.mul_le_mul_right _ hi
      have e : ((List.range (rows.length * sz')).map vals).getD (i * sz' + j) undef = vals (i * sz' + j) := by
        simp [List.getD_eq_getElem?_getD, List.getElem?_range hlt]
      rw [e]
      exact hr i j hi hj
    · intro h0
      obtain ⟨ad, rfl, hf⟩ := ha (Nat.mul_pos h0 hs0)
      refine ⟨ad, rfl, fun j u hu => ?_⟩
      have hj := (List.getElem?_eq_some_iff.1 hu).1
      simp at hj
      simp [List.getElem?_range hj] at hu
      subst hu
      exact hF _ _ (hf j hj)

theorem repD_of_flat {F : Mem} {ad : Addr} {cap sz : Nat} {rows : List (List D)} (vs : List Value) (hsz : ∀ r ∈ rows, r.length = sz) (hl : rows.length ≤ maxRows) (hc : rows.length ≤ cap) (hv : vs.length = rows.length * sz)
    (hF : ∀ k, k < rows.length * sz → F (ad.add k) = some (vs.getD k undef)) (hr : ∀ i j, i < rows.length → j < sz → RepD F (vs.getD (i * sz + j) undef) ((rows.getD i []).getD j default)) :
    RepD F (.slice (some ad) rows.length cap) (.sl rows) :=
  .sl (some ad) cap sz rows (fun k => vs.getD k undef) hsz hl hc (fun _ => ⟨ad, rfl, hF⟩) hr

theorem flat_append {F : Mem} {sz : Nat} {rows news : List (List D)} {xs ys : List Value} (hx : xs.length = rows.length * sz) (hxr : ∀ i j, i < rows.length → j < sz → RepD F (xs.getD (i * sz + j) undef) ((rows.getD i []).getD j default))
    (hyr : ∀ i j, i < news.length → j < sz → RepD F (ys.getD (i * sz + j) undef) ((news.getD i []).getD j default)) :
    ∀ i j, i < (rows ++ news).length → j < sz → RepD F ((xs ++ ys).getD (i * sz + j) undef) (((rows ++ news).getD i []).getD j default) := by
  intro i j hi hj
  simp only [List.length_append] at hi
  by_cases h : i < rows.length
  · have hlt : i * sz + j < xs.length := by
      rw [hx]
      calc i * sz + j < i * sz + sz := by omega
          _ = (i + 1) * sz := by rw [Nat.add_mul]; simp
          _ ≤ rows.length * sz := Nat.mul_le_mul_right _ h
    have e1 : (xs ++ ys).getD (i * sz + j) undef = xs.getD (i * sz + j) undef := by
      simp only [List.getD_eq_getElem?_getD]; rw [List.getElem?_append_left hlt]
    have e2 : (rows ++ news).getD i [] = rows.getD i [] := by
      simp only [List.getD_eq_getElem?_getD]; rw [List.getElem?_append_left h]
    rw [e1, e2]; exact hxr i j h hj
  · have hge : xs.length ≤ i * sz + j := by
      rw [hx]
      calc rows.length * sz ≤ i * sz := Nat.mul_le_mul_right _ (by omega)
        _ ≤ _ := by omega
    have e1 : (xs ++ ys).getD (i * sz + j) undef = ys.getD ((i - rows.length) * sz + j) undef := by
      simp only [List.getD_eq_getElem?_getD]; rw [List.getElem?_append_right hge, hx]
      congr 2
      rw [Nat.mul_sub_right_distrib]
      have : rows.length * sz ≤ i * sz := Nat.mul_le_mul_right _ (by omega)
      omega
    have e2 : (rows ++ news).getD i [] = news.getD (i - rows.length) [] := by
      simp only [List.getD_eq_getElem?_getD]; rw [List.getElem?_append_right (by omega)]
    rw [e1, e2]; exact hyr _ j (by omega) hj

theorem rows_append_sz {rows news : List (List D)} {sz : Nat} (h : ∀ r ∈ rows, r.length = sz) (k : ∀ r ∈ news, r.length = sz) : ∀ r ∈ rows ++ news, r.length = sz := by
  intro r hr
  rcases List.mem_append.1 hr with h1 | h1
  · exact h r h1
  · exact k r h1

theorem run_append_call {o : Oper} {ρ : Operand → Value} {s x : Operand} {t : TypeId} {w w' : World} {v : Value} (ho : o.op = .call { callee := .builtin .append, args := #[s, x], argTypes := #[t, t] })
    (h : (Builtin.append_ #[t, t] o.type #[ρ s, ρ x]).run P w = .ok v w') : (execOp ρ o).run P w = .ok (.value v) w' := by
  simp [execOp, ho, resolve, invoke, builtin, h]

theorem add_block (g : Nat) (k : Nat) : ((⟨g, 0, none⟩ : Addr).add k) = ⟨g, k, none⟩ := by rw [add_lit]; simp

theorem add_inj {p n sz k : Nat} (h : p + k < n * sz) : p + k < n * sz := h

/-- The growing slice, at its place. -/
theorem append_run {o : Oper} {H : List O} {s x : Operand} {xv : V} {t e : TypeId} {tok sz bytes : Nat} {rows news : List (List D)} (ho : o.op = .call { callee := .builtin .append, args := #[s, x], argTypes := #[t, t] })
    (ht : P.underlying t = some (.slice e)) (he : ElIs P e sz bytes) (hH : H[tok]? = some (.tok e sz rows.length)) (hx : rowsOf xv = some news)
    (hrs : ∀ r ∈ rows, r.length = sz) (hns : ∀ r ∈ news, r.length = sz) (hone : oneRows news = true) (hroom : (rows.length + news.length) * bytes ≤ 140737488355328) (hlen : rows.length + news.length ≤ 140737488355328)
    {F : Mem} {M : Pls} {w : World} (ρ : Operand → Value) (hi : Inv F M w H) (h1 : Rep F M (ρ s) (.gs tok rows)) (hxr : Rep F M (ρ x) xv) :
    ∃ v w' F' p', (execOp ρ o).run P w = .ok (.value v) w' ∧ Rep F' (M.set tok p') v (.gs tok (rows ++ news)) ∧ Inv F' (M.set tok p') w' (H.set tok (.tok e sz (rows.length + news.length))) ∧ Ext F M w F' (M.set tok p') w' := by
  obtain ⟨inf, z, hinf, hz, hsize, hbytes, hzs, hs0⟩ := he
  have h2 := rowsOf_sound hxr hx
  generalize hvs : ρ s = vs at h1
  generalize hvx : ρ x = vx at h2
  have h2' := h2
  cases h2' with
  | sl ax capx szx _ valsx hrowx hlenx hcapx hax hrx =>
  obtain ⟨nl, hnl, hn1, hnr, hncell⟩ := h2.flat hi.cells hns hs0 hone
  cases h1 with
  | @gs _ _ n _ hdr hrd hM hle hv =>
  have hobj := hi.objs tok _ _ hH hM
  have hml : rows.length + news.length ≤ maxLen := by simp only [maxLen]; omega
  have hmr : rows.length + news.length ≤ maxRows := by simp only [maxRows]; omega
  generalize hN : rows.length = N at hobj
  cases hobj with
  | nil _ _ =>
    have hrows : rows = [] := List.eq_nil_of_length_eq_zero hN
    subst hrows
    have hv' := hv rfl
    subst hv'
    by_cases hm : news = []
    · subst hm
      refine ⟨.slice none 0 0, w, F, _, run_append_call ho ?_, by rw [set_self M tok _ hM]; exact .gs (by simpa using repD_nil F) hM (by simp) (fun _ => rfl), ?_, by rw [set_self M tok _ hM]; exact .refl _ _ _⟩
      · rw [hvs, hvx]
        simp [Builtin.append_, run_underlying ht, sizeOf, typeInfo, hinf, Builtin.lenOf]
        cases ax <;> simp [Builtin.firstCells, loadCells, loadCellsFrom]
      · rw [set_self H tok _ (by simpa using hH), set_self M tok _ hM]; exact hi
    · have hpos : 0 < news.length := List.length_pos_iff.2 hm
      obtain ⟨ad, rfl, hcell⟩ := hncell hpos
      simp only [List.nil_append, List.length_nil, Nat.zero_add] at *
      have hrun := run_append_nil (P := P) w t o.type e inf z ht hinf hz ad news.length capx nl (by rw [hnl, hsize]) hcell hpos (by simp only [maxLen] at hml; omega) (by rw [hbytes]; omega)
      generalize hcap : grownCap w news.length 0 e = cap at hrun
      have hge : news.length ≤ cap := by rw [← hcap]; exact grownCap_ge ..
      have hcm : cap ≤ maxLen := by rw [← hcap]; exact grownCap_le_maxLen _ _ _ _ hml
      generalize hc : (nl.toArray ++ Builtin.zeroCells z.cells (cap - news.length)) = c at hrun
      have hcs : c.size = cap * sz := by
        rw [← hc]; simp only [Array.size_append, List.size_toArray, size_zeroCells, hzs, hnl]
        rw [← Nat.add_mul]; congr 1; omega
      have hcg : ∀ k, k < nl.length → c.getD k undef = nl.getD k undef := fun k hk => by
        rw [← hc]; simp [Array.getD_eq_getD_getElem?, List.getD_eq_getElem?_getD, Array.getElem?_append, hk]
      have hdi : Inv F M w.drew H := ⟨hi.cells, hi.len, fun i o p a b => (hi.objs i o p a b).mono (.refl _) (.refl _) (fun _ _ => rfl) (fun _ _ _ _ h => h), hi.sep, hi.inb, hi.gnd⟩
      let F' := withBlock F w.heap.size (news.length * sz) (fun k => c.getD k undef)
      have hle' : F.le F' := withBlock_le (F_new hi)
      have hFat : ∀ k, k < news.length * sz → F' ⟨w.heap.size, k, none⟩ = some (c.getD k undef) := fun k hk => withBlock_at _ _ _ _ _ hk
      have hpl : Pl.le (.tok (.slice none 0 0) 0) (.tok (.slice (some ⟨w.heap.size, 0, none⟩) news.length cap) news.length) := .inr hpos
      have hrep : RepD F' (.slice (some ⟨w.heap.size, 0, none⟩) news.length cap) (.sl news) :=
        repD_of_flat nl hns (by omega) hge hnl (fun k hk => by rw [add_block, hFat k hk, hcg k (by omega)]) (fun i j a b => (hnr i j a b).mono hle')
      refine ⟨_, w.drew.alloc (.cells c e), F', _, run_append_call ho (by rw [hvs, hvx]; exact hrun), .gs hrep (List.getElem?_set_self (List.getElem?_eq_some_iff.1 hM).1) (Nat.le_refl _) (fun _ => rfl), ?_, ?_⟩
      · refine hi.turn hH hM rfl rfl hpl hle' (fun a v h => ?_) (by simp) (fun b hb _ => heap_alloc_old w.drew _ hb) (fun b hb _ o s h => ?_) (.tok e sz news.length w.heap.size cap c (heap_alloc_new w.drew _) hcs hge hcm hFat ?_) (fun b h => .inr ?_)
        · exact (freeze_new hdi c e (news.length * sz) (by rw [hcs]; exact Nat.mul_le_mul_right _ hge)).1.cells a v h
        · show withBlock F _ _ _ _ = none
          rw [withBlock_other _ _ _ _ _ (by simp; omega)]; exact h
        · intro o s ho'
          show withBlock F _ _ _ _ = none
          unfold withBlock
          rw [if_neg (by simp; omega)]
          exact F_new hi o s
        · simp [Pl.blk] at h; subst h; simp
      · refine Ext.turn hM rfl hpl hle' (by simp) rfl rfl rfl (fun b hb _ => heap_alloc_old w.drew _ hb) (fun a h h' => .inl ?_) (fun b h => .inr ?_)
        · by_cases hb : a.block = w.heap.size
          · omega
          · exact absurd (show F' a = none by show withBlock F _ _ _ _ = none; rw [withBlock_other _ _ _ _ _ hb]; exact h) h'
        · simp [Pl.blk] at h; omega
  | tok _ _ _ blk cap c hc hcs hnc hcm hpre hF0 =>
    subst hN
    have hv' := hv rfl
    subst hv'
    have hblt : blk < w.heap.size := hi.inb tok _ blk hM rfl
    obtain ⟨_, _, _, sz', hrow', vals, ha', hr'⟩ := hrd.sl_inv
    have hxs : ∀ i j, i < rows.length → j < sz → RepD F ((c.toList.take (rows.length * sz)).getD (i * sz + j) undef) ((rows.getD i []).getD j default) := by
      intro i j hi' hj
      rcases rows_sz hrow' hrs with h0 | rfl
      · subst h0; simp at hi'
      · have hlt : i * sz' + j < rows.length * sz' := calc i * sz' + j < i * sz' + sz' := by omega
            _ = (i + 1) * sz' := by rw [Nat.add_mul]; simp
            _ ≤ rows.length * sz' := Nat.mul_le_mul_right _ hi'
        obtain ⟨ad, e1, hf⟩ := ha' (by omega)
        cases e1
        have e2 := hf _ hlt
        rw [add_block, hpre _ hlt] at e2
        injection e2 with e2
        have e3 : (c.toList.take (rows.length * sz')).getD (i * sz' + j) undef = c.getD (i * sz' + j) undef := by
          simp [List.getD_eq_getElem?_getD, Array.getD_eq_getD_getElem?, List.getElem?_take, hlt]
        rw [e3, e2]
        exact hr' i j hi' hj
    have hxl : (c.toList.take (rows.length * sz)).length = rows.length * sz := by
      simp only [List.length_take, Array.length_toList]; rw [hcs]; exact Nat.min_eq_left (Nat.mul_le_mul_right _ hnc)
    have hall : ∀ i j, i < (rows ++ news).length → j < sz → RepD F ((c.toList.take (rows.length * sz) ++ nl).getD (i * sz + j) undef) (((rows ++ news).getD i []).getD j default) := flat_append hxl hxs hnr
    have hsum : (rows.length + news.length) * sz = rows.length * sz + nl.length := by rw [Nat.add_mul, hnl]
    by_cases hm : news = []
    · subst hm
      simp only [List.append_nil, List.length_nil, Nat.add_zero] at *
      have hnl0 : nl = [] := List.eq_nil_of_length_eq_zero (by simpa using hnl)
      subst hnl0
      refine ⟨.slice (some ⟨blk, 0, none⟩) rows.length cap, w, F, _, run_append_call ho ?_, by rw [set_self M tok _ hM]; exact .gs hrd hM (Nat.le_refl _) (fun _ => rfl), ?_, by rw [set_self M tok _ hM]; exact .refl _ _ _⟩
      · rw [hvs, hvx]
        have hst : (storeCells ⟨blk, rows.length * sz, none⟩ [] 0).run P w = .ok () w := rfl
        simp [Builtin.append_, run_underlying ht, sizeOf, typeInfo, hinf, Builtin.lenOf, hnc, hsize, add_block]
        cases ax <;> simp [Builtin.firstCells, loadCells, loadCellsFrom, storeCells]
      · rw [set_self H tok _ hH, set_self M tok _ hM]; exact hi
    · have hpos : 0 < news.length := List.length_pos_iff.2 hm
      obtain ⟨ad, rfl, hcell⟩ := hncell hpos
      by_cases hfit : rows.length + news.length ≤ cap
      · have hfit' : rows.length * inf.size + nl.length ≤ c.size := by rw [hsize, ← hsum, hcs]; exact Nat.mul_le_mul_right _ hfit
        have hrun := run_append_room (P := P) w t o.type e inf ht hinf blk rows.length cap c hc ad news.length capx nl (by rw [hnl, hsize]) hcell hn1 hfit hfit'
        rw [hsize] at hrun hfit'
        generalize hnew : (c.toList.take (rows.length * sz) ++ nl ++ c.toList.drop (rows.length * sz + nl.length)).toArray = new at hrun
        have hnewl : new.size = c.size := by rw [← hnew]; simp; omega
        have hg : ∀ k, new.getD k undef = if rows.length * sz ≤ k ∧ k < rows.length * sz + nl.length then nl.getD (k - rows.length * sz) undef else c.getD k undef := by
          intro k
          have := getD_sets c.toList nl (rows.length * sz) k undef (by simpa using hfit')
          rw [← hnew]
          simp only [Array.getD_eq_getD_getElem?, List.getElem?_toArray] at *
          simpa [List.getD_eq_getElem?_getD, Array.getD_eq_getD_getElem?] using this
        have hgl : ∀ k, k < (rows.length + news.length) * sz → new.getD k undef = (c.toList.take (rows.length * sz) ++ nl).getD k undef := by
          intro k hk
          rw [hg]
          split
          · simp only [List.getD_eq_getElem?_getD]; rw [List.getElem?_append_right (by omega), hxl]
          · have hk' : k < rows.length * sz := by omega
            simp only [List.getD_eq_getElem?_getD, Array.getD_eq_getD_getElem?]; rw [List.getElem?_append_left (by omega), List.getElem?_take, if_pos hk']; simp
        let F' : Mem := fun a => if a.block = blk ∧ a.spot = none ∧ rows.length * sz ≤ a.off ∧ a.off < (rows.length + news.length) * sz then some (new.getD a.off undef) else F a
        have hle' : F.le F' := by
          intro a v h
          show (if _ then _ else _) = _
          rw [if_neg]
          · exact h
          · rintro ⟨rfl, _, h1, _⟩
            rw [show a = ⟨a.block, a.off, a.spot⟩ from rfl, hF0 a.off a.spot h1] at h
            cases h
        have hFat : ∀ k, k < (rows.length + news.length) * sz → F' ⟨blk, k, none⟩ = some (new.getD k undef) := by
          intro k hk
          show (if _ then _ else _) = _
          by_cases hk' : rows.length * sz ≤ k
          · rw [if_pos ⟨rfl, rfl, hk', hk⟩]
          · rw [if_neg (fun h => hk' h.2.2.1), hpre k (by omega), hg, if_neg (by omega)]
        have hpl : Pl.le (.tok (.slice (some ⟨blk, 0, none⟩) rows.length cap) rows.length) (.tok (.slice (some ⟨blk, 0, none⟩) (rows.length + news.length) cap) (rows.length + news.length)) := .inr (by omega)
        have hrep : RepD F' (.slice (some ⟨blk, 0, none⟩) (rows.length + news.length) cap) (.sl (rows ++ news)) := by
          have := repD_of_flat (F := F') (ad := ⟨blk, 0, none⟩) (cap := cap) (sz := sz) (rows := rows ++ news) (c.toList.take (rows.length * sz) ++ nl) (rows_append_sz hrs hns) (by simp; omega) (by simp; omega) (by simp only [List.length_append]; rw [hxl, hsum])
            (fun k hk => by rw [List.length_append] at hk; rw [add_block, hFat k hk, hgl k hk]) (fun i j a b => (hall i j a b).mono hle')
          simpa using this
        have hcell' : ∀ a v, F' a = some v → (w.setRow blk new).cell? a = some v := by
          intro a v h
          have h' : (if a.block = blk ∧ a.spot = none ∧ rows.length * sz ≤ a.off ∧ a.off < (rows.length + news.length) * sz then some (new.getD a.off undef) else F a) = some v := h
          split at h'
          · rename_i hc'
            obtain ⟨e1, e2, e3, e4⟩ := hc'
            cases h'
            have ea : a = ⟨blk, a.off, none⟩ := by cases a; simp_all
            have hlt : a.off < new.size := by rw [hnewl, hcs]; exact Nat.lt_of_lt_of_le e4 (Nat.mul_le_mul_right _ hfit)
            rw [ea, World.cell?, setRow_heap w blk c new e (0, 0) hc]
            simp [Array.getD_eq_getD_getElem?, hlt]
          · by_cases hb : a.block = blk
            · have h0 := hi.cells a v h'
              have hsp : a.spot = none := by
                cases hsp : a.spot with
                | none => rfl
                | some s => rw [World.cell?, hb, hc] at h0; simp [hsp] at h0
              have hoff : a.off < rows.length * sz := by
                rcases Nat.lt_or_ge a.off (rows.length * sz) with h1 | h1
                · exact h1
                · rw [show a = ⟨a.block, a.off, a.spot⟩ from rfl, hb, hF0 a.off a.spot h1] at h'; cases h'
              have ea : a = ⟨blk, a.off, none⟩ := by cases a; simp_all
              rw [ea, hpre _ hoff] at h'
              have hlt : a.off < new.size := by rw [hnewl, hcs]; exact Nat.lt_of_lt_of_le hoff (Nat.mul_le_mul_right _ hnc)
              rw [ea, World.cell?, setRow_heap w blk c new e (0, 0) hc]
              have hgo := hg a.off
              rw [if_neg (by omega)] at hgo
              rw [← hgo] at h'
              simpa [Array.getD_eq_getD_getElem?, hlt] using h'
            · rw [setRow_cell_other w blk new a hb]; exact hi.cells a v h'
        refine ⟨_, w.setRow blk new, F', .tok (.slice (some ⟨blk, 0, none⟩) (rows.length + news.length) cap) (rows.length + news.length), run_append_call ho (by rw [hvs, hvx]; exact hrun), .gs hrep (List.getElem?_set_self (List.getElem?_eq_some_iff.1 hM).1) (by simp) (fun _ => rfl), ?_, ?_⟩
        · refine hi.turn hH hM rfl rfl hpl hle' hcell' (by rw [size_setRow]; exact Nat.le_refl _) (fun b hb hne => setRow_other w blk b new (fun e => hne (by simp [Pl.blk, e]))) (fun b hb hne o s h => ?_)
            (.tok e sz _ blk cap new (setRow_heap w blk c new e (0, 0) hc) (by rw [hnewl, hcs]) hfit hcm hFat ?_) (fun b h => .inl (by simpa [Pl.blk] using h))
          · show (if _ then _ else _) = _
            rw [if_neg (fun hh => hne (by have hb' := hh.1; simp at hb'; simp [Pl.blk, hb']))]; exact h
          · intro o s ho'
            show (if _ then _ else _) = _
            rw [if_neg (fun hh => by have := hh.2.2.2; simp at this; omega)]
            exact hF0 o s (by omega)
        · refine Ext.turn hM rfl hpl hle' (by rw [size_setRow]; exact Nat.le_refl _) rfl rfl rfl (fun b hb hne => setRow_other w blk b new (fun e => hne (by simp [Pl.blk, e]))) (fun a h h' => .inr ?_) (fun b h => .inl (by simpa [Pl.blk] using h))
          by_cases hb : a.block = blk
          · simp [Pl.blk, hb]
          · exact absurd (show F' a = none by show (if _ then _ else _) = _; rw [if_neg (fun hh => hb hh.1)]; exact h) h'
      · have hcl : ∀ j u, (c.toList.take (rows.length * sz))[j]? = some u → w.cell? ((⟨blk, 0, none⟩ : Addr).add j) = some u := by
          intro j u hu
          have hj := (List.getElem?_eq_some_iff.1 hu).1
          rw [hxl] at hj
          rw [add_block, World.cell?, hc]
          rw [List.getElem?_take, if_pos hj] at hu
          simpa using hu
        have hrun := run_append_grow (P := P) w t o.type e inf z ht hinf hz ⟨blk, 0, none⟩ rows.length cap (c.toList.take (rows.length * sz)) (by rw [hxl, hsize]) hcl ad news.length capx nl (by rw [hnl, hsize]) hcell (by omega)
          (by simp only [maxLen] at hml; omega) (by rw [hbytes]; exact growslice_fits (by omega) hroom)
        generalize hcap : grownCap w (rows.length + news.length) cap e = cap' at hrun
        have hge : rows.length + news.length ≤ cap' := by rw [← hcap]; exact grownCap_ge ..
        have hcm' : cap' ≤ maxLen := by rw [← hcap]; exact grownCap_le_maxLen _ _ _ _ hml
        generalize hc' : ((c.toList.take (rows.length * sz)).toArray ++ nl.toArray ++ Builtin.zeroCells z.cells (cap' - (rows.length + news.length))) = c' at hrun
        have hcs' : c'.size = cap' * sz := by
          rw [← hc']; simp only [Array.size_append, List.size_toArray, size_zeroCells, hzs]
          rw [hxl, ← hsum, ← Nat.add_mul]; congr 1; omega
        have hcg : ∀ k, k < (rows.length + news.length) * sz → c'.getD k undef = (c.toList.take (rows.length * sz) ++ nl).getD k undef := fun k hk => by
          have hk' : k < (c.toList.take (rows.length * sz) ++ nl).length := by rw [List.length_append, hxl, ← hsum]; exact hk
          rw [← hc', show ((c.toList.take (rows.length * sz)).toArray ++ nl.toArray) = (c.toList.take (rows.length * sz) ++ nl).toArray by simp]
          simp only [Array.getD_eq_getD_getElem?, List.getD_eq_getElem?_getD, Array.getElem?_append]
          rw [if_pos (by simpa using hk')]
          simp
        have hdi : Inv F M w.drew H := ⟨hi.cells, hi.len, fun i o p a b => (hi.objs i o p a b).mono (.refl _) (.refl _) (fun _ _ => rfl) (fun _ _ _ _ h => h), hi.sep, hi.inb, hi.gnd⟩
        let F' := withBlock F w.heap.size ((rows.length + news.length) * sz) (fun k => c'.getD k undef)
        have hle' : F.le F' := withBlock_le (F_new hi)
        have hFat : ∀ k, k < (rows.length + news.length) * sz → F' ⟨w.heap.size, k, none⟩ = some (c'.getD k undef) := fun k hk => withBlock_at _ _ _ _ _ hk
        have hpl : Pl.le (.tok (.slice (some ⟨blk, 0, none⟩) rows.length cap) rows.length) (.tok (.slice (some ⟨w.heap.size, 0, none⟩) (rows.length + news.length) cap') (rows.length + news.length)) := .inr (by omega)
        have hrep : RepD F' (.slice (some ⟨w.heap.size, 0, none⟩) (rows.length + news.length) cap') (.sl (rows ++ news)) := by
          have := repD_of_flat (F := F') (ad := ⟨w.heap.size, 0, none⟩) (cap := cap') (sz := sz) (rows := rows ++ news) (c.toList.take (rows.length * sz) ++ nl) (rows_append_sz hrs hns) (by simp; omega) (by simp; omega) (by simp only [List.length_append]; rw [hxl, hsum])
            (fun k hk => by rw [List.length_append] at hk; rw [add_block, hFat k hk, hcg k hk]) (fun i j a b => (hall i j a b).mono hle')
          simpa using this
        refine ⟨_, w.drew.alloc (.cells c' e), F', .tok (.slice (some ⟨w.heap.size, 0, none⟩) (rows.length + news.length) cap') (rows.length + news.length), run_append_call ho (by rw [hvs, hvx]; exact hrun), .gs hrep (List.getElem?_set_self (List.getElem?_eq_some_iff.1 hM).1) (by simp) (fun _ => rfl), ?_, ?_⟩
        · refine hi.turn hH hM rfl rfl hpl hle' (fun a v h => ?_) (by simp) (fun b hb _ => heap_alloc_old w.drew _ hb) (fun b hb _ o s h => ?_) (.tok e sz _ w.heap.size cap' c' (heap_alloc_new w.drew _) hcs' hge hcm' hFat ?_) (fun b h => .inr ?_)
          · exact (freeze_new hdi c' e ((rows.length + news.length) * sz) (by rw [hcs']; exact Nat.mul_le_mul_right _ hge)).1.cells a v h
          · show withBlock F _ _ _ _ = none
            rw [withBlock_other _ _ _ _ _ (by simp; omega)]; exact h
          · intro o s ho'
            show withBlock F _ _ _ _ = none
            unfold withBlock
            rw [if_neg (by simp; omega)]
            exact F_new hi o s
          · simp [Pl.blk] at h; subst h; simp
        · refine Ext.turn hM rfl hpl hle' (by simp) rfl rfl rfl (fun b hb _ => heap_alloc_old w.drew _ hb) (fun a h h' => .inl ?_) (fun b h => .inr ?_)
          · by_cases hb : a.block = w.heap.size
            · omega
            · exact absurd (show F' a = none by show withBlock F _ _ _ _ = none; rw [withBlock_other _ _ _ _ _ hb]; exact h) h'
          · simp [Pl.blk] at h; omega
/-- The growing slice. -/
theorem Yl.append {o : Oper} {g : Nat → V} {H : List O} {s x : Operand} {t e : TypeId} {tok sz bytes : Nat} {rows news : List (List D)} (ho : o.op = .call { callee := .builtin .append, args := #[s, x], argTypes := #[t, t] })
    (ht : P.underlying t = some (.slice e)) (he : ElIs P e sz bytes) (hs : evO g s = .gs tok rows) (hH : H[tok]? = some (.tok e sz rows.length)) (hx : rowsOf (evO g x) = some news)
    (hrs : ∀ r ∈ rows, r.length = sz) (hns : ∀ r ∈ news, r.length = sz) (hone : oneRows news = true) (hroom : (rows.length + news.length) * bytes ≤ 140737488355328) (hlen : rows.length + news.length ≤ 140737488355328) :
    Yl P o g H (.gs tok (rows ++ news)) (H.set tok (.tok e sz (rows.length + news.length))) := by
  intro F M w ρ hi hr
  have h1 := hr s
  rw [hs] at h1
  obtain ⟨v, w', F', p', h2, h3, h4, h5⟩ := append_run ho ht he hH hx hrs hns hone hroom hlen ρ hi h1 (hr x)
  exact ⟨v, w', F', _, .inl h2, h3, h4, h5⟩
end
end Go.Ab

set_option linter.unusedVariables false
set_option linter.unusedSimpArgs false
namespace Go.Ab
section
variable {P : Program}

/-! ### Regions that draw their order: each operation reads, or calls what leaves everything as it is -/
def uses (o : Oper) (t : Nat) : Bool := o.op.operands.toList.any fun | .tmp u => u == t | _ => false
def mask (o : Oper) (g : Nat → V) : Nat → V := fun t => if uses o t then g t else .any

theorem uses_mem {o : Oper} {x : Operand} {t : Nat} (hx : x ∈ o.op.operands) (e : x = .tmp t) : uses o t = true := by
  subst e
  exact List.any_eq_true.2 ⟨_, by simpa using hx, by simp⟩

/-- An operation that leaves the call's own things as they are: by itself, or a call. -/
def Yc (P : Program) (o : Oper) (g : Nat → V) (H : List O) (r : V) : Prop :=
  Yl P o g H r H ∨ ∃ f args ats k first cap, o.op = .call { callee := .value f, args := args, argTypes := ats } ∧ evO g f = .fn (.func k) first cap ∧ HCall P k (first ++ args.toList.map (evO g) ++ cap) H r

theorem Yc.wp {o : Oper} {g : Nat → V} {n : Nat} {H : List O} {r : V} (h : Yc P o g H r) {F : Mem} {M : Pls} {w : World} {a : Act} (rel : RelT F M a w g n H) {next : Act → World → Prop} {Q : Exit → Act → World → Prop}
    (hn : ∀ v w' F' M', Rep F' M' v r → Inv F' M' w' H → Ext F M w F' M' w' → next (a.put o.dst v) w') : o.wp P a w next Q := by
  have key : SOp P o ⟨n, [], H⟩ (fun _ => True) ∨ True := .inr trivial
  rcases h with h | ⟨f, args, ats, k, first, cap, ho, hf, hc⟩
  · obtain ⟨v, w', F', M', hrun, hv, hi, x⟩ := h F M w a.eval rel.inv rel.ev
    unfold Oper.wp
    rcases hrun with hrun | ⟨hrun, rfl⟩
    · rw [hrun]; exact hn _ _ _ _ hv hi x
    · rw [hrun]; exact hn _ _ _ _ hv hi x
  · have hv := rel.ev f
    rw [hf] at hv
    generalize hfv : a.eval f = fv at hv
    cases hv with
    | fn _ A C _ _ hA hC hrA hrC =>
      have hrun : (execOp a.eval o).run P w = .ok (.enter k (A ++ args.map a.eval ++ C)) w := by
        have := hc.1.1 w (A ++ args.map a.eval ++ C)
        simp [execOp, ho, resolve, hfv, Deferred.ofValue, invoke] at *
        exact this
      unfold Oper.wp
      rw [hrun]
      show Calls P k _ w _
      have hreps : Reps F M (A.toList ++ (args.map a.eval).toList ++ C.toList) (first ++ args.toList.map (evO g) ++ cap) := by
        refine reps_append (reps_append ⟨by simpa using hA, fun j hj => ?_⟩ ⟨by simp, fun j hj => ?_⟩) ⟨by simpa using hC, fun j hj => ?_⟩
        · simpa [List.getD_eq_getElem?_getD, Array.getD_eq_getD_getElem?] using hrA j hj
        · simp at hj
          simp [List.getD_eq_getElem?_getD, hj]
          exact rel.ev _
        · simpa [List.getD_eq_getElem?_getD, Array.getD_eq_getD_getElem?] using hrC j hj
      have hcc := hc.1.2 F M w _ rel.inv hreps
      have e : (A.toList ++ (args.map a.eval).toList ++ C.toList).toArray = A ++ args.map a.eval ++ C := by
        apply Array.ext'; simp
      rw [e] at hcc
      refine hcc.mono ?_
      rintro e w' ⟨v, r', H', F', M', rfl, ⟨rfl, rfl⟩, hvr, hi, x⟩
      exact hn _ _ F' M' hvr hi x

inductive QS (P : Program) (ops : Array Oper) (g : Nat → V) (H : List O) (o : Oper) (r : V) : Prop where
  | plain (hg : o.guard = none) (h : Yc P o (mask o g) H r)
  | yes {j t : Nat} {want : Bool} (hg : o.guard = some (j, want)) (ht : (ops[j]?).bind (·.dst) = some t) (hb : g t = .d (.lit (.bool want))) (h : Yc P o (mask o g) H r)
  | no {j t : Nat} {want : Bool} (hg : o.guard = some (j, want)) (ht : (ops[j]?).bind (·.dst) = some t) (hb : g t = .d (.lit (.bool (!want)))) (h : r = .d (.lit undef))
  | skip {j t : Nat} {want : Bool} {c : Array Value} (hg : o.guard = some (j, want)) (ht : (ops[j]?).bind (·.dst) = some t) (hb : g t = .d (.lit (.tuple c))) (h : r = .d (.lit undef))

theorem mask_congr {o : Oper} {g g' : Nat → V} (h : ∀ t, uses o t = true → g t = g' t) : mask o g = mask o g' := by
  funext t
  unfold mask
  split
  · rename_i hu; exact h t hu
  · rfl

theorem uses_looks {ops : Array Oper} {o : Oper} {t : Nat} (h : uses o t = true) : t ∈ o.looksAt ops := by
  unfold uses at h
  obtain ⟨x, hx, hxt⟩ := List.any_eq_true.1 h
  unfold Oper.looksAt
  refine List.mem_append_left _ (List.mem_filterMap.2 ⟨x, hx, ?_⟩)
  cases x <;> simp at hxt ⊢
  exact hxt

theorem QS.congr {ops : Array Oper} {g g' : Nat → V} {H : List O} {o : Oper} {r : V} (h : QS P ops g H o r) (e : ∀ t, t ∈ o.looksAt ops → g t = g' t) : QS P ops g' H o r := by
  have em : mask o g = mask o g' := mask_congr fun t ht => e t (uses_looks ht)
  have eg : ∀ {j t : Nat} {want : Bool}, o.guard = some (j, want) → (ops[j]?).bind (·.dst) = some t → g t = g' t := fun hg ht =>
    e _ (by unfold Oper.looksAt; rw [hg]; exact List.mem_append_right _ (by simp [ht]))
  cases h with
  | plain hg h => exact .plain hg (em ▸ h)
  | yes hg ht hb h => exact .yes hg ht (eg hg ht ▸ hb) (em ▸ h)
  | no hg ht hb h => exact .no hg ht (eg hg ht ▸ hb) h
  | skip hg ht hb h => exact .skip hg ht (eg hg ht ▸ hb) h

theorem wanted_g {ops : Array Oper} {o : Oper} {g : Nat → V} {n : Nat} {H : List O} {j t : Nat} {want b : Bool} {F : Mem} {M : Pls} {a : Act} {w : World} (hg : o.guard = some (j, want)) (ht : (ops[j]?).bind (·.dst) = some t)
    (hb : g t = .d (.lit (.bool b))) (rel : RelT F M a w g n H) : Region.wanted o (yielded ops a.tmps) = (b == want) := by
  have hv := rel.tmps t
  rw [hb] at hv
  have hv := hv.lit_inv
  have hlt : t < a.tmps.size := by
    rcases Nat.lt_or_ge t a.tmps.size with h | h
    · exact h
    · rw [Array.getD_eq_getD_getElem?, Array.getElem?_eq_none h] at hv; cases hv
  simp [Array.getD_eq_getD_getElem?, hlt] at hv
  simp [Region.wanted, hg, yielded, ht, hlt, hv]

theorem skipped_g {ops : Array Oper} {o : Oper} {g : Nat → V} {n : Nat} {H : List O} {j t : Nat} {want : Bool} {c : Array Value} {F : Mem} {M : Pls} {a : Act} {w : World} (hg : o.guard = some (j, want)) (ht : (ops[j]?).bind (·.dst) = some t)
    (hb : g t = .d (.lit (.tuple c))) (rel : RelT F M a w g n H) : Region.wanted o (yielded ops a.tmps) = false := by
  have hv := rel.tmps t
  rw [hb] at hv
  have hv := hv.lit_inv
  by_cases hlt : t < a.tmps.size
  · simp [Array.getD_eq_getD_getElem?, hlt] at hv
    simp [Region.wanted, hg, yielded, ht, hlt, hv]
  · simp [Region.wanted, hg, yielded, ht, hlt]

theorem RelT.masked {F : Mem} {M : Pls} {a : Act} {w : World} {g : Nat → V} {n : Nat} {H : List O} (rel : RelT F M a w g n H) (o : Oper) : RelT F M a w (mask o g) n H :=
  ⟨rel.defers, rel.size, rel.inv, fun t => by unfold mask; split; exact rel.tmps t; exact .any _⟩

/-- One operation comes up. -/
theorem QS.wpOp {ops : Array Oper} {g : Nat → V} {n : Nat} {H : List O} {o : Oper} {r : V} {i : Nat} (hi : ops[i]? = some o) (h : QS P ops g H o r) {F : Mem} {M : Pls} {w : World} {a : Act} (rel : RelT F M a w g n H) {K : Act → World → Prop} {Q : Exit → Act → World → Prop}
    (hk : ∀ a' w' F' M', RelT F' M' a' w' (putG g n o.dst r) n H → Ext F M w F' M' w' → K a' w') : wpOp P ops Q i K a w := by
  have go : Yc P o (mask o g) H r → o.wp P a w K Q := fun hy =>
    hy.wp (rel.masked o) fun v w' F' M' hv hinv x => hk _ w' F' M' (rel.put x.fle x.mle hinv o.dst hv) x
  unfold Go.wpOp
  simp only [hi]
  cases h with
  | plain hg h => rw [if_pos (by simp [Region.wanted, hg])]; exact .inl (go h)
  | yes hg ht hb h => rw [if_pos (by rw [wanted_g hg ht hb rel]; simp)]; exact .inl (go h)
  | @no j t want hg ht hb h =>
    subst h
    rw [if_neg (by rw [wanted_g hg ht hb rel]; cases want <;> simp)]
    exact hk _ w F M (rel.put (.refl _) (.refl _) rel.inv o.dst (Rep.lit undef)) (.refl _ _ _)
  | @skip j t want c hg ht hb h =>
    subst h
    rw [if_neg (by rw [skipped_g hg ht hb rel]; simp)]
    exact hk _ w F M (rel.put (.refl _) (.refl _) rel.inv o.dst (Rep.lit undef)) (.refl _ _ _)

/-! What has come up so far. -/
def gF (n : Nat) (L : Nat → Bool) : Nat → List (Oper × V) → (Nat → V) → Nat → V
  | _, [], g => g
  | k, z :: zs, g => gF n L (k + 1) zs (if L k then putG g n z.1.dst z.2 else g)

theorem putG_ne {g : Nat → V} {n : Nat} {d : Option Tmp} {v : V} {t : Nat} (h : d ≠ some t) : putG g n d v t = g t := by
  cases d with
  | none => rfl
  | some d =>
    have hne : t ≠ d := fun e => h (by rw [e])
    unfold putG; dsimp only
    split
    · exact if_neg hne
    · rfl

theorem putG_congr {g g' : Nat → V} {n : Nat} {d : Option Tmp} {v : V} {t : Nat} (h : g t = g' t) : putG g n d v t = putG g' n d v t := by
  cases d with
  | none => exact h
  | some d =>
    unfold putG; dsimp only
    by_cases hd : d < n
    · rw [if_pos hd, if_pos hd]
      by_cases ht : t = d
      · show (if t = d then v else g t) = (if t = d then v else g' t)
        rw [if_pos ht, if_pos ht]
      · show (if t = d then v else g t) = (if t = d then v else g' t)
        rw [if_neg ht, if_neg ht]; exact h
    · rw [if_neg hd, if_neg hd]; exact h

theorem gF_congr {n : Nat} {L L' : Nat → Bool} {t : Nat} : ∀ (zs : List (Oper × V)) (k : Nat) (g g' : Nat → V), g t = g' t →
    (∀ i z, zs[i]? = some z → z.1.dst = some t → L (k + i) = L' (k + i)) → gF n L k zs g t = gF n L' k zs g' t
  | [], _, _, _, h, _ => h
  | z :: zs, k, g, g', h, hl => by
    simp only [gF]
    refine gF_congr zs (k + 1) _ _ ?_ (fun i z' hz hd => by have := hl (i + 1) z' (by simpa using hz) hd; rwa [show k + (i + 1) = k + 1 + i by omega] at this)
    by_cases hd : z.1.dst = some t
    · have := hl 0 z (by simp) hd
      rw [Nat.add_zero] at this
      rw [this]
      split
      · exact putG_congr h
      · exact h
    · have e : ∀ (b : Bool) (g : Nat → V), (if b then putG g n z.1.dst z.2 else g) t = g t := fun b g => by cases b <;> simp [putG_ne hd]
      rw [e, e]; exact h

theorem gF_none {n : Nat} {L : Nat → Bool} : ∀ (zs : List (Oper × V)) (k : Nat) (g : Nat → V), (∀ m, k ≤ m → L m = false) → gF n L k zs g = g
  | [], _, _, _ => rfl
  | z :: zs, k, g, h => by
    simp only [gF, h k (Nat.le_refl _)]
    exact gF_none zs (k + 1) _ fun m hm => h m (by omega)

/-- One more: as if it had been put last. -/
theorem gF_set {n : Nat} {L : Nat → Bool} {j : Nat} {zj : Oper × V} : ∀ (zs : List (Oper × V)) (k : Nat) (g : Nat → V), k ≤ j → zs[j - k]? = some zj → L j = false →
    (∀ i z, zs[i]? = some z → k + i ≠ j → z.1.dst = zj.1.dst → z.1.dst = none) →
    gF n (fun m => if m = j then true else L m) k zs g = putG (gF n L k zs g) n zj.1.dst zj.2
  | [], k, g, hk, hj, _, _ => by simp at hj
  | z :: zs, k, g, hk, hj, hL, hu => by
    simp only [gF]
    by_cases hkj : k = j
    · subst hkj
      simp at hj
      subst hj
      rw [if_pos (if_pos rfl), hL]
      simp only [Bool.false_eq_true, if_false]
      funext t
      by_cases hd : z.1.dst = some t
      · have e1 : gF n (fun m => if m = k then true else L m) (k + 1) zs (putG g n z.1.dst z.2) t = putG g n z.1.dst z.2 t := by
          have : gF n (fun m => if m = k then true else L m) (k + 1) zs (putG g n z.1.dst z.2) t = gF n (fun _ => false) (k + 1) zs (putG g n z.1.dst z.2) t :=
            gF_congr zs (k + 1) _ _ rfl fun i z' hz hd' => by
              have := hu (i + 1) z' (by simpa using hz) (by omega) (by rw [hd', hd])
              rw [hd'] at this; cases this
          rw [this, gF_none _ _ _ (fun _ _ => rfl)]
        have e2 : gF n L (k + 1) zs g t = g t := by
          have : gF n L (k + 1) zs g t = gF n (fun _ => false) (k + 1) zs g t :=
            gF_congr zs (k + 1) _ _ rfl fun i z' hz hd' => by
              have := hu (i + 1) z' (by simpa using hz) (by omega) (by rw [hd', hd])
              rw [hd'] at this; cases this
          rw [this, gF_none _ _ _ (fun _ _ => rfl)]
        rw [e1]
        exact (putG_congr e2).symm
      · rw [putG_ne hd]
        exact gF_congr zs (k + 1) _ _ (putG_ne hd) fun i z' hz hd' => by rw [if_neg (by omega)]
    · simp only [hkj, if_false]
      refine gF_set zs (k + 1) _ (by omega) ?_ hL (fun i z' hz hne => hu (i + 1) z' (by simpa using hz) (by omega))
      rw [show j - k = (j - (k + 1)) + 1 by omega] at hj
      simpa using hj

theorem gF_all {n : Nat} {L : Nat → Bool} : ∀ (zs : List (Oper × V)) (k : Nat) (g : Nat → V), (∀ m, k ≤ m → m < k + zs.length → L m = true) → gF n L k zs g = gF n (fun _ => true) k zs g
  | [], _, _, _ => rfl
  | z :: zs, k, g, h => by
    simp only [gF, h k (Nat.le_refl _) (by simp)]
    exact gF_all zs (k + 1) _ fun m h1 h2 => h m (by omega) (by simp; omega)

/-- What is asked of a region's edges. -/
def okDraw (ops : Array Oper) : Bool :=
  (List.range ops.size).all fun j => match ops[j]? with
    | none => false
    | some oj =>
      (oj.after.toList.all fun e => !Region.binds .any e || decide (e.on < j)) &&
      (List.range ops.size).all fun i => i == j || match ops[i]? with
        | none => false
        | some oi => match oi.dst with
          | none => true
          | some t => (oj.dst != some t) && (!((oj.looksAt ops).contains t) ||
              (if i < j then oj.after.toList.any fun e => Region.binds .any e && e.on == i else oi.after.toList.any fun e => Region.binds .any e && e.on == j))

theorem okDraw_spec {ops : Array Oper} (h : okDraw ops = true) {j : Nat} {oj : Oper} (hj : ops[j]? = some oj) :
    (∀ e ∈ oj.after, Region.binds .any e = true → e.on < j) ∧ ∀ i oi t, ops[i]? = some oi → i ≠ j → oi.dst = some t → oj.dst ≠ some t ∧ (t ∈ oj.looksAt ops →
      (i < j ∧ ∃ e ∈ oj.after, Region.binds .any e = true ∧ e.on = i) ∨ (j < i ∧ ∃ e ∈ oi.after, Region.binds .any e = true ∧ e.on = j)) := by
  have hlt : j < ops.size := (Array.getElem?_eq_some_iff.1 hj).1
  have h1 := List.all_eq_true.1 h j (List.mem_range.2 hlt)
  simp only [hj, Bool.and_eq_true] at h1
  obtain ⟨h2, h3⟩ := h1
  refine ⟨fun e he hb => ?_, fun i oi t hi hne hd => ?_⟩
  · have := List.all_eq_true.1 h2 e (by simpa using he)
    simpa [hb] using this
  · have hlti : i < ops.size := (Array.getElem?_eq_some_iff.1 hi).1
    have h4 := List.all_eq_true.1 h3 i (List.mem_range.2 hlti)
    simp only [hi, hd, Bool.or_eq_true, Bool.and_eq_true, beq_iff_eq, hne, false_or, bne_iff_ne, ne_eq, Bool.not_eq_true'] at h4
    refine ⟨h4.1, fun hl => ?_⟩
    rcases h4.2 with h5 | h5
    · have : ((oj.looksAt ops).contains t) = true := by simpa using hl
      rw [this] at h5; cases h5
    · split at h5
      · rename_i hij
        obtain ⟨e, he, hb⟩ := List.any_eq_true.1 h5
        simp only [Bool.and_eq_true, beq_iff_eq] at hb
        exact .inl ⟨hij, e, by simpa using he, hb.1, hb.2⟩
      · rename_i hij
        obtain ⟨e, he, hb⟩ := List.any_eq_true.1 h5
        simp only [Bool.and_eq_true, beq_iff_eq] at hb
        exact .inr ⟨by omega, e, by simpa using he, hb.1, hb.2⟩

theorem draw_core {ops : Array Oper} {zs : List (Oper × V)} {n : Nat} {H : List O} {g0 : Nat → V} {Q : Exit → Act → World → Prop} (hok : okDraw ops = true) (hz : zs.map (·.1) = ops.toList)
    (hq : ∀ i z, zs[i]? = some z → QS P ops (gF n (fun m => decide (m < i)) 0 zs g0) H z.1 z.2) :
    ∀ (fuel : Nat) (listed : Array Bool) (F : Mem) (M : Pls) (a : Act) (w : World), listed.size = ops.size → ops.size ≤ fuel + (listed.toList.filter (· = true)).length →
      (∀ j oj, ops[j]? = some oj → listed.getD j false = true → ∀ e ∈ oj.after, Region.binds .any e = true → listed.getD e.on false = true) →
      RelT F M a w (gF n (fun i => listed.getD i false) 0 zs g0) n H →
      (∀ F' M' a' w', RelT F' M' a' w' (gF n (fun _ => true) 0 zs g0) n H → Ext F M w F' M' w' → Q .normal a' w') → wpAny P .any ops Q fuel listed a w := by
  have hlen : zs.length = ops.size := by have := congrArg List.length hz; simpa using this
  have hzi : ∀ (i : Nat) (o : Oper), ops[i]? = some o → ∃ r : V, zs[i]? = some (o, r) := fun i o ho => by
    have h1 : (zs.map (·.1))[i]? = some o := by rw [hz]; simpa using ho
    rw [List.getElem?_map] at h1
    cases hzz : zs[i]? with
    | none => simp [hzz] at h1
    | some z => simp [hzz] at h1; exact ⟨z.2, by rw [← h1]⟩
  have hzo : ∀ (i : Nat) (z : Oper × V), zs[i]? = some z → ops[i]? = some z.1 := fun i z h => by
    have h1 : (zs.map (·.1))[i]? = some z.1 := by rw [List.getElem?_map, h]; rfl
    rw [hz] at h1; simpa using h1
  have hdone : ∀ listed : Array Bool, listed.size = ops.size → (∀ j oj, ops[j]? = some oj → listed.getD j false = true → ∀ e ∈ oj.after, Region.binds .any e = true → listed.getD e.on false = true) → Region.ready .any ops listed = [] →
      ∀ j, j < ops.size → listed.getD j false = true := by
    intro listed hs hc hr j
    induction j using Nat.strongRecOn with
    | _ j ih =>
      intro hj
      cases hl : listed.getD j false with
      | true => rfl
      | false =>
        exfalso
        have : j ∈ Region.ready .any ops listed := by
          refine mem_ready.2 ⟨?_, ops[j], by simp [hj], fun e he hb => ?_⟩
          · have hj' : j < listed.size := by omega
            simp [hj'] at hl ⊢; exact hl
          · have hlt := (okDraw_spec hok (j := j) (oj := ops[j]) (by simp [hj])).1 e he hb
            exact ih e.on hlt (by omega)
        rw [hr] at this
        cases this
  have hfin : ∀ (listed : Array Bool) (F : Mem) (M : Pls) (a : Act) (w : World), listed.size = ops.size → (∀ j oj, ops[j]? = some oj → listed.getD j false = true → ∀ e ∈ oj.after, Region.binds .any e = true → listed.getD e.on false = true) →
      RelT F M a w (gF n (fun i => listed.getD i false) 0 zs g0) n H →
      (∀ F' M' a' w', RelT F' M' a' w' (gF n (fun _ => true) 0 zs g0) n H → Ext F M w F' M' w' → Q .normal a' w') → Region.ready .any ops listed = [] → Q .normal a w := by
    intro listed F M a w hs hc rel hQ hr
    refine hQ F M a w ?_ (.refl _ _ _)
    rw [gF_all zs 0 g0 (fun m _ h2 => hdone listed hs hc hr m (by omega))] at rel
    exact rel
  intro fuel
  induction fuel with
  | zero =>
    intro listed F M a w hs hcount hc rel hQ
    have hall : ∀ j, j < listed.size → listed.getD j false = true := by
      intro j hj
      have h1 : (listed.toList.filter (· = true)).length = listed.toList.length := by
        have := List.length_filter_le (· = true) listed.toList
        simp at this ⊢ hcount
        omega
      have h2 := List.length_filter_eq_length_iff.1 h1 (listed[j]'hj) (by simp)
      simpa [hj] using h2
    have hr : Region.ready .any ops listed = [] := by
      refine List.eq_nil_iff_forall_not_mem.2 fun j hj => ?_
      obtain ⟨h0, o, ho, _⟩ := mem_ready.1 hj
      have hj' : j < listed.size := by rw [hs]; exact (Array.getElem?_eq_some_iff.1 ho).1
      have := hall j hj'
      simp [hj'] at h0 this
      rw [h0] at this; cases this
    exact ⟨hr, hfin listed F M a w hs hc rel hQ hr⟩
  | succ fuel ih =>
    intro listed F M a w hs hcount hc rel hQ
    refine ⟨fun hr => hfin listed F M a w hs hc rel hQ hr, fun j hj => ?_⟩
    obtain ⟨h0, o, ho, hdeps⟩ := mem_ready.1 hj
    have hjs : j < listed.size := by rw [hs]; exact (Array.getElem?_eq_some_iff.1 ho).1
    have h0' : listed.getD j false = false := by simp [hjs] at h0 ⊢; exact h0
    obtain ⟨r, hzj⟩ := hzi j o ho
    have hqs := hq j _ hzj
    obtain ⟨_, hspec⟩ := okDraw_spec hok ho
    have hqs' : QS P ops (gF n (fun i => listed.getD i false) 0 zs g0) H o r := by
      refine hqs.congr fun t ht => ?_
      refine gF_congr zs 0 g0 g0 rfl fun i z hz' hd => ?_
      rw [Nat.zero_add]
      have hoi := hzo i z hz'
      by_cases hij : i = j
      · subst hij; rw [h0']; simp
      · rcases (hspec i z.1 t hoi hij hd).2 ht with ⟨h1, e, he, hb, hon⟩ | ⟨h1, e, he, hb, hon⟩
        · rw [← hon, hdeps e he hb]; simp; omega
        · have : listed.getD i false = false := by
            cases hl : listed.getD i false with
            | false => rfl
            | true =>
              have := hc i z.1 hoi hl e he hb
              rw [hon, h0'] at this; cases this
          rw [this]; simp; omega
    refine hqs'.wpOp ho rel fun a' w' F' M' rel' x => ?_
    have hg : ∀ i, (listed.setIfInBounds j true).getD i false = if i = j then true else listed.getD i false := by
      intro i
      by_cases hij : i = j
      · subst hij; simp [hjs]
      · rw [if_neg hij, getD_set_ne false (Ne.symm hij)]
    refine ih _ F' M' a' w' (by simpa using hs) ?_ ?_ ?_ (fun F'' M'' a'' w'' r' x' => hQ F'' M'' a'' w'' r' (x.trans x'))
    · have hcnt : ((listed.setIfInBounds j true).toList.filter (· = true)).length = (listed.toList.filter (· = true)).length + 1 := by
        have hl : listed.toList[j]'(by simpa using hjs) = false := by simp [hjs] at h0'; simpa using h0'
        rw [Array.toList_setIfInBounds]
        have hsplit := List.set_eq_take_append_cons_drop (l := listed.toList) (i := j) (a := true)
        rw [if_pos (by simpa using hjs)] at hsplit
        have horig : listed.toList = listed.toList.take j ++ false :: listed.toList.drop (j + 1) := by
          conv => lhs; rw [← List.take_append_drop j listed.toList]
          rw [List.drop_eq_getElem_cons (by simpa using hjs), hl]
        rw [hsplit]
        conv => rhs; rw [horig]
        simp only [List.filter_append, List.length_append, List.filter_cons]
        simp
        omega
      rw [hcnt]; omega
    · intro i oi hoi hl e he hb
      rw [hg] at hl ⊢
      by_cases hon : e.on = j
      · rw [if_pos hon]
      · rw [if_neg hon]
        by_cases hij : i = j
        · subst hij
          have : oi = o := Option.some.inj (hoi.symm.trans ho)
          subst this
          exact hdeps e he hb
        · rw [if_neg hij] at hl
          exact hc i oi hoi hl e he hb
    · have e : (fun i => (listed.setIfInBounds j true).getD i false) = (fun m => if m = j then true else listed.getD m false) := funext hg
      rw [e, gF_set zs 0 g0 (Nat.zero_le _) (by simpa using hzj) h0' ?_]
      · exact rel'
      · intro i z hz' hne hd
        cases hdz : z.1.dst with
        | none => rfl
        | some t =>
          exfalso
          rw [Nat.zero_add] at hne
          have := (hspec i z.1 t (hzo i z hz') hne hdz).1
          exact this (by rw [← hd]; exact hdz)

/-- The lexical run. -/
def QRun (P : Program) (ops : Array Oper) (n : Nat) (H : List O) : List (Oper × V) → (Nat → V) → Prop
  | [], _ => True
  | z :: zs, g => QS P ops g H z.1 z.2 ∧ QRun P ops n H zs (putG g n z.1.dst z.2)

theorem QRun.at {ops : Array Oper} {n : Nat} {H : List O} : ∀ (zs : List (Oper × V)) (k : Nat) (g : Nat → V), QRun P ops n H zs g → ∀ i z, zs[i]? = some z → QS P ops (gF n (fun m => decide (m < k + i)) k zs g) H z.1 z.2
  | [], _, _, _, i, z, h => by simp at h
  | z :: zs, k, g, hr, 0, z', h => by
    simp at h; subst h
    rw [Nat.add_zero, gF_none _ _ _ (fun m hm => by simp; omega)]
    exact hr.1
  | z :: zs, k, g, hr, i + 1, z', h => by
    have := QRun.at zs (k + 1) _ hr.2 i z' (by simpa using h)
    simp only [gF]
    simp only [show k < k + (i + 1) by omega, decide_true, if_true]
    rwa [show k + 1 + i = k + (i + 1) by omega] at this

theorem SExec.region_draw {id : Nat} {ops : Array Oper} {s : St} {Q : Exit → St → Prop} (hm : P.follows .mixedOrders = true) (hok : okDraw ops = true) (zs : List (Oper × V)) (hz : zs.map (·.1) = ops.toList)
    (hq : QRun P ops s.n s.hp zs s.get) (s' : St) (hn : s'.n = s.n) (hh : s'.hp = s.hp) (hg : ∀ t, EntV (gF s.n (fun _ => true) 0 zs s.get t) (s'.get t)) (h : Q .normal s') : SExec P (.region id ops true) s Q := by
  intro F M w a rel
  refine wp_region_any hm ?_
  have hdi : Inv F M { w with drawn := w.drawn + 1 } s.hp := ⟨rel.inv.cells, rel.inv.len, fun i o p a b => (rel.inv.objs i o p a b).mono (.refl _) (.refl _) (fun _ _ => rfl) (fun _ _ _ _ h => h), rel.inv.sep, rel.inv.inb, rel.inv.gnd⟩
  have hx : Ext F M w F M { w with drawn := w.drawn + 1 } := ⟨.refl _, .refl _, Nat.le_refl _, rfl, rfl, rfl, fun _ _ _ => rfl, fun a h h' => absurd h h', fun i p b h e => .inr ⟨i, p, h, e⟩⟩
  refine draw_core (P := P) hok hz (fun i z h => by simpa using QRun.at zs 0 s.get hq i z h) ops.size _ F M a _ (by simp) (by simp) ?_ ?_ ?_
  · intro j oj hj hl
    have hlt := (Array.getElem?_eq_some_iff.1 hj).1
    simp [hlt] at hl
  · rw [gF_none _ _ _ (fun m _ => by
      rcases Nat.lt_or_ge m ops.size with h' | h'
      · simp [h']
      · simp [h'])]
    exact ⟨rel.defers, rel.size, hdi, rel.tmps⟩
  · intro F' M' a' w' rel' x
    refine ⟨s', F', M', h, ⟨rel'.defers, rel'.size.trans hn.symm, hh ▸ rel'.inv, fun t => hg t F' M' _ (rel'.tmps t)⟩, hx.trans x⟩
end
end Go.Ab

set_option linter.unusedVariables false
set_option linter.unusedSimpArgs false
namespace Go.Ab

/-! ### The table of types -/
inductive TK where
  | bool
  | int (k : IntKind)
  | str
  | slice (e : TypeId)
  | struct (fields : List (Nat × TypeId))
  | arr (len : Nat) (e : TypeId)
  | other

def TK.agg : TK → Bool
  | .struct _ | .arr _ _ => true
  | _ => false

def tkOf : TypeDesc → TK
  | .bool => .bool
  | .int k => .int k
  | .string => .str
  | .slice e => .slice e
  | .struct fs => .struct (fs.toList.map fun f => (f.offset, f.type))
  | .array n e => .arr n e
  | _ => .other

structure TI where
  k : TK
  size : Nat
  bytes : Nat
  zero : Option V

def tiOf (P : Program) (t : TypeId) : Option TI :=
  match P.info? t, P.underlying t with
  | some i, some d => some { k := tkOf d, size := i.size, bytes := i.bytes, zero := i.zero.map ofC }
  | _, _ => none

abbrev Tab := TypeId → Option TI
def TabOk (P : Program) (T : Tab) : Prop := ∀ t i, T t = some i → tiOf P t = some i

def tab : List (TypeId × TI) → Tab
  | [], _ => none
  | p :: l, t => if t = p.1 then some p.2 else tab l t

theorem tabOk_nil (P : Program) : TabOk P (tab []) := fun t i h => by simp [tab] at h
theorem tabOk_cons {P : Program} {p : TypeId × TI} {l : List (TypeId × TI)} (h : tiOf P p.1 = some p.2) (k : TabOk P (tab l)) : TabOk P (tab (p :: l)) := by
  intro t i ht
  unfold tab at ht
  split at ht
  · rename_i e; subst e; cases ht; exact h
  · exact k t i ht

section
variable {P : Program} {T : Tab}

theorem ti_parts {t : TypeId} {i : TI} (h : tiOf P t = some i) : ∃ inf d, P.info? t = some inf ∧ P.underlying t = some d ∧ i.k = tkOf d ∧ i.size = inf.size ∧ i.bytes = inf.bytes ∧ i.zero = inf.zero.map ofC := by
  unfold tiOf at h
  split at h
  · rename_i inf d h1 h2
    cases h
    exact ⟨inf, d, h1, h2, rfl, rfl, rfl, rfl⟩
  · cases h

theorem ti_is {t : TypeId} {i : TI} (h : tiOf P t = some i) : TyIs P t i.k.agg i.size := by
  obtain ⟨inf, d, h1, h2, h3, h4, h5, h6⟩ := ti_parts h
  refine ⟨?_, by rw [h1, h4]; rfl⟩
  rw [h2, h3]
  cases d <;> rfl

theorem ti_slice {t e : TypeId} {i : TI} (h : tiOf P t = some i) (hk : i.k = .slice e) : P.underlying t = some (.slice e) := by
  obtain ⟨inf, d, h1, h2, h3, h4, h5, h6⟩ := ti_parts h
  rw [hk] at h3
  cases d <;> simp [tkOf] at h3
  subst h3; exact h2

theorem ti_str {t : TypeId} {i : TI} (h : tiOf P t = some i) (hk : i.k = .str) : P.underlying t = some .string := by
  obtain ⟨inf, d, h1, h2, h3, h4, h5, h6⟩ := ti_parts h
  rw [hk] at h3
  cases d <;> simp [tkOf] at h3
  exact h2

theorem ti_bool {t : TypeId} {i : TI} (h : tiOf P t = some i) (hk : i.k = .bool) : P.underlying t = some .bool := by
  obtain ⟨inf, d, h1, h2, h3, h4, h5, h6⟩ := ti_parts h
  rw [hk] at h3
  cases d <;> simp [tkOf] at h3
  exact h2

theorem ti_int {t : TypeId} {i : TI} {k : IntKind} (h : tiOf P t = some i) (hk : i.k = .int k) : P.underlying t = some (.int k) := by
  obtain ⟨inf, d, h1, h2, h3, h4, h5, h6⟩ := ti_parts h
  rw [hk] at h3
  cases d <;> simp [tkOf] at h3
  subst h3; exact h2

theorem ti_arr {t e : TypeId} {n : Nat} {i : TI} (h : tiOf P t = some i) (hk : i.k = .arr n e) : P.underlying t = some (.array n e) := by
  obtain ⟨inf, d, h1, h2, h3, h4, h5, h6⟩ := ti_parts h
  rw [hk] at h3
  cases d <;> simp [tkOf] at h3
  obtain ⟨rfl, rfl⟩ := h3; exact h2

theorem ti_struct {t : TypeId} {fs : List (Nat × TypeId)} {i : TI} (h : tiOf P t = some i) (hk : i.k = .struct fs) : ∃ fa, P.underlying t = some (.struct fa) ∧ fa.toList.map (fun f => (f.offset, f.type)) = fs := by
  obtain ⟨inf, d, h1, h2, h3, h4, h5, h6⟩ := ti_parts h
  rw [hk] at h3
  cases d <;> simp [tkOf] at h3
  exact ⟨_, h2, h3.symm⟩

theorem ti_zero {t : TypeId} {i : TI} {z : V} (h : tiOf P t = some i) (hz : i.zero = some z) : zeroV P t = some z := by
  obtain ⟨inf, d, h1, h2, h3, h4, h5, h6⟩ := ti_parts h
  unfold zeroV
  rw [h1, ← hz, h6]
  rfl

theorem cellsV_litC (v : Value) : cellsV (litC v) = [litC v] := by unfold litC; split <;> rfl
theorem cellsV_ofC (v : Value) : (cellsV (ofC v)).length = v.cells.size := by
  cases v <;> first | (simp [ofC, cellsV, Value.cells]; done) | (simp only [ofC, cellsV_litC]; rfl)

theorem ti_el {t : TypeId} {i : TI} {z : V} (h : tiOf P t = some i) (hz : i.zero = some z) (hl : (cellsV z).length = i.size) (hp : 0 < i.size) : ElIs P t i.size i.bytes := by
  obtain ⟨inf, d, h1, h2, h3, h4, h5, h6⟩ := ti_parts h
  rw [h6] at hz
  cases hzz : inf.zero with
  | none => simp [hzz] at hz
  | some v =>
    simp [hzz] at hz
    refine ⟨inf, v, h1, hzz, h4.symm, h5.symm, ?_, hp⟩
    rw [← hl, ← hz, cellsV_ofC]

/-! ### The evaluator -/
/-- A way that is taken. -/
def bsel (b : Bool) (A B : Prop) : Prop := match b with
  | true => A
  | false => B
theorem bsel_intro {b : Bool} {A B : Prop} (h : b = true → A) (k : b = false → B) : bsel b A B := by cases b; exact k rfl; exact h rfl
theorem bsel_true {b : Bool} {A B : Prop} (e : b = true) (h : A) : bsel b A B := by subst e; exact h
theorem bsel_false {b : Bool} {A B : Prop} (e : b = false) (h : B) : bsel b A B := by subst e; exact h
theorem bsel_elim {b : Bool} {A B : Prop} (h : bsel b A B) : (b = true ∧ A) ∨ (b = false ∧ B) := by cases b; exact .inr ⟨rfl, h⟩; exact .inl ⟨rfl, h⟩

/-- What is asked. -/
def chk (b : Bool) (A : Prop) : Prop := match b with
  | true => A
  | false => False
theorem chk_intro {b : Bool} {A : Prop} (e : b = true) (h : A) : chk b A := by subst e; exact h
theorem chk_elim {b : Bool} {A : Prop} (h : chk b A) : b = true ∧ A := by cases b; exact h.elim; exact ⟨rfl, h⟩

def fieldOf (T : Tab) (t : TypeId) (f : Nat) : Option (Nat × TypeId × TI) :=
  match T t with
  | some i => match i.k with
    | .struct fs => match fs[f]? with
      | some (off, u) => match T u with
        | some j => some (off, u, j)
        | none => none
      | none => none
    | _ => none
  | none => none

def sliceEl (T : Tab) (t : TypeId) : Option (TypeId × TI) :=
  match T t with
  | some i => match i.k with
    | .slice e => match T e with
      | some j => some (e, j)
      | none => none
    | _ => none
  | none => none

def isStr (T : Tab) (t : TypeId) : Bool := match T t with | some i => (match i.k with | .str => true | _ => false) | none => false
def isBool (T : Tab) (t : TypeId) : Bool := match T t with | some i => (match i.k with | .bool => true | _ => false) | none => false

structure raw (P : Program) (o : Oper) (g : Nat → V) (H : List O) (K : V → List O → Prop) : Prop where
  ex : ∃ r H', Yl P o g H r H' ∧ K r H'

def structPl (T : Tab) : List (Nat × TypeId) → Option (List (Nat × Nat))
  | [] => some []
  | (off, u) :: l => match T u with
    | some i => match structPl T l with
      | some r => some ((off, i.size) :: r)
      | none => none
    | none => none

def evalLen (T : Tab) (g : Nat → V) (H : List O) (x : Operand) (t : TypeId) (R : Prop) (K : V → List O → Prop) : Prop :=
  match T t with
  | some i => match i.k with
    | .str => match evO g x with
      | .d (.lit (.string s)) => K (.d (.lit (.int .i64 s.size))) H
      | _ => R
    | .slice _ => match lenOf (evO g x) with
      | some n => K (.d (.lit (.int .i64 n))) H
      | none => R
    | _ => R
  | none => R

def evalAppend (T : Tab) (g : Nat → V) (H : List O) (s x : Operand) (t : TypeId) (R : Prop) (K : V → List O → Prop) : Prop :=
  match sliceEl T t, evO g s, rowsOf (evO g x) with
  | some (e, j), .gs tok rows, some news => match H[tok]?, j.zero with
    | some (.tok e' sz n), some z =>
      (e' = e ∧ sz = j.size ∧ n = rows.length ∧ (cellsV z).length = j.size ∧ 0 < j.size ∧ (∀ r ∈ rows, r.length = j.size) ∧ (∀ r ∈ news, r.length = j.size) ∧ oneRows news = true ∧
        (rows.length + news.length) * j.bytes ≤ 140737488355328 ∧ rows.length + news.length ≤ 140737488355328) ∧ K (.gs tok (rows ++ news)) (H.set tok (.tok e j.size (rows.length + news.length)))
    | _, _ => R
  | _, _, _ => R

def evalBin (T : Tab) (g : Nat → V) (H : List O) (op : BinOp) (xt : TypeId) (x y : Operand) (R : Prop) (K : V → List O → Prop) : Prop :=
  match evO g x, evO g y with
  | .d (.lit (.int k a)), .d (.lit (.int k' b)) => match op with
    | .shl => match binShift .shl k a b with
      | some r => K (.d (.lit r)) H
      | none => R
    | .shr => match binShift .shr k a b with
      | some r => K (.d (.lit r)) H
      | none => R
    | op => if k' = k then (match binInt op k a b with
      | some r => K (.d (.lit r)) H
      | none => R) else R
  | .d (.lit (.string a)), .d (.lit (.string b)) => match binStr op a b with
    | some r => K (.d (.lit r)) H
    | none => R
  | .d (.lit (.bool a)), .d (.lit (.bool b)) => match isBool T xt, op with
    | true, .eql => K (.d (.lit (.bool (a == b)))) H
    | true, .neq => K (.d (.lit (.bool (a != b)))) H
    | _, _ => R
  | _, _ => R

structure IdxS (rows : List (List D)) (i : Int) (n : Nat) (K : V → List O → Prop) (H : List O) : Prop where
  nonneg : 0 ≤ i
  lt : i < rows.length
  len : (rows.getD i.toNat []).length = n
  pos : 0 < n
  go : K (.rp (rows.getD i.toNat [])) H

structure IdxStr (s : ByteArray) (i : Int) (K : V → List O → Prop) (H : List O) : Prop where
  nonneg : 0 ≤ i
  lt : i.toNat < s.size
  go : K (.d (.lit (.int .u8 (s[i.toNat]'lt).toNat))) H

def evalIndexAddr (T : Tab) (g : Nat → V) (H : List O) (t : TypeId) (x ix : Operand) (R : Prop) (K : V → List O → Prop) : Prop :=
  match sliceEl T t, evO g ix with
  | some (e, j), .d (.lit (.int k i)) => match evO g x with
    | .hs id off len => chk (decide (0 ≤ i) && decide (i < len)) (K (.bx id (off + i.toNat * j.size)) H)
    | xv => match rowsOf xv with
      | some rows => IdxS rows i j.size K H
      | none => R
  | _, _ => R

def evalIndex (T : Tab) (g : Nat → V) (H : List O) (t : TypeId) (x ix : Operand) (R : Prop) (K : V → List O → Prop) : Prop :=
  match T t, evO g ix with
  | some ti, .d (.lit (.int k i)) => match ti.k, evO g x with
    | .str, .d (.lit (.string s)) => IdxStr s i K H
    | .arr len e, .agg cells => match T e with
      | some j => chk (decide (0 ≤ i) && decide (i < len)) (chk (decide (i.toNat * j.size + j.size ≤ cells.length)) (match partV j.k.agg j.size cells (i.toNat * j.size) with
        | some r => K r H
        | none => R))
      | none => R
    | _, _ => R
  | _, _ => R

def evalSlice (T : Tab) (g : Nat → V) (H : List O) (t : TypeId) (x : Operand) (lo hi : Option Operand) (R : Prop) (K : V → List O → Prop) : Prop :=
  match isStr T t, evO g x, lo, hi with
  | true, .d (.lit (.string s)), some a, none => match evO g a with
    | .d (.lit (.int _ l)) => chk (decide (0 ≤ l) && decide (l ≤ s.size)) (K (.d (.lit (.string (s.extract l.toNat s.size)))) H)
    | _ => R
  | true, .d (.lit (.string s)), none, some b => match evO g b with
    | .d (.lit (.int _ h)) => chk (decide (0 ≤ h) && decide (h ≤ s.size)) (K (.d (.lit (.string (s.extract 0 h.toNat)))) H)
    | _ => R
  | _, _, _, _ => R

def builtinEv (P : Program) (T : Tab) (o : Oper) (g : Nat → V) (H : List O) (b : Builtin) (args : List Operand) (ats : List TypeId) (K : V → List O → Prop) : Prop :=
  match b, args, ats with
  | .len, [x], [t] => evalLen T g H x t (raw P o g H K) K
  | .append, [s, x], [t, u] => if u = t then evalAppend T g H s x t (raw P o g H K) K else raw P o g H K
  | .max, [x, y], _ => match evO g x, evO g y with
    | .d (.lit (.int k a)), .d (.lit (.int k' b)) => if k' = k then K (.d (.lit (.int k (if b > a then b else a)))) H else raw P o g H K
    | _, _ => raw P o g H K
  | .min, [x, y], _ => match evO g x, evO g y with
    | .d (.lit (.int k a)), .d (.lit (.int k' b)) => if k' = k then K (.d (.lit (.int k (if b < a then b else a)))) H else raw P o g H K
    | _, _ => raw P o g H K
  | _, _, _ => raw P o g H K

/-! What is made is laid out at once. -/
def forceV (x : V) (k : V → Prop) : Prop := match x with
  | .d (.lit v) => k (.d (.lit v))
  | .d (.sl r) => k (.d (.sl r))
  | .gs t r => k (.gs t r)
  | .bx i o => k (.bx i o)
  | .rp c => k (.rp c)
  | .xs r => k (.xs r)
  | .hs i o l => k (.hs i o l)
  | .agg c => k (.agg c)
  | .fn f a c => k (.fn f a c)
  | .tup l => k (.tup l)
  | .any => k .any
theorem forceV_eq (x : V) (k : V → Prop) : forceV x k = k x := by
  cases x with
  | d x => cases x <;> rfl
  | _ => rfl
noncomputable def forceL (l : List V) : (List V → Prop) → Prop :=
  @List.rec V (fun _ => (List V → Prop) → Prop) (fun k => k []) (fun x _ ih k => forceV x fun x => ih fun l => k (x :: l)) l
theorem forceL_eq : ∀ (l : List V) (k : List V → Prop), forceL l k = k l
  | [], k => rfl
  | x :: l, k => by
    show forceV x (fun x => forceL l fun l => k (x :: l)) = _
    rw [forceV_eq, forceL_eq l]
def fillStep (place : Nat → Option (Nat × Nat)) (i : Nat) (v : V) (cells : List V) (k : List V → Prop) (R : Prop) : Prop := match place i with
  | none => R
  | some (off, size) => bsel (decide ((cellsV v).length = size) && decide (off + size ≤ cells.length) && (cellsV v).all V.oneC) (forceL (setsV cells off (cellsV v)) k) R
noncomputable def fillK (place : Nat → Option (Nat × Nat)) (parts : List (Nat × V)) : List V → (List V → Prop) → Prop → Prop :=
  @List.rec (Nat × V) (fun _ => List V → (List V → Prop) → Prop → Prop) (fun cells k R => k cells) (fun p _ ih cells k R => forceV p.2 fun v => fillStep place p.1 v cells (fun c => ih c k R) R) parts
theorem fillK_eq (place : Nat → Option (Nat × Nat)) : ∀ (parts : List (Nat × V)) (cells : List V) (k : List V → Prop) (R : Prop), fillK place parts cells k R = match fillV place cells parts with | some r => k r | none => R
  | [], cells, k, R => rfl
  | (i, v) :: l, cells, k, R => by
    show forceV v (fun v => fillStep place i v cells (fun c => fillK place l c k R) R) = _
    rw [forceV_eq, fillStep, fillV]
    cases place i with
    | none => rfl
    | some p =>
      obtain ⟨off, size⟩ := p
      dsimp only
      by_cases hc : (cellsV v).length = size ∧ off + size ≤ cells.length ∧ (cellsV v).all V.oneC = true
      · rw [if_pos hc, ← fillK_eq place l]
        have e : (decide ((cellsV v).length = size) && decide (off + size ≤ cells.length) && (cellsV v).all V.oneC) = true := by simp only [Bool.and_eq_true, decide_eq_true_eq]; exact ⟨⟨hc.1, hc.2.1⟩, hc.2.2⟩
        rw [e]
        exact forceL_eq _ _
      · rw [if_neg hc]
        have e : (decide ((cellsV v).length = size) && decide (off + size ≤ cells.length) && (cellsV v).all V.oneC) = false := by
          rw [← Bool.not_eq_true]; simp only [Bool.and_eq_true, decide_eq_true_eq]; exact fun t => hc ⟨t.1.1, t.1.2, t.2⟩
        rw [e]
        rfl
def dOf (x : V) (k : D → Prop) (R : Prop) : Prop := match toD x with
  | some d => k d
  | none => R
noncomputable def toDsK (l : List V) : (List D → Prop) → Prop → Prop :=
  @List.rec V (fun _ => (List D → Prop) → Prop → Prop) (fun k R => k []) (fun x _ ih k R => dOf x (fun d => ih (fun ds => k (d :: ds)) R) R) l
theorem toDsK_eq : ∀ (l : List V) (k : List D → Prop) (R : Prop), toDsK l k R = match l.mapM toD with | some ds => k ds | none => R
  | [], k, R => rfl
  | x :: l, k, R => by
    show dOf x (fun d => toDsK l (fun ds => k (d :: ds)) R) R = _
    rw [dOf]
    cases hx : toD x with
    | none => simp [List.mapM_cons, hx]
    | some d =>
      dsimp only
      rw [toDsK_eq l]
      cases hm : l.mapM toD with
      | none => simp [List.mapM_cons, hx, hm]
      | some ds => simp [List.mapM_cons, hx, hm]

def exPure (P : Program) (T : Tab) (o : Oper) (g : Nat → V) (H : List O) (K : V → List O → Prop) : Prop :=
  match o.op with
  | .move x => K (evO g x) H
  | .assign x => K (evO g x) H
  | .pick c a b => match evO g c with
    | .d (.lit (.bool t)) => bsel t (K (evO g a) H) (K (evO g b) H)
    | _ => raw P o g H K
  | .alloc t => match T t with
    | some i => match i.zero with
      | some z => chk ((cellsV z).all V.oneC) (K (.bx H.length 0) (H ++ [.row t (cellsV z)]))
      | none => raw P o g H K
    | none => raw P o g H K
  | .box t x => chk ((cellsV (evO g x)).all V.oneC) (K (.bx H.length 0) (H ++ [.row t (cellsV (evO g x))]))
  | .load t a => match T t with
    | some i => match loadA i.k.agg i.size H (evO g a) with
      | some r => K r H
      | none => raw P o g H K
    | none => raw P o g H K
  | .store t a x => match T t, evO g a with
    | some i, .bx id off => match H[id]? with
      | some (.row ty cells) => chk ((cellsV (evO g x)).all V.oneC && decide ((cellsV (evO g x)).length = i.size) && decide (off + i.size ≤ cells.length)) (K (.d (.lit undef)) (H.set id (.row ty (setsV cells off (cellsV (evO g x))))))
      | _ => raw P o g H K
    | _, _ => raw P o g H K
  | .nilCheck x => match evO g x with
    | .bx _ _ => K (evO g x) H
    | .rp _ => K (evO g x) H
    | .fn (.func _) _ _ => K (evO g x) H
    | _ => raw P o g H K
  | .binOp op xt x y _ => evalBin T g H op xt x y (raw P o g H K) K
  | .unOp op _ x => match op, evO g x with
    | .not, .d (.lit (.bool a)) => K (.d (.lit (.bool (!a)))) H
    | .neg, .d (.lit (.int k a)) => K (.d (.lit (.int k (k.wrap (0 - a))))) H
    | _, _ => raw P o g H K
  | .convert s t x => match T s, T t, evO g x with
    | some _, some j, .d (.lit (.int _ a)) => match j.k with
      | .int k' => K (.d (.lit (.int k' (k'.wrap a)))) H
      | _ => raw P o g H K
    | _, _, _ => raw P o g H K
  | .makeFunc f a c => K (.fn f (a.toList.map (evO g)) (c.toList.map (evO g))) H
  | .extract x i => match evO g x with
    | .tup vs => match vs[i]? with
      | some r => K r H
      | none => raw P o g H K
    | _ => raw P o g H K
  | .fieldAddr t x f => match fieldOf T t f, evO g x with
    | some (off, _, j), .bx id k => chk (decide (0 < j.size)) (K (.bx id (k + off)) H)
    | some (off, _, j), .rp cells => chk (decide (0 < j.size)) (K (.rp (cells.drop off)) H)
    | _, _ => raw P o g H K
  | .field t x f => match fieldOf T t f, evO g x with
    | some (off, _, j), .agg cells => match partV j.k.agg j.size cells off with
      | some r => chk (decide (off + j.size ≤ cells.length)) (K r H)
      | none => raw P o g H K
    | _, _ => raw P o g H K
  | .indexAddr t x ix => evalIndexAddr T g H t x ix (raw P o g H K) K
  | .index t x ix => evalIndex T g H t x ix (raw P o g H K) K
  | .slice t x lo hi none => evalSlice T g H t x lo hi (raw P o g H K) K
  | .build t parts => match T t with
    | some i => match i.zero with
      | some z => match i.k with
        | .struct fs => match structPl T fs with
          | some pl => fillK (fun i => pl.toArray[i]?) (parts.toList.map fun (i, x) => (i, evO g x)) (cellsV z) (fun r => chk ((cellsV z).all V.oneC) (K (.agg r) H)) (raw P o g H K)
          | none => raw P o g H K
        | .arr _ e => match T e with
          | some j => fillK (fun i => some (i * j.size, j.size)) (parts.toList.map fun (i, x) => (i, evO g x)) (cellsV z) (fun r => chk ((cellsV z).all V.oneC) (K (.agg r) H)) (raw P o g H K)
          | none => raw P o g H K
        | _ => raw P o g H K
      | none => raw P o g H K
    | none => raw P o g H K
  | .buildSlice _ 0 _ => raw P o g H K
  | .buildSlice t len parts => match sliceEl T t with
    | some (_, j) => match j.zero with
      | some z => forceL ((List.range (len * j.size)).map fun i => (cellsV z).getD (i % j.size) .any) fun c0 => fillK (fun i => some (i * j.size, j.size)) (parts.toList.map fun (i, x) => (i, evO g x)) c0
          (fun cells => toDsK cells (fun ds => chk ((cellsV z).all V.oneC && decide ((cellsV z).length = j.size) && decide (0 < len * j.size) && decide (len * j.size ≤ 16777216) && decide (cells.length = len * j.size)) (K (.xs (chunk j.size len ds)) H)) (raw P o g H K)) (raw P o g H K)
      | none => raw P o g H K
    | none => raw P o g H K
  | .call { callee := .builtin b, args := args, argTypes := ats } => builtinEv P T o g H b args.toList ats.toList K
  | _ => raw P o g H K
end
end Go.Ab

set_option linter.unusedVariables false
set_option linter.unusedSimpArgs false
namespace Go.Ab
section
variable {P : Program} {T : Tab}

theorem raw_yp {o : Oper} {g : Nat → V} {H : List O} {K : V → List O → Prop} {r : V} (h : Yp P o g H r) (k : K r H) : raw P o g H K := ⟨⟨r, H, h.yl, k⟩⟩
theorem raw_yl {o : Oper} {g : Nat → V} {H H' : List O} {K : V → List O → Prop} {r : V} (h : Yl P o g H r H') (k : K r H') : raw P o g H K := ⟨⟨r, H', h, k⟩⟩

theorem fieldOf_spec (hT : TabOk P T) {t : TypeId} {f : Nat} {off : Nat} {u : TypeId} {j : TI} (h : fieldOf T t f = some (off, u, j)) :
    ∃ fa fd, P.underlying t = some (.struct fa) ∧ fa[f]? = some fd ∧ fd.offset = off ∧ fd.type = u ∧ tiOf P u = some j := by
  unfold fieldOf at h
  cases ht : T t with
  | none => simp [ht] at h
  | some i =>
    simp only [ht] at h
    cases hk : i.k <;> simp only [hk] at h <;> try cases h
    rename_i fs
    cases hf : fs[f]? with
    | none => simp [hf] at h
    | some p =>
      obtain ⟨off', u'⟩ := p
      simp only [hf] at h
      cases hu : T u' with
      | none => simp [hu] at h
      | some j' =>
        simp [hu] at h
        obtain ⟨rfl, rfl, rfl⟩ := h
        obtain ⟨fa, h1, h2⟩ := ti_struct (hT _ _ ht) hk
        rw [← h2, List.getElem?_map] at hf
        cases hfa : fa.toList[f]? with
        | none => simp [hfa] at hf
        | some fd =>
          simp [hfa] at hf
          exact ⟨fa, fd, h1, by simpa using hfa, hf.1, hf.2, hT _ _ hu⟩

theorem sliceEl_spec (hT : TabOk P T) {t e : TypeId} {j : TI} (h : sliceEl T t = some (e, j)) : P.underlying t = some (.slice e) ∧ tiOf P e = some j := by
  unfold sliceEl at h
  cases ht : T t with
  | none => simp [ht] at h
  | some i =>
    simp only [ht] at h
    cases hk : i.k <;> simp only [hk] at h <;> try cases h
    rename_i e'
    cases hu : T e' with
    | none => simp [hu] at h
    | some j' =>
      simp [hu] at h
      obtain ⟨rfl, rfl⟩ := h
      exact ⟨ti_slice (hT _ _ ht) hk, hT _ _ hu⟩

theorem structPl_spec (hT : TabOk P T) : ∀ {fs : List (Nat × TypeId)} {pl : List (Nat × Nat)} {fa : List Field}, fa.map (fun f => (f.offset, f.type)) = fs → structPl T fs = some pl →
    fa.mapM (fun f => (P.info? f.type).map fun i => (f.offset, i.size)) = some pl
  | _, pl, [], e, h => by subst e; simp [structPl] at h; subst h; rfl
  | _, pl, f :: fa, e, h => by
    subst e
    simp only [List.map_cons, structPl] at h
    cases hu : T f.type with
    | none => simp [hu] at h
    | some i =>
      simp only [hu] at h
      cases hr : structPl T (fa.map fun f => (f.offset, f.type)) with
      | none => simp [hr] at h
      | some r =>
        simp [hr] at h
        subst h
        obtain ⟨inf, d, h1, h2, h3, h4, h5, h6⟩ := ti_parts (hT _ _ hu)
        simp [List.mapM_cons, h1, structPl_spec hT rfl hr, h4]

theorem isStr_spec (hT : TabOk P T) {t : TypeId} (h : isStr T t = true) : P.underlying t = some .string := by
  unfold isStr at h
  cases ht : T t with
  | none => simp [ht] at h
  | some i =>
    simp only [ht] at h
    cases hk : i.k <;> simp [hk] at h
    exact ti_str (hT _ _ ht) hk

theorem isBool_spec (hT : TabOk P T) {t : TypeId} (h : isBool T t = true) : P.underlying t = some .bool := by
  unfold isBool at h
  cases ht : T t with
  | none => simp [ht] at h
  | some i =>
    simp only [ht] at h
    cases hk : i.k <;> simp [hk] at h
    exact ti_bool (hT _ _ ht) hk

theorem evalLen_sound (hT : TabOk P T) {o : Oper} {g : Nat → V} {H : List O} {K : V → List O → Prop} {x : Operand} {t : TypeId} (ho : o.op = .call { callee := .builtin .len, args := #[x], argTypes := #[t] })
    (h : evalLen T g H x t (raw P o g H K) K) : raw P o g H K := by
  unfold evalLen at h
  split at h
  · rename_i i hi
    split at h
    · rename_i hk
      split at h
      · rename_i s hs; exact raw_yp (Yp.lenStr ho (ti_str (hT _ _ hi) hk) hs) h
      · exact h
    · rename_i e hk
      split at h
      · rename_i n hn; exact raw_yp (Yp.lenSlice ho (ti_slice (hT _ _ hi) hk) hn) h
      · exact h
    · exact h
  · exact h

theorem evalAppend_sound (hT : TabOk P T) {o : Oper} {g : Nat → V} {H : List O} {K : V → List O → Prop} {s x : Operand} {t : TypeId} (ho : o.op = .call { callee := .builtin .append, args := #[s, x], argTypes := #[t, t] })
    (h : evalAppend T g H s x t (raw P o g H K) K) : raw P o g H K := by
  unfold evalAppend at h
  split at h
  · rename_i e j tok rows news h1 h2 h3
    split at h
    · rename_i e' sz n z h4 h5
      obtain ⟨⟨rfl, rfl, rfl, c1, c2, c3, c4, c5, c6, c7⟩, hk⟩ := h
      obtain ⟨hs, he⟩ := sliceEl_spec hT h1
      exact raw_yl (Yl.append ho hs (ti_el he h5 c1 c2) h2 h4 h3 c3 c4 c5 c6 c7) hk
    · exact h
  · exact h

theorem evalBin_sound (hT : TabOk P T) {o : Oper} {g : Nat → V} {H : List O} {K : V → List O → Prop} {op : BinOp} {xt yt : TypeId} {x y : Operand} (ho : o.op = .binOp op xt x y yt)
    (h : evalBin T g H op xt x y (raw P o g H K) K) : raw P o g H K := by
  unfold evalBin at h
  split at h
  · rename_i k a k' b hx hy
    split at h
    · split at h
      · rename_i r hr; exact raw_yp (Yp.binShift ho hx hy hr) h
      · exact h
    · split at h
      · rename_i r hr; exact raw_yp (Yp.binShift ho hx hy hr) h
      · exact h
    · split at h
      · rename_i hk
        subst hk
        split at h
        · rename_i r hr; exact raw_yp (Yp.binInt ho hx hy hr) h
        · exact h
      · exact h
  · rename_i a b hx hy
    split at h
    · rename_i r hr; exact raw_yp (Yp.binStr ho hx hy hr) h
    · exact h
  · rename_i a b hx hy
    split at h
    · rename_i hb; exact raw_yp (Yp.eqlBool ho (isBool_spec hT hb) hx hy) h
    · rename_i hb; exact raw_yp (Yp.neqBool ho (isBool_spec hT hb) hx hy) h
    · exact h
  · exact h

theorem evalIndexAddr_sound (hT : TabOk P T) {o : Oper} {g : Nat → V} {H : List O} {K : V → List O → Prop} {t : TypeId} {x ix : Operand} (ho : o.op = .indexAddr t x ix)
    (h : evalIndexAddr T g H t x ix (raw P o g H K) K) : raw P o g H K := by
  unfold evalIndexAddr at h
  split at h
  · rename_i e j k i h1 h2
    obtain ⟨hs, he⟩ := sliceEl_spec hT h1
    split at h
    · rename_i id off len h3
      obtain ⟨hc, hk⟩ := chk_elim h
      simp at hc
      exact raw_yp (Yp.indexAddrOwn ho hs (ti_is he) h3 h2 hc.1 hc.2) hk
    · split at h
      · rename_i rows h4
        obtain ⟨c1, c2, c3, c4, hk⟩ := h
        exact raw_yp (Yp.indexAddr ho hs (ti_is he) h4 h2 c1 c2 c3 c4) hk
      · exact h
  · exact h

theorem evalIndex_sound (hT : TabOk P T) {o : Oper} {g : Nat → V} {H : List O} {K : V → List O → Prop} {t : TypeId} {x ix : Operand} (ho : o.op = .index t x ix)
    (h : evalIndex T g H t x ix (raw P o g H K) K) : raw P o g H K := by
  unfold evalIndex at h
  split at h
  · rename_i ti k i h1 h2
    split at h
    · rename_i s hk hx
      obtain ⟨h0, hlt, hk'⟩ := h
      exact raw_yp (Yp.indexStr ho (ti_str (hT _ _ h1) hk) hx h2 h0 hlt) hk'
    · rename_i len e cells hk hx
      split at h
      · rename_i j he
        obtain ⟨hc, h⟩ := chk_elim h
        obtain ⟨hc', h⟩ := chk_elim h
        simp at hc hc'
        split at h
        · rename_i r hr
          exact raw_yp (Yp.indexArr ho (ti_arr (hT _ _ h1) hk) (ti_is (hT _ _ he)) hx h2 hc.1 hc.2 hr hc') h
        · exact h
      · exact h
    · exact h
  · exact h

theorem evalSlice_sound (hT : TabOk P T) {o : Oper} {g : Nat → V} {H : List O} {K : V → List O → Prop} {t : TypeId} {x : Operand} {lo hi : Option Operand} (ho : o.op = .slice t x lo hi none)
    (h : evalSlice T g H t x lo hi (raw P o g H K) K) : raw P o g H K := by
  unfold evalSlice at h
  split at h
  · rename_i s a hst hx
    split at h
    · rename_i k l hl
      obtain ⟨hc, hk⟩ := chk_elim h
      simp at hc
      exact raw_yp (Yp.sliceStr (l := l.toNat) (h := s.size) ho (isStr_spec hT hst) hx ⟨k, by rw [hl, Int.toNat_of_nonneg hc.1]⟩ rfl (by omega) (Nat.le_refl _)) hk
    · exact h
  · rename_i s b hst hx
    split at h
    · rename_i k l hl
      obtain ⟨hc, hk⟩ := chk_elim h
      simp at hc
      exact raw_yp (Yp.sliceStr (l := 0) (h := l.toNat) ho (isStr_spec hT hst) hx rfl ⟨k, by rw [hl, Int.toNat_of_nonneg hc.1]⟩ (Nat.zero_le _) (by omega)) hk
    · exact h
  · exact h

theorem builtinEv_sound (hT : TabOk P T) {o : Oper} {g : Nat → V} {H : List O} {K : V → List O → Prop} {b : Builtin} {args : Array Operand} {ats : Array TypeId} (ho : o.op = .call { callee := .builtin b, args := args, argTypes := ats })
    (h : builtinEv P T o g H b args.toList ats.toList K) : raw P o g H K := by
  unfold builtinEv at h
  split at h
  · rename_i x t ha ht
    have e1 : args = #[x] := by apply Array.ext'; simpa using ha
    have e2 : ats = #[t] := by apply Array.ext'; simpa using ht
    subst e1; subst e2
    exact evalLen_sound hT ho h
  · rename_i s x t u ha ht
    have e1 : args = #[s, x] := by apply Array.ext'; simpa using ha
    have e2 : ats = #[t, u] := by apply Array.ext'; simpa using ht
    subst e1; subst e2
    split at h
    · rename_i e; subst e; exact evalAppend_sound hT ho h
    · exact h
  · rename_i x y ha
    have e1 : args = #[x, y] := by apply Array.ext'; simpa using ha
    subst e1
    split at h
    · rename_i k a k' b hx hy
      split at h
      · rename_i e; subst e; exact raw_yp (Yp.max2 ho hx hy) h
      · exact h
    · exact h
  · rename_i x y ha
    have e1 : args = #[x, y] := by apply Array.ext'; simpa using ha
    subst e1
    split at h
    · rename_i k a k' b hx hy
      split at h
      · rename_i e; subst e; exact raw_yp (Yp.min2 ho hx hy) h
      · exact h
    · exact h
  · exact h

theorem exPure_sound (hT : TabOk P T) {o : Oper} {g : Nat → V} {H : List O} {K : V → List O → Prop} (h : exPure P T o g H K) : raw P o g H K := by
  unfold exPure at h
  split at h
  · rename_i x ho; exact raw_yp (Yp.move (.inl ho)) h
  · rename_i x ho; exact raw_yp (Yp.move (.inr ho)) h
  · rename_i c a b ho
    split at h
    · rename_i t hc
      have hp := Yp.pick (P := P) (g := g) (H := H) t ho hc
      rcases bsel_elim h with ⟨e, h⟩ | ⟨e, h⟩ <;> subst e <;> exact raw_yp hp h
    · exact h
  · rename_i t ho
    split at h
    · rename_i i hi
      split at h
      · rename_i z hz
        obtain ⟨hc, hk⟩ := chk_elim h
        exact raw_yl (Yl.alloc ho (ti_zero (hT _ _ hi) hz) hc) hk
      · exact h
    · exact h
  · rename_i t x ho
    obtain ⟨hc, hk⟩ := chk_elim h
    exact raw_yl (Yl.box ho hc) hk
  · rename_i t a ho
    split at h
    · rename_i i hi
      split at h
      · rename_i r hr; exact raw_yp (Yp.load ho (ti_is (hT _ _ hi)) hr) h
      · exact h
    · exact h
  · rename_i t a x ho
    split at h
    · rename_i i id off hi ha
      split at h
      · rename_i ty cells hH
        obtain ⟨hc, hk⟩ := chk_elim h
        simp only [Bool.and_eq_true, decide_eq_true_eq] at hc
        exact raw_yl (Yl.store ho (ti_is (hT _ _ hi)) ha hH hc.1.1 hc.1.2 hc.2) hk
      · exact h
    · exact h
  · rename_i x ho
    split at h
    · rename_i i k hx; exact raw_yp (Yp.nilCheck ho (.inl ⟨_, _, hx⟩)) h
    · rename_i c hx; exact raw_yp (Yp.nilCheck ho (.inr (.inl ⟨_, hx⟩))) h
    · rename_i k a c hx; exact raw_yp (Yp.nilCheck ho (.inr (.inr ⟨_, _, _, hx⟩))) h
    · exact h
  · rename_i op xt x y yt ho; exact evalBin_sound hT ho h
  · rename_i op t x ho
    split at h
    · rename_i a hx; exact raw_yp (Yp.not ho hx) h
    · rename_i k a hx; exact raw_yp (Yp.neg ho hx) h
    · exact h
  · rename_i s t x ho
    split at h
    · rename_i i j k a hi hj hx
      split at h
      · rename_i k' hk
        obtain ⟨inf, d, h1, h2, h3⟩ := ti_parts (hT _ _ hi)
        exact raw_yp (Yp.convInt ho h2 (ti_int (hT _ _ hj) hk) hx) h
      · exact h
    · exact h
  · rename_i f a c ho; exact raw_yp (Yp.makeFunc ho) h
  · rename_i x i ho
    split at h
    · rename_i vs hx
      split at h
      · rename_i r hr; exact raw_yp (Yp.extract ho hx hr) h
      · exact h
    · exact h
  · rename_i t x f ho
    split at h
    · rename_i off u j id k hf hx
      obtain ⟨fa, fd, h1, h2, h3, h4, h5⟩ := fieldOf_spec hT hf
      obtain ⟨hc, hk⟩ := chk_elim h
      simp at hc
      subst h3; subst h4
      exact raw_yp (Yp.fieldAddrBx ho h1 h2 (ti_is h5) hc hx) hk
    · rename_i off u j cells hf hx
      obtain ⟨fa, fd, h1, h2, h3, h4, h5⟩ := fieldOf_spec hT hf
      obtain ⟨hc, hk⟩ := chk_elim h
      simp at hc
      subst h3; subst h4
      exact raw_yp (Yp.fieldAddrRp ho h1 h2 (ti_is h5) hc hx) hk
    · exact h
  · rename_i t x f ho
    split at h
    · rename_i off u j cells hf hx
      obtain ⟨fa, fd, h1, h2, h3, h4, h5⟩ := fieldOf_spec hT hf
      subst h3; subst h4
      split at h
      · rename_i r hr
        obtain ⟨hc, hk⟩ := chk_elim h
        simp at hc
        exact raw_yp (Yp.field ho h1 h2 (ti_is h5) hx hr hc) hk
      · exact h
    · exact h
  · rename_i t x ix ho; exact evalIndexAddr_sound hT ho h
  · rename_i t x ix ho; exact evalIndex_sound hT ho h
  · rename_i t x lo hi ho; exact evalSlice_sound hT ho h
  · rename_i t parts ho
    split at h
    · rename_i i hi
      split at h
      · rename_i z hz
        split at h
        · rename_i fs hk
          split at h
          · rename_i pl hpl
            rw [fillK_eq] at h
            split at h
            · rename_i r hr
              obtain ⟨hc, hkk⟩ := chk_elim h
              obtain ⟨fa, h1, h2⟩ := ti_struct (hT _ _ hi) hk
              exact raw_yp (Yp.buildStruct ho (ti_zero (hT _ _ hi) hz) hc (by unfold placesOf; rw [h1]; exact structPl_spec hT h2 hpl) hr) hkk
            · exact h
          · exact h
        · rename_i len e hk
          split at h
          · rename_i j he
            rw [fillK_eq] at h
            split at h
            · rename_i r hr
              obtain ⟨hc, hkk⟩ := chk_elim h
              exact raw_yp (Yp.buildArr ho (ti_zero (hT _ _ hi) hz) hc (ti_arr (hT _ _ hi) hk) (ti_is (hT _ _ he)) hr) hkk
            · exact h
          · exact h
        · exact h
      · exact h
    · exact h
  · exact h
  · rename_i t len parts hne ho
    split at h
    · rename_i e j hs
      obtain ⟨hsl, he⟩ := sliceEl_spec hT hs
      split at h
      · rename_i z hz
        rw [forceL_eq, fillK_eq] at h
        split at h
        · rename_i cells hcells
          rw [toDsK_eq] at h
          split at h
          · rename_i ds hds
            obtain ⟨hc, hk⟩ := chk_elim h
            simp only [Bool.and_eq_true, decide_eq_true_eq] at hc
            obtain ⟨⟨⟨⟨c1, c2⟩, c3⟩, c4⟩, c5⟩ := hc
            exact raw_yl (Yl.buildSlice ho hsl (ti_is he) (ti_zero he hz) c1 c2 c3 c4 hcells hds c5) hk
          · exact h
        · exact h
      · exact h
    · exact h
  · rename_i b args ats ho; exact builtinEv_sound hT ho h
  · exact h

/-! ### Operations in a row, code -/
def callOf : Op → Option (Operand × Array Operand)
  | .call { callee := .value f, args := args, argTypes := _ } => some (f, args)
  | _ => none
theorem callOf_spec {op : Op} {f : Operand} {args : Array Operand} (h : callOf op = some (f, args)) : ∃ ats, op = .call { callee := .value f, args := args, argTypes := ats } := by
  unfold callOf at h
  split at h
  · rename_i f' a' ats; cases h; exact ⟨ats, rfl⟩
  · cases h

def fnOf : V → Option (FuncId × List V × List V)
  | .fn (.func k) first cap => some (k, first, cap)
  | _ => none
theorem fnOf_spec {x : V} {k : FuncId} {first cap : List V} (h : fnOf x = some (k, first, cap)) : x = .fn (.func k) first cap := by
  unfold fnOf at h
  split at h
  · cases h; rfl
  · cases h

/-- A call, or an operation by itself. -/
def exOp (P : Program) (T : Tab) (o : Oper) (g : Nat → V) (H : List O) (K : V → List O → Prop) : Prop :=
  match callOf o.op with
  | some (f, args) => match fnOf (evO g f) with
    | some (k, first, cap) => SCall P k (first ++ (args.toList.map (evO g) ++ cap)) H K
    | none => False
  | none => exPure P T o g H K

def guardV (ops : Array Oper) (g : Nat → V) (j : Nat) : Option (Nat × Bool) :=
  match (ops[j]?).bind (·.dst) with
  | some t => match g t with
    | .d (.lit (.bool b)) => some (t, b)
    | _ => none
  | none => none

def skipV (ops : Array Oper) (g : Nat → V) (j : Nat) : Bool :=
  match (ops[j]?).bind (·.dst) with
  | some t => match g t with
    | .d (.lit (.tuple _)) => true
    | _ => false
  | none => false
theorem skipV_spec {ops : Array Oper} {g : Nat → V} {j : Nat} (h : skipV ops g j = true) : ∃ t c, (ops[j]?).bind (·.dst) = some t ∧ g t = .d (.lit (.tuple c)) := by
  unfold skipV at h
  split at h
  · rename_i t ht
    split at h
    · rename_i c hc
      exact ⟨t, c, ht, hc⟩
    · cases h
  · cases h

def exOps (P : Program) (T : Tab) (ops : Array Oper) : List Oper → St → (St → Prop) → Prop
  | [], s, K => K s
  | o :: l, s, K =>
    match o.guard with
    | none => exOp P T o s.get s.hp (fun r H' => exOps P T ops l ((s.heap H').put o.dst r) K)
    | some (j, want) => match guardV ops s.get j with
      | some (t, b) => bsel (b == want)
          (exOp P T o (s.put (some t) (.d (.lit (.bool want)))).get s.hp (fun r H' => exOps P T ops l (((s.put (some t) (.d (.lit (.bool want)))).heap H').put o.dst r) K))
          (exOps P T ops l ((s.put (some t) (.d (.lit (.bool (!want))))).put o.dst (.d (.lit undef))) K)
      | none => bsel (skipV ops s.get j) (exOps P T ops l (s.put o.dst (.d (.lit undef))) K) (SOps P ops (o :: l) s K)

theorem raw_sop {o : Oper} {s : St} {K : V → List O → Prop} (h : raw P o s.get s.hp K) : SOp P o s (fun s' => ∃ r H', K r H' ∧ s' = (s.heap H').put o.dst r) := by
  obtain ⟨⟨r, H', hy, hk⟩⟩ := h
  exact SOp.of_yl hy ⟨r, H', hk, rfl⟩

theorem exOp_sound (hT : TabOk P T) {o : Oper} {s : St} {K : V → List O → Prop} (h : exOp P T o s.get s.hp K) : SOp P o s (fun s' => ∃ r H', K r H' ∧ s' = (s.heap H').put o.dst r) := by
  unfold exOp at h
  split at h
  · rename_i f args hco
    obtain ⟨ats, ho⟩ := callOf_spec hco
    split at h
    · rename_i k first cap hf
      refine SOp.call ho (fnOf_spec hf) ?_
      rw [List.append_assoc]
      exact h.mono fun r H' hk => ⟨r, H', hk, rfl⟩
    · exact h.elim
  · exact raw_sop (exPure_sound hT h)

theorem put_same_sub {s : St} {t : Nat} {v : V} (h : s.get t = v) : s.sub (s.put (some t) v) := by
  refine ⟨(St.n_put s _ _).symm, (St.hp_put s _ _).symm, fun u => ?_⟩
  rw [St.get_put]
  by_cases hu : u = t
  · subst hu
    unfold putG
    dsimp only
    split
    · show EntV _ (if u = u then v else s.get u)
      rw [if_pos rfl, h]; exact .refl _
    · exact .refl _
  · rw [putG_ne (by simp; exact fun e => hu e.symm)]
    exact .refl _

theorem SOps.sub {ops : Array Oper} {l : List Oper} {s s' : St} {K : St → Prop} (k : s.sub s') (h : SOps P ops l s' K) : SOps P ops l s K :=
  fun F M w a rel Q hq => h F M w a (rel.sub k) Q hq

theorem exOps_sound (hT : TabOk P T) {ops : Array Oper} : ∀ {l : List Oper} {s : St} {K : St → Prop}, exOps P T ops l s K → SOps P ops l s K
  | [], s, K, h => SOps.nil h
  | o :: l, s, K, h => by
    simp only [exOps] at h
    split at h
    · rename_i hg
      refine SOps.cons hg ((exOp_sound hT h).mono ?_)
      rintro s' ⟨r, H', hk, rfl⟩
      exact exOps_sound hT hk
    · rename_i j want hg
      split at h
      · rename_i t b hgv
        have hspec : (ops[j]?).bind (·.dst) = some t ∧ s.get t = .d (.lit (.bool b)) := by
          unfold guardV at hgv
          split at hgv
          · rename_i t' ht'
            split at hgv
            · rename_i b' hb'
              cases hgv
              exact ⟨ht', hb'⟩
            · cases hgv
          · cases hgv
        obtain ⟨ht, hb⟩ := hspec
        rcases bsel_elim h with ⟨e, h2⟩ | ⟨e, h2⟩
        · have e' : b = want := by simpa using e
          subst e'
          have hsub := put_same_sub (s := s) hb
          refine SOps.sub hsub (SOps.cons_yes hg ht ?_ ?_)
          · have hn : (s.put (some t) (.d (.lit (.bool b)))).get t = s.get t := by
              rw [St.get_put]; unfold putG; dsimp only
              split
              · show (if t = t then _ else _) = _; rw [if_pos rfl, hb]
              · rfl
            rw [hn, hb]
          · have h' : exOp P T o (s.put (some t) (.d (.lit (.bool b)))).get (s.put (some t) (.d (.lit (.bool b)))).hp (fun r H' => exOps P T ops l (((s.put (some t) (.d (.lit (.bool b)))).heap H').put o.dst r) K) := by
              rw [St.hp_put]; exact h2
            refine (exOp_sound hT h').mono ?_
            rintro s' ⟨r, H', hk, rfl⟩
            exact exOps_sound hT hk
        · have e' : b = !want := by cases b <;> cases want <;> simp at e ⊢
          subst e'
          have hsub := put_same_sub (s := s) hb
          refine SOps.sub hsub (SOps.cons_no hg ht ?_ (exOps_sound hT h2))
          have hn : (s.put (some t) (.d (.lit (.bool (!want))))).get t = s.get t := by
            rw [St.get_put]; unfold putG; dsimp only
            split
            · show (if t = t then _ else _) = _; rw [if_pos rfl, hb]
            · rfl
          rw [hn, hb]
      · rcases bsel_elim h with ⟨e, h2⟩ | ⟨e, h2⟩
        · obtain ⟨t, c, ht, hc⟩ := skipV_spec e
          exact SOps.cons_skip hg ht hc (exOps_sound hT h2)
        · exact h2

/-! The same in a region that draws. -/
def exOpQ (P : Program) (T : Tab) (o : Oper) (g : Nat → V) (H : List O) (K : V → Prop) : Prop :=
  match callOf o.op with
  | some (f, args) => match fnOf (evO g f) with
    | some (k, first, cap) => ∃ r, HCall P k (first ++ (args.toList.map (evO g) ++ cap)) H r ∧ K r
    | none => False
  | none => exPure P T o g H (fun r H' => H' = H ∧ K r)

theorem exOpQ_sound (hT : TabOk P T) {o : Oper} {g : Nat → V} {H : List O} {K : V → Prop} (h : exOpQ P T o g H K) : ∃ r, Yc P o g H r ∧ K r := by
  unfold exOpQ at h
  split at h
  · rename_i f args hco
    obtain ⟨ats, ho⟩ := callOf_spec hco
    split at h
    · rename_i k first cap hf
      obtain ⟨r, hc, hk⟩ := h
      exact ⟨r, .inr ⟨f, args, ats, k, first, cap, ho, fnOf_spec hf, by rw [List.append_assoc]; exact hc⟩, hk⟩
    · exact h.elim
  · obtain ⟨⟨r, H', hy, rfl, hk⟩⟩ := exPure_sound hT h
    exact ⟨r, .inl hy, hk⟩

def exOpsQ (P : Program) (T : Tab) (ops : Array Oper) : List Oper → St → (St → Prop) → Prop
  | [], s, K => K s
  | o :: l, s, K =>
    match o.guard with
    | none => exOpQ P T o (mask o s.get) s.hp (fun r => exOpsQ P T ops l (s.put o.dst r) K)
    | some (j, want) => match guardV ops s.get j with
      | some (t, b) => bsel (b == want)
          (exOpQ P T o (mask o (s.put (some t) (.d (.lit (.bool want)))).get) s.hp (fun r => exOpsQ P T ops l ((s.put (some t) (.d (.lit (.bool want)))).put o.dst r) K))
          (exOpsQ P T ops l ((s.put (some t) (.d (.lit (.bool (!want))))).put o.dst (.d (.lit undef))) K)
      | none => bsel (skipV ops s.get j) (exOpsQ P T ops l (s.put o.dst (.d (.lit undef))) K) False

theorem get_put_same {s : St} {t : Nat} {v : V} (h : s.get t = v) : (s.put (some t) v).get = s.get := by
  rw [St.get_put]
  funext u
  by_cases hu : u = t
  · subst hu
    unfold putG; dsimp only
    split
    · show (if u = u then v else s.get u) = _; rw [if_pos rfl, h]
    · rfl
  · exact putG_ne (by simp; exact fun e => hu e.symm)

theorem exOpsQ_sound (hT : TabOk P T) {ops : Array Oper} : ∀ {l : List Oper} {s : St} {K : St → Prop}, exOpsQ P T ops l s K →
    ∃ zs : List (Oper × V), zs.map (·.1) = l ∧ QRun P ops s.n s.hp zs s.get ∧ ∃ s', K s' ∧ s'.n = s.n ∧ s'.hp = s.hp ∧ ∀ k, s'.get = gF s.n (fun _ => true) k zs s.get
  | [], s, K, h => ⟨[], rfl, trivial, s, h, rfl, rfl, fun _ => rfl⟩
  | o :: l, s, K, h => by
    simp only [exOpsQ] at h
    split at h
    · rename_i hg
      obtain ⟨r, hy, hk⟩ := exOpQ_sound hT h
      obtain ⟨zs, hz, hq, s', hks, hn, hh, hgg⟩ := exOpsQ_sound hT hk
      rw [St.n_put, St.hp_put, St.get_put] at hq
      rw [St.n_put] at hn
      rw [St.hp_put] at hh
      refine ⟨(o, r) :: zs, by simp [hz], ⟨.plain hg hy, hq⟩, s', hks, hn, hh, fun k => ?_⟩
      rw [hgg (k + 1), St.n_put, St.get_put]
      rfl
    · rename_i j want hg
      split at h
      · rename_i t b hgv
        have hspec : (ops[j]?).bind (·.dst) = some t ∧ s.get t = .d (.lit (.bool b)) := by
          unfold guardV at hgv
          split at hgv
          · rename_i t' ht'
            split at hgv
            · rename_i b' hb'
              cases hgv
              exact ⟨ht', hb'⟩
            · cases hgv
          · cases hgv
        obtain ⟨ht, hb⟩ := hspec
        rcases bsel_elim h with ⟨e, h2⟩ | ⟨e, h2⟩
        · have e' : b = want := by simpa using e
          subst e'
          have hsame := get_put_same (s := s) hb
          rw [hsame] at h2
          obtain ⟨r, hy, hk⟩ := exOpQ_sound hT h2
          obtain ⟨zs, hz, hq, s', hks, hn, hh, hgg⟩ := exOpsQ_sound hT hk
          rw [St.n_put, St.hp_put, St.get_put, St.n_put, St.hp_put, hsame] at hq
          rw [St.n_put, St.n_put] at hn
          rw [St.hp_put, St.hp_put] at hh
          refine ⟨(o, r) :: zs, by simp [hz], ⟨.yes hg ht hb hy, hq⟩, s', hks, hn, hh, fun k => ?_⟩
          rw [hgg (k + 1), St.n_put, St.n_put, St.get_put, St.n_put, hsame]
          rfl
        · have e' : b = !want := by cases b <;> cases want <;> simp at e ⊢
          subst e'
          have hsame := get_put_same (s := s) hb
          obtain ⟨zs, hz, hq, s', hks, hn, hh, hgg⟩ := exOpsQ_sound hT h2
          rw [St.n_put, St.hp_put, St.get_put, St.n_put, St.hp_put, hsame] at hq
          rw [St.n_put, St.n_put] at hn
          rw [St.hp_put, St.hp_put] at hh
          refine ⟨(o, .d (.lit undef)) :: zs, by simp [hz], ⟨.no hg ht hb rfl, hq⟩, s', hks, hn, hh, fun k => ?_⟩
          rw [hgg (k + 1), St.n_put, St.n_put, St.get_put, St.n_put, hsame]
          rfl
      · rcases bsel_elim h with ⟨e, h2⟩ | ⟨e, h2⟩
        · obtain ⟨t, c, ht, hc⟩ := skipV_spec e
          obtain ⟨zs, hz, hq, s', hks, hn, hh, hgg⟩ := exOpsQ_sound hT h2
          rw [St.n_put, St.hp_put, St.get_put] at hq
          rw [St.n_put] at hn
          rw [St.hp_put] at hh
          refine ⟨(o, .d (.lit undef)) :: zs, by simp [hz], ⟨.skip hg ht hc rfl, hq⟩, s', hks, hn, hh, fun k => ?_⟩
          rw [hgg (k + 1), St.n_put, St.get_put]
          rfl
        · exact h2.elim

def boolOf : V → Option Bool
  | .d (.lit (.bool t)) => some t
  | _ => none
theorem boolOf_spec {x : V} {t : Bool} (h : boolOf x = some t) : x = .d (.lit (.bool t)) := by
  unfold boolOf at h
  split at h
  · cases h; rfl
  · cases h

/-- Does an operation make or change one of the call's own things? -/
def effO (o : Oper) : Bool := match o.op with
  | .alloc _ => true
  | .store _ _ _ => true
  | _ => false
def effD (ops : Array Oper) : Bool := ops.toList.any effO
def ex (P : Program) (T : Tab) : Code → St → (Exit → St → Prop) → Prop
  | .skip, s, Q => Q .normal s
  | .label _, s, Q => Q .normal s
  | .exit id, s, Q => Q (.exit id) s
  | .goto l, s, Q => Q (.goto l) s
  | .ret, s, Q => Q .ret s
  | .seq a b, s, Q => ex P T a s (thenS (fun s' => ex P T b s' Q) Q)
  | .block id c, s, Q => ex P T c s (blockS id Q)
  | .cond c a b, s, Q => match boolOf (s.ev c) with
    | some t => bsel t (ex P T a s Q) (ex P T b s Q)
    | none => False
  | .region id ops false, s, Q => exOps P T ops ops.toList s (Q .normal)
  | .region id ops true, s, Q => match effD ops with
    | true => SExec P (.region id ops true) s Q
    | false => okDraw ops = true ∧ exOpsQ P T ops ops.toList s (Q .normal)
  | c, s, Q => SExec P c s Q

theorem thenS_mono {K K' : St → Prop} {Q : Exit → St → Prop} (h : ∀ s, K s → K' s) : ∀ e s, thenS K Q e s → thenS K' Q e s := by
  intro e s
  cases e <;> first | exact h s | exact id

theorem ex_sound (hT : TabOk P T) (hm : P.follows .mixedOrders = true) : ∀ {c : Code} {s : St} {Q : Exit → St → Prop}, ex P T c s Q → SExec P c s Q := by
  intro c
  induction c with
  | skip => exact fun h => .skip h
  | label l => exact fun h => .label h
  | exit id => exact fun h => .exit h
  | goto l => exact fun h => .goto h
  | ret => exact fun h => .ret h
  | seq a b iha ihb => exact fun h => .seq ((iha h).mono (thenS_mono fun s hs => ihb hs))
  | block id c ih => exact fun h => .block (ih h)
  | cond c a b iha ihb =>
    intro s Q h
    simp only [ex] at h
    split at h
    · rename_i t ht
      have h := bsel_elim h
      refine .cond t (boolOf_spec ht) (fun e => ?_) (fun e => ?_)
      · subst e; rcases h with ⟨_, h⟩ | ⟨h, _⟩; exact iha h; cases h
      · subst e; rcases h with ⟨h, _⟩ | ⟨_, h⟩; cases h; exact ihb h
    · exact h.elim
  | region id ops draw =>
    intro s Q h
    cases draw with
    | false => exact .region (exOps_sound hT h)
    | true =>
      simp only [ex] at h
      split at h
      · exact h
      obtain ⟨hok, h⟩ := h
      obtain ⟨zs, hz, hq, s', hk, hn, hh, hg⟩ := exOpsQ_sound hT h
      exact .region_draw hm hok zs hz hq s' hn hh (fun t => by rw [hg 0]; exact .refl _) hk
  | loop c _ => exact fun h => h
  | rangeFunc f ps a b _ _ => exact fun h => h
  | scope c _ => exact fun h => h
  | refuse w => exact fun h => h
end
end Go.Ab

set_option linter.unusedVariables false
set_option linter.unusedSimpArgs false
namespace Go.Ab
section
variable {P : Program} {T : Tab}

/-! ### Letting go of what was made on the way -/
mutual
def V.lt (n : Nat) : V → Bool
  | .gs t _ => decide (t < n)
  | .bx id _ => decide (id < n)
  | .hs id _ _ => decide (id < n)
  | .agg cs => lts n cs
  | .tup cs => lts n cs
  | .fn _ a c => lts n a && lts n c
  | _ => true
def lts (n : Nat) : List V → Bool
  | [] => true
  | x :: l => x.lt n && lts n l
end

theorem lts_getD {n : Nat} : ∀ {l : List V} {j : Nat}, lts n l = true → (l.getD j .any).lt n = true
  | [], j, _ => by simp [V.lt]
  | x :: l, 0, h => by simp [lts] at h; exact h.1
  | x :: l, j + 1, h => by simp [lts] at h; simpa using lts_getD h.2

theorem Rep.take {F : Mem} {M : Pls} {v : Value} {x : V} (h : Rep F M v x) (n : Nat) : x.lt n = true → Rep F (M.take n) v x := by
  induction h with
  | any v => exact fun _ => .any v
  | d h => exact fun _ => .d h
  | gs h ht hle hv => intro hl; simp [V.lt] at hl; exact .gs h (by rw [List.getElem?_take, if_pos hl]; exact ht) hle hv
  | bx off h => intro hl; simp [V.lt] at hl; exact .bx off (by rw [List.getElem?_take, if_pos hl]; exact h)
  | rp a cells vals hf hr => exact fun _ => .rp a cells vals hf hr
  | xs h => exact fun _ => .xs h
  | hs off len cap h hl' => intro hl; simp [V.lt] at hl; exact .hs off len cap (by rw [List.getElem?_take, if_pos hl]; exact h) hl'
  | agg cs cells hs hr ih => intro hl; simp [V.lt] at hl; exact .agg cs cells hs fun j hj => ih j hj (lts_getD hl)
  | fn f a c first captured ha hc hra hrc iha ihc =>
    intro hl; simp [V.lt] at hl
    exact .fn f a c first captured ha hc (fun j hj => iha j hj (lts_getD hl.1)) (fun j hj => ihc j hj (lts_getD hl.2))
  | tup cs cells hs hr ih => intro hl; simp [V.lt] at hl; exact .tup cs cells hs fun j hj => ih j hj (lts_getD hl)

def O.lt (n : Nat) : O → Bool
  | .row _ cells => lts n cells
  | _ => true
def hpLt (n : Nat) (H : List O) : Bool := H.all (O.lt n)

theorem ObjRep.take {F : Mem} {M : Pls} {w : World} {o : O} {p : Pl} (h : ObjRep F M w o p) (n : Nat) (hl : o.lt n = true) : ObjRep F (M.take n) w o p := by
  cases h with
  | row ty cells blk c hc hs hr h1 hF => exact .row ty cells blk c hc hs (fun j hj => (hr j hj).take n (lts_getD hl)) h1 hF
  | nil ty sz => exact .nil ty sz
  | tok ty sz m blk cap c hc hs hn hcap hpre hF => exact .tok ty sz m blk cap c hc hs hn hcap hpre hF
  | dead p => exact .dead p

theorem Inv.take {F : Mem} {M : Pls} {w : World} {H extra : List O} (hi : Inv F M w (H ++ extra)) (hl : hpLt H.length H = true) : Inv F (M.take H.length) w H := by
  have hM : M.length = H.length + extra.length := by rw [hi.len]; simp
  have hm : ∀ (i : Nat) (p : Pl), (M.take H.length)[i]? = some p → i < H.length ∧ M[i]? = some p := fun i p h => by
    rw [List.getElem?_take] at h
    split at h
    · rename_i hlt; exact ⟨hlt, h⟩
    · cases h
  have hh : ∀ (i : Nat) (o : O), H[i]? = some o → (H ++ extra)[i]? = some o := fun i o h => by
    rw [List.getElem?_append_left (List.getElem?_eq_some_iff.1 h).1]; exact h
  refine ⟨hi.cells, by simp; omega, fun i o p h1 h2 => (hi.objs i o p (hh i o h1) (hm i p h2).2).take _ ?_, fun i j o o' p p' b hne h1 h2 l1 l2 m1 m2 => hi.sep i j o o' p p' b hne (hh _ _ h1) (hh _ _ h2) l1 l2 (hm _ _ m1).2 (hm _ _ m2).2,
    fun i p b h => hi.inb i p b (hm i p h).2, hi.gnd⟩
  exact List.all_eq_true.1 hl o (List.mem_iff_getElem?.2 ⟨i, h1⟩)

theorem Ext.take {F F' : Mem} {M M' : Pls} {w w' : World} {n : Nat} (x : Ext F M w F' M' w') (hn : M.length ≤ n) : Ext F M w F' (M'.take n) w' :=
  ⟨x.fle, fun i p h => by
    obtain ⟨p', h1, h2⟩ := x.mle i p h
    have := (List.getElem?_eq_some_iff.1 h).1
    exact ⟨p', by rw [List.getElem?_take, if_pos (by omega)]; exact h1, h2⟩,
   x.size, x.os, x.tape, x.output, x.old, x.newF, fun i p b h e => by
    rw [List.getElem?_take] at h
    split at h
    · exact x.newM i p b h e
    · cases h⟩

structure St.subD (s s' : St) : Prop where
  n : s.n = s'.n
  hp : ∃ extra, s.hp = s'.hp ++ extra
  hl : hpLt s'.hp.length s'.hp = true
  get : ∀ t, EntV (s.get t) (s'.get t) ∧ (s'.get t).lt s'.hp.length = true

theorem RelT.subD {F : Mem} {M : Pls} {a : Act} {w : World} {s s' : St} (h : RelSt F M a w s) (k : s.subD s') : RelSt F (M.take s'.hp.length) a w s' := by
  obtain ⟨extra, he⟩ := k.hp
  refine ⟨h.defers, h.size.trans k.n, ?_, fun t => ((k.get t).1 F M _ (h.tmps t)).take _ (k.get t).2⟩
  have hi := h.inv
  rw [he] at hi
  exact hi.take k.hl

inductive SubDL (s : St) (n : Nat) : List (Nat × V) → Prop where
  | nil : SubDL s n []
  | cons {t : Nat} {y : V} {l : List (Nat × V)} (h : EntV (s.get t) y) (hl : y.lt n = true) (k : SubDL s n l) : SubDL s n ((t, y) :: l)

theorem SubDL.get {s : St} {n : Nat} {l : List (Nat × V)} (h : SubDL s n l) (t : Nat) : EntV (s.get t) (getT t l) ∧ (getT t l).lt n = true := by
  induction h with
  | nil => exact ⟨.any _, rfl⟩
  | cons h hl k ih =>
    simp only [getT]
    split
    · rename_i e; subst e; exact ⟨h, hl⟩
    · exact ih

theorem St.subD_of {s s' : St} (hn : s.n = s'.n) (extra : List O) (hh : s.hp = s'.hp ++ extra) (hl : hpLt s'.hp.length s'.hp = true) (h : SubDL s s'.hp.length s'.tm) : s.subD s' := ⟨hn, ⟨extra, hh⟩, hl, h.get⟩

/-- The loop, by a family of states; what a round makes is let go. -/
theorem SExec.loop_d {ι : Type} {c : Code} {s : St} {Q : Exit → St → Prop} (σ : ι → St) (μ : ι → Nat) (i : ι) (hlen : ∀ i, s.hp.length ≤ (σ i).hp.length) (h0 : s.subD (σ i))
    (hr : ∀ i, SExec P c (σ i) (thenS (fun s' => ∃ j, μ j < μ i ∧ s'.subD (σ j)) Q)) : SExec P (.loop c) s Q := by
  intro F0 M0 w0 a0 r0
  have hM0 : M0.length = s.hp.length := r0.inv.len
  let T : Act → World → Nat → Prop := fun a w n => ∃ i F M, μ i = n ∧ RelSt F M a w (σ i) ∧ Ext F0 M0 w0 F M w
  refine wp_loop (fun a w => ∃ n, T a w n) (fun a w => least (T a w)) ⟨_, i, F0, _, rfl, r0.subD h0, (Ext.refl _ _ _).take (by rw [hM0]; exact hlen i)⟩ ?_
  intro a w hT
  obtain ⟨i, F, M, hm, r, x⟩ := least_spec hT
  refine wp_mono (hr i F M w a r) ?_
  rintro e a' w' ⟨s', F', M', q, r', x'⟩
  cases e with
  | normal =>
    obtain ⟨j, hj, hs⟩ := q
    have hT' : T a' w' (μ j) := ⟨j, F', _, rfl, r'.subD hs, (x.trans x').take (by rw [hM0]; exact hlen j)⟩
    refine ⟨⟨_, hT'⟩, ?_⟩
    rw [← hm]
    exact Nat.lt_of_le_of_lt (least_le hT') hj
  | exit id => exact ⟨s', F', M', q, r', x.trans x'⟩
  | goto l => exact ⟨s', F', M', q, r', x.trans x'⟩
  | ret => exact ⟨s', F', M', q, r', x.trans x'⟩
  | panic ch => exact ⟨s', F', M', q, r', x.trans x'⟩
  | outgrown => exact ⟨s', F', M', q, r', x.trans x'⟩

/-- What a body must show; what it has made is let go. -/
def RetD (P : Program) (fn : Func) (m : Nat) (Q : V → List O → Prop) : Exit → St → Prop
  | .normal, s => ∃ rs, ResL P s fn.results.toList rs ∧ ∃ r H extra, EntV (tupV rs) r ∧ s.hp = H ++ extra ∧ m ≤ H.length ∧ hpLt H.length H = true ∧ r.lt H.length = true ∧ Q r H
  | .ret, s => ∃ rs, ResL P s fn.results.toList rs ∧ ∃ r H extra, EntV (tupV rs) r ∧ s.hp = H ++ extra ∧ m ≤ H.length ∧ hpLt H.length H = true ∧ r.lt H.length = true ∧ Q r H
  | _, _ => False

theorem SCall.of_execD {k : FuncId} {fn : Func} {c : Code} {args : List V} {H : List O} {Q : V → List O → Prop} (hf : P.funcs[k]? = some fn) (hb : fn.body = some c) (hn : (fn.name == "runtime.NumGoroutine") = false)
    (h : SExec P c (initSt fn.ntmps args H) (RetD P fn H.length Q)) : SCall P k args H Q := by
  have hmid : SCall P k args H (fun r' H' => ∃ r H1 extra, EntV r' r ∧ H' = H1 ++ extra ∧ H.length ≤ H1.length ∧ hpLt H1.length H1 = true ∧ r.lt H1.length = true ∧ Q r H1) := by
    refine SCall.of_exec hf hb hn (h.mono ?_)
    intro e s hs
    cases e with
    | normal =>
      obtain ⟨rs, h1, r, H1, extra, h2, h3, h4, h5, h6, h7⟩ := hs
      exact ⟨rs, h1, r, H1, extra, h2, h3, h4, h5, h6, h7⟩
    | ret =>
      obtain ⟨rs, h1, r, H1, extra, h2, h3, h4, h5, h6, h7⟩ := hs
      exact ⟨rs, h1, r, H1, extra, h2, h3, h4, h5, h6, h7⟩
    | exit id => exact hs.elim
    | goto l => exact hs.elim
    | panic ch => exact hs.elim
    | outgrown => exact hs.elim
  refine ⟨hmid.1, fun F M w vals hi hr => (hmid.2 F M w vals hi hr).mono ?_⟩
  rintro e w' ⟨v, r', H', F', M', rfl, ⟨r, H1, extra, h2, rfl, h4, h5, h6, h7⟩, hv, hi', x⟩
  exact ⟨v, r, H1, F', _, rfl, h7, (h2 F' M' v hv).take _ h6, hi'.take h5, x.take (by rw [hi.len]; exact h4)⟩

/-! ### What says less -/
theorem EntV.trans {x y z : V} (h : EntV x y) (k : EntV y z) : EntV x z := fun F M v r => k F M v (h F M v r)
theorem EntV.gs_sl (t : Nat) (rows : List (List D)) : EntV (.gs t rows) (.d (.sl rows)) := fun F M v h => by cases h with | gs h => exact .d h
theorem EntV.xs_sl (rows : List (List D)) : EntV (.xs rows) (.d (.sl rows)) := fun F M v h => by cases h with | xs h => exact .d h
theorem EntV.nil_sl : EntV (.d (.lit (.slice none 0 0))) (.d (.sl [])) := fun F M v h => by rw [h.lit_inv]; exact .d (repD_nil F)
theorem EntV.of_eq {x y : V} (h : x = y) : EntV x y := h ▸ .refl _

inductive EntL : List V → List V → Prop where
  | nil : EntL [] []
  | cons {x y : V} {l m : List V} (h : EntV x y) (k : EntL l m) : EntL (x :: l) (y :: m)
theorem EntL.refl : ∀ l, EntL l l
  | [] => .nil
  | x :: l => .cons (.refl x) (EntL.refl l)
theorem EntL.length {l m : List V} (h : EntL l m) : l.length = m.length := by
  induction h with
  | nil => rfl
  | cons _ _ ih => simp [ih]
theorem EntL.get {l m : List V} (h : EntL l m) : ∀ j, EntV (l.getD j .any) (m.getD j .any) := by
  induction h with
  | nil => intro j; exact .refl _
  | cons h k ih => intro j; cases j with
    | zero => exact h
    | succ j => simpa using ih j
theorem EntV.agg {l m : List V} (h : EntL l m) : EntV (.agg l) (.agg m) := fun F M v r => by
  cases r with
  | agg cs _ hs hr => exact .agg cs _ (hs.trans h.length) fun j hj => h.get j F M _ (hr j (by rw [h.length]; exact hj))
theorem EntV.tup {l m : List V} (h : EntL l m) : EntV (.tup l) (.tup m) := fun F M v r => by
  cases r with
  | tup cs _ hs hr => exact .tup cs _ (hs.trans h.length) fun j hj => h.get j F M _ (hr j (by rw [h.length]; exact hj))

/-- Arguments that say less. -/
theorem SCall.args {k : FuncId} {args args' : List V} {H : List O} {Q : V → List O → Prop} (e : EntL args args') (h : SCall P k args' H Q) : SCall P k args H Q :=
  ⟨h.1, fun F M w vals hi hr => h.2 F M w vals hi ⟨hr.1.trans e.length, fun j hj => e.get j F M _ (hr.2 j (by rw [e.length]; exact hj))⟩⟩

theorem HCall.args {k : FuncId} {args args' : List V} {H : List O} {r : V} (e : EntL args args') (h : HCall P k args' H r) : HCall P k args H r := ⟨h.1.args e, h.2⟩

/-- A function of data, by its body. -/
theorem PCall.of_ex (hT : TabOk P T) (hm : P.follows .mixedOrders = true) {k : FuncId} {fn : Func} {c : Code} {args : List V} {r : V} (hf : P.funcs[k]? = some fn) (hb : fn.body = some c) (hn : (fn.name == "runtime.NumGoroutine") = false)
    (hr : r.pure = true) (ha : pures args = true) (h : ex P T c (initSt fn.ntmps args []) (RetD P fn 0 (fun r' _ => r' = r))) : PCall P k args r :=
  ⟨hr, ha, SCall.of_execD hf hb hn (ex_sound hT hm h)⟩

/-- A call of a function of data: what goes on. -/
theorem PCall.use {k : FuncId} {args args' : List V} {H : List O} {r : V} {K : V → List O → Prop} (h : PCall P k args' r) (e : EntL args args') (hk : K r H) : SCall P k args H K :=
  ((h.hcall H).1.args e).mono fun r' H' ⟨e1, e2⟩ => by subst e1; subst e2; exact hk
theorem PCall.use' {k : FuncId} {args : List V} {H : List O} {r : V} {K : V → List O → Prop} (h : PCall P k args r) (hk : K r H) : SCall P k args H K := h.use (.refl _) hk
theorem PCall.useQ {k : FuncId} {args args' : List V} {H : List O} {r : V} {K : V → Prop} (h : PCall P k args' r) (e : EntL args args') (hk : K r) : ∃ r, HCall P k args H r ∧ K r := ⟨r, (h.hcall H).args e, hk⟩

theorem PCall.eq {k : FuncId} {args args' : List V} {r r' : V} (h : PCall P k args r) (ea : args = args') (er : r = r') : PCall P k args' r' := by subst ea; subst er; exact h
end
end Go.Ab

set_option linter.unusedVariables false
set_option linter.unusedSimpArgs false
namespace Go.Ab
section
variable {P : Program} {T : Tab}

/-! ### The evaluator that keeps its states laid out -/
def force (x : V) (k : V → Prop) : Prop := match x with
  | .d (.lit v) => k (.d (.lit v))
  | .d (.sl r) => k (.d (.sl r))
  | .gs t r => k (.gs t r)
  | .bx i o => k (.bx i o)
  | .rp c => k (.rp c)
  | .xs r => k (.xs r)
  | .hs i o l => k (.hs i o l)
  | .agg c => k (.agg c)
  | .fn f a c => k (.fn f a c)
  | .tup l => k (.tup l)
  | .any => k .any
theorem force_eq (x : V) (k : V → Prop) : force x k = k x := by
  cases x with
  | d x => cases x <;> rfl
  | _ => rfl

noncomputable def evArgs (g : Nat → V) (l : List Operand) : (List V → Prop) → Prop :=
  @List.rec Operand (fun _ => (List V → Prop) → Prop) (fun k => k []) (fun x _ ih k => force (evO g x) fun v => ih fun vs => k (v :: vs)) l
theorem evArgs_cons (g : Nat → V) (x : Operand) (l : List Operand) (k : List V → Prop) : evArgs g (x :: l) k = force (evO g x) fun v => evArgs g l fun vs => k (v :: vs) := rfl
theorem evArgs_eq (g : Nat → V) : ∀ (l : List Operand) (k : List V → Prop), evArgs g l k = k (l.map (evO g))
  | [], k => rfl
  | x :: l, k => by rw [evArgs_cons, force_eq, evArgs_eq g l, List.map_cons]

def putS (n : Nat) (tm : List (Nat × V)) (hp : List O) (d : Option Tmp) (r : V) : St := match d with
  | some d => if d < n then ⟨n, (d, r) :: tm, hp⟩ else ⟨n, tm, hp⟩
  | none => ⟨n, tm, hp⟩
theorem putS_eq (n : Nat) (tm : List (Nat × V)) (hp : List O) (d : Option Tmp) (r : V) : putS n tm hp d r = (St.put ⟨n, tm, hp⟩ d r) := by
  cases d with
  | none => rfl
  | some d => unfold putS St.put; rfl

def callS (P : Program) (k : FuncId) (first args cap : List V) (H : List O) (K : V → List O → Prop) : Prop := match first, cap with
  | [], [] => SCall P k args H K
  | first, cap => SCall P k (first ++ (args ++ cap)) H K
theorem callS_eq (k : FuncId) (first args cap : List V) (H : List O) (K : V → List O → Prop) : callS P k first args cap H K = SCall P k (first ++ (args ++ cap)) H K := by
  unfold callS
  split
  · simp
  · rfl

def callQ (P : Program) (k : FuncId) (first args cap : List V) (H : List O) (K : V → Prop) : Prop := match first, cap with
  | [], [] => ∃ r, HCall P k args H r ∧ K r
  | first, cap => ∃ r, HCall P k (first ++ (args ++ cap)) H r ∧ K r
theorem callQ_eq (k : FuncId) (first args cap : List V) (H : List O) (K : V → Prop) : callQ P k first args cap H K = ∃ r, HCall P k (first ++ (args ++ cap)) H r ∧ K r := by
  unfold callQ
  split
  · simp
  · rfl

def fOp (P : Program) (T : Tab) (o : Oper) (g : Nat → V) (H : List O) (K : V → List O → Prop) : Prop :=
  match callOf o.op with
  | some (f, args) => match fnOf (evO g f) with
    | some (k, first, cap) => evArgs g args.toList fun vs => callS P k first vs cap H K
    | none => False
  | none => exPure P T o g H K
theorem fOp_eq (o : Oper) (g : Nat → V) (H : List O) (K : V → List O → Prop) : fOp P T o g H K = exOp P T o g H K := by
  unfold fOp exOp
  cases callOf o.op with
  | none => rfl
  | some p =>
    obtain ⟨f, args⟩ := p
    dsimp only
    cases fnOf (evO g f) with
    | none => rfl
    | some q =>
      obtain ⟨k, first, cap⟩ := q
      show evArgs _ _ _ = _
      rw [evArgs_eq, callS_eq]

/-- The same, where nothing of the own things may change. -/
abbrev RQ (P : Program) (o : Oper) (g : Nat → V) (H : List O) (K : V → Prop) : Prop := raw P o g H (fun r H' => H' = H ∧ K r)
def exPureQ (P : Program) (T : Tab) (o : Oper) (g : Nat → V) (H : List O) (K : V → Prop) : Prop :=
  match o.op with
  | .move x => K (evO g x)
  | .assign x => K (evO g x)
  | .pick c a b => match evO g c with
    | .d (.lit (.bool t)) => bsel t (K (evO g a)) (K (evO g b))
    | _ => RQ P o g H K
  | .load t a => match T t with
    | some i => match loadA i.k.agg i.size H (evO g a) with
      | some r => K r
      | none => RQ P o g H K
    | none => RQ P o g H K
  | .nilCheck x => match evO g x with
    | .bx _ _ => K (evO g x)
    | .rp _ => K (evO g x)
    | .fn (.func _) _ _ => K (evO g x)
    | _ => RQ P o g H K
  | .binOp op xt x y _ => evalBin T g H op xt x y (RQ P o g H K) (fun r _ => K r)
  | .unOp op _ x => match op, evO g x with
    | .not, .d (.lit (.bool a)) => K (.d (.lit (.bool (!a))))
    | .neg, .d (.lit (.int k a)) => K (.d (.lit (.int k (k.wrap (0 - a)))))
    | _, _ => RQ P o g H K
  | .convert s t x => match T s, T t, evO g x with
    | some _, some j, .d (.lit (.int _ a)) => match j.k with
      | .int k' => K (.d (.lit (.int k' (k'.wrap a))))
      | _ => RQ P o g H K
    | _, _, _ => RQ P o g H K
  | .makeFunc f a c => K (.fn f (a.toList.map (evO g)) (c.toList.map (evO g)))
  | .extract x i => match evO g x with
    | .tup vs => match vs[i]? with
      | some r => K r
      | none => RQ P o g H K
    | _ => RQ P o g H K
  | .fieldAddr t x f => match fieldOf T t f, evO g x with
    | some (off, _, j), .bx id k => chk (decide (0 < j.size)) (K (.bx id (k + off)))
    | some (off, _, j), .rp cells => chk (decide (0 < j.size)) (K (.rp (cells.drop off)))
    | _, _ => RQ P o g H K
  | .field t x f => match fieldOf T t f, evO g x with
    | some (off, _, j), .agg cells => match partV j.k.agg j.size cells off with
      | some r => chk (decide (off + j.size ≤ cells.length)) (K r)
      | none => RQ P o g H K
    | _, _ => RQ P o g H K
  | .indexAddr t x ix => evalIndexAddr T g H t x ix (RQ P o g H K) (fun r _ => K r)
  | .index t x ix => evalIndex T g H t x ix (RQ P o g H K) (fun r _ => K r)
  | .slice t x lo hi none => evalSlice T g H t x lo hi (RQ P o g H K) (fun r _ => K r)
  | .build t parts => match T t with
    | some i => match i.zero with
      | some z => match i.k with
        | .struct fs => match structPl T fs with
          | some pl => fillK (fun i => pl.toArray[i]?) (parts.toList.map fun (i, x) => (i, evO g x)) (cellsV z) (fun r => chk ((cellsV z).all V.oneC) (K (.agg r))) (RQ P o g H K)
          | none => RQ P o g H K
        | .arr _ e => match T e with
          | some j => fillK (fun i => some (i * j.size, j.size)) (parts.toList.map fun (i, x) => (i, evO g x)) (cellsV z) (fun r => chk ((cellsV z).all V.oneC) (K (.agg r))) (RQ P o g H K)
          | none => RQ P o g H K
        | _ => RQ P o g H K
      | none => RQ P o g H K
    | none => RQ P o g H K
  | .call { callee := .builtin .len, args := ⟨[x]⟩, argTypes := ⟨[t]⟩ } => evalLen T g H x t (RQ P o g H K) (fun r _ => K r)
  | _ => exPure P T o g H (fun r H' => H' = H ∧ K r)

theorem same_and {H : List O} {K : V → Prop} : (fun r => H = H ∧ K r) = K := funext fun r => by simp
theorem idxS_Q {rows : List (List D)} {i : Int} {n : Nat} {K : V → Prop} {H : List O} : IdxS rows i n (fun r H' => H' = H ∧ K r) H = IdxS rows i n (fun r _ => K r) H :=
  propext ⟨fun h => ⟨h.nonneg, h.lt, h.len, h.pos, h.go.2⟩, fun h => ⟨h.nonneg, h.lt, h.len, h.pos, rfl, h.go⟩⟩
theorem idxStr_Q {s : ByteArray} {i : Int} {K : V → Prop} {H : List O} : IdxStr s i (fun r H' => H' = H ∧ K r) H = IdxStr s i (fun r _ => K r) H :=
  propext ⟨fun h => ⟨h.nonneg, h.lt, h.go.2⟩, fun h => ⟨h.nonneg, h.lt, rfl, h.go⟩⟩
theorem exPureQ_eq (o : Oper) (g : Nat → V) (H : List O) (K : V → Prop) : exPureQ P T o g H K = exPure P T o g H (fun r H' => H' = H ∧ K r) := by
  unfold exPureQ
  split
  all_goals (try rfl)
  all_goals (rename_i ho)
  all_goals (simp only [RQ, exPure, ho, builtinEv, evalLen, evalBin, evalIndexAddr, evalIndex, evalSlice, true_and, idxS_Q, idxStr_Q] <;> first | done | rfl)

def fOpQ (P : Program) (T : Tab) (o : Oper) (g : Nat → V) (H : List O) (K : V → Prop) : Prop :=
  match callOf o.op with
  | some (f, args) => match fnOf (evO g f) with
    | some (k, first, cap) => evArgs g args.toList fun vs => callQ P k first vs cap H K
    | none => False
  | none => exPureQ P T o g H K
theorem fOpQ_eq (o : Oper) (g : Nat → V) (H : List O) (K : V → Prop) : fOpQ P T o g H K = exOpQ P T o g H K := by
  unfold fOpQ exOpQ
  cases callOf o.op with
  | none => exact exPureQ_eq o g H K
  | some p =>
    obtain ⟨f, args⟩ := p
    dsimp only
    cases fnOf (evO g f) with
    | none => rfl
    | some q =>
      obtain ⟨k, first, cap⟩ := q
      show evArgs _ _ _ = _
      rw [evArgs_eq, callQ_eq]

/-- What the evaluator hands over. -/
structure Raw (p : Prop) : Prop where
  out : p

def fOpsStep (P : Program) (T : Tab) (ops : Array Oper) (o : Oper) (l : List Oper) (ih : St → (St → Prop) → Prop) (s : St) (K : St → Prop) : Prop := match s with
  | ⟨n, tm, hp⟩ =>
    match o.guard with
    | none => fOp P T o (fun t => getT t tm) hp (fun r H' => force r fun r => ih (putS n tm H' o.dst r) K)
    | some (j, want) => match guardV ops (fun t => getT t tm) j with
      | some (t, b) => bsel (b == want)
          (match putS n tm hp (some t) (.d (.lit (.bool want))) with
            | ⟨n, tm, _⟩ => fOp P T o (fun t => getT t tm) hp (fun r H' => force r fun r => ih (putS n tm H' o.dst r) K))
          (match putS n tm hp (some t) (.d (.lit (.bool (!want)))) with
            | ⟨n, tm, hp⟩ => ih (putS n tm hp o.dst (.d (.lit undef))) K)
      | none => bsel (skipV ops (fun t => getT t tm) j) (ih (putS n tm hp o.dst (.d (.lit undef))) K) (Raw (SOps P ops (o :: l) ⟨n, tm, hp⟩ K))
noncomputable def fOps (P : Program) (T : Tab) (ops : Array Oper) (l : List Oper) : St → (St → Prop) → Prop :=
  @List.rec Oper (fun _ => St → (St → Prop) → Prop) (fun s K => K s) (fun o l ih => fOpsStep P T ops o l ih) l
theorem fOps_cons (ops : Array Oper) (o : Oper) (l : List Oper) (n : Nat) (tm : List (Nat × V)) (hp : List O) (K : St → Prop) : fOps P T ops (o :: l) ⟨n, tm, hp⟩ K =
    match o.guard with
    | none => fOp P T o (fun t => getT t tm) hp (fun r H' => force r fun r => fOps P T ops l (putS n tm H' o.dst r) K)
    | some (j, want) => match guardV ops (fun t => getT t tm) j with
      | some (t, b) => bsel (b == want)
          (match putS n tm hp (some t) (.d (.lit (.bool want))) with
            | ⟨n, tm, _⟩ => fOp P T o (fun t => getT t tm) hp (fun r H' => force r fun r => fOps P T ops l (putS n tm H' o.dst r) K))
          (match putS n tm hp (some t) (.d (.lit (.bool (!want)))) with
            | ⟨n, tm, hp⟩ => fOps P T ops l (putS n tm hp o.dst (.d (.lit undef))) K)
      | none => bsel (skipV ops (fun t => getT t tm) j) (fOps P T ops l (putS n tm hp o.dst (.d (.lit undef))) K) (Raw (SOps P ops (o :: l) ⟨n, tm, hp⟩ K)) := rfl

theorem exPure_congr {o : Oper} {g : Nat → V} {H : List O} {K K' : V → List O → Prop} (h : K = K') : exPure P T o g H K = exPure P T o g H K' := by rw [h]

theorem get_mk (n : Nat) (tm : List (Nat × V)) (hp : List O) : St.get ⟨n, tm, hp⟩ = fun t => getT t tm := rfl

theorem fOps_eq (ops : Array Oper) : ∀ (l : List Oper) (s : St) (K : St → Prop), fOps P T ops l s K = exOps P T ops l s K
  | [], s, K => rfl
  | o :: l, ⟨n, tm, hp⟩, K => by
    cases hg : o.guard with
    | none =>
      simp only [fOps_cons, exOps, hg]
      rw [fOp_eq]
      exact congrArg _ (funext fun r => funext fun H' => by rw [force_eq, fOps_eq ops l, putS_eq]; rfl)
    | some p =>
      obtain ⟨j, want⟩ := p
      simp only [fOps_cons, exOps, hg, get_mk]
      cases hgv : guardV ops (fun t => getT t tm) j with
      | none =>
        dsimp only
        congr 1
        · rw [fOps_eq ops l, putS_eq]
        · exact propext ⟨fun h => h.out, fun h => ⟨h⟩⟩
      | some q =>
        obtain ⟨t, b⟩ := q
        dsimp only
        congr 1
        · rw [putS_eq]
          generalize hs : St.put ⟨n, tm, hp⟩ (some t) (.d (.lit (.bool want))) = s1
          obtain ⟨n1, tm1, hp1⟩ := s1
          dsimp only
          rw [fOp_eq]
          exact congrArg _ (funext fun r => funext fun H' => by rw [force_eq, fOps_eq ops l, putS_eq]; rfl)
        · rw [putS_eq]
          generalize hs : St.put ⟨n, tm, hp⟩ (some t) (.d (.lit (.bool (!want)))) = s1
          obtain ⟨n1, tm1, hp1⟩ := s1
          rw [fOps_eq ops l, putS_eq, hs]

def fOpsQStep (P : Program) (T : Tab) (ops : Array Oper) (o : Oper) (l : List Oper) (ih : St → (St → Prop) → Prop) (s : St) (K : St → Prop) : Prop := match s with
  | ⟨n, tm, hp⟩ =>
    match o.guard with
    | none => fOpQ P T o (mask o fun t => getT t tm) hp (fun r => force r fun r => ih (putS n tm hp o.dst r) K)
    | some (j, want) => match guardV ops (fun t => getT t tm) j with
      | some (t, b) => bsel (b == want)
          (match putS n tm hp (some t) (.d (.lit (.bool want))) with
            | ⟨n, tm, _⟩ => fOpQ P T o (mask o fun t => getT t tm) hp (fun r => force r fun r => ih (putS n tm hp o.dst r) K))
          (match putS n tm hp (some t) (.d (.lit (.bool (!want)))) with
            | ⟨n, tm, _⟩ => ih (putS n tm hp o.dst (.d (.lit undef))) K)
      | none => bsel (skipV ops (fun t => getT t tm) j) (ih (putS n tm hp o.dst (.d (.lit undef))) K) False
noncomputable def fOpsQ (P : Program) (T : Tab) (ops : Array Oper) (l : List Oper) : St → (St → Prop) → Prop :=
  @List.rec Oper (fun _ => St → (St → Prop) → Prop) (fun s K => K s) (fun o l ih => fOpsQStep P T ops o l ih) l
theorem fOpsQ_cons (ops : Array Oper) (o : Oper) (l : List Oper) (n : Nat) (tm : List (Nat × V)) (hp : List O) (K : St → Prop) : fOpsQ P T ops (o :: l) ⟨n, tm, hp⟩ K =
    match o.guard with
    | none => fOpQ P T o (mask o fun t => getT t tm) hp (fun r => force r fun r => fOpsQ P T ops l (putS n tm hp o.dst r) K)
    | some (j, want) => match guardV ops (fun t => getT t tm) j with
      | some (t, b) => bsel (b == want)
          (match putS n tm hp (some t) (.d (.lit (.bool want))) with
            | ⟨n, tm, _⟩ => fOpQ P T o (mask o fun t => getT t tm) hp (fun r => force r fun r => fOpsQ P T ops l (putS n tm hp o.dst r) K))
          (match putS n tm hp (some t) (.d (.lit (.bool (!want)))) with
            | ⟨n, tm, _⟩ => fOpsQ P T ops l (putS n tm hp o.dst (.d (.lit undef))) K)
      | none => bsel (skipV ops (fun t => getT t tm) j) (fOpsQ P T ops l (putS n tm hp o.dst (.d (.lit undef))) K) False := rfl

theorem fOpsQ_eq (ops : Array Oper) : ∀ (l : List Oper) (s : St) (K : St → Prop), fOpsQ P T ops l s K = exOpsQ P T ops l s K
  | [], s, K => rfl
  | o :: l, ⟨n, tm, hp⟩, K => by
    cases hg : o.guard with
    | none =>
      simp only [fOpsQ_cons, exOpsQ, hg]
      rw [fOpQ_eq]
      exact congrArg _ (funext fun r => by rw [force_eq, fOpsQ_eq ops l, putS_eq])
    | some p =>
      obtain ⟨j, want⟩ := p
      simp only [fOpsQ_cons, exOpsQ, hg, get_mk]
      cases hgv : guardV ops (fun t => getT t tm) j with
      | none =>
        dsimp only
        congr 1
        rw [fOpsQ_eq ops l, putS_eq]
      | some q =>
        obtain ⟨t, b⟩ := q
        dsimp only
        congr 1
        · rw [putS_eq]
          have hh : (St.put ⟨n, tm, hp⟩ (some t) (.d (.lit (.bool want)))).hp = hp := St.hp_put _ _ _
          generalize hs : St.put ⟨n, tm, hp⟩ (some t) (.d (.lit (.bool want))) = s1 at hh
          obtain ⟨n1, tm1, hp1⟩ := s1
          dsimp only at hh
          subst hh
          dsimp only
          rw [fOpQ_eq]
          exact congrArg _ (funext fun r => by rw [force_eq, fOpsQ_eq ops l, putS_eq])
        · rw [putS_eq]
          have hh : (St.put ⟨n, tm, hp⟩ (some t) (.d (.lit (.bool (!want))))).hp = hp := St.hp_put _ _ _
          generalize hs : St.put ⟨n, tm, hp⟩ (some t) (.d (.lit (.bool (!want)))) = s1 at hh
          obtain ⟨n1, tm1, hp1⟩ := s1
          dsimp only at hh
          subst hh
          rw [fOpsQ_eq ops l, putS_eq, hs]

def fxCond (b : Option Bool) (A B : Prop) : Prop := match b with
  | some t => bsel t A B
  | none => False
def fxRegion (P : Program) (T : Tab) (id : Nat) (ops : Array Oper) (draw : Bool) (s : St) (Q : Exit → St → Prop) : Prop := match draw with
  | false => fOps P T ops ops.toList s (Q .normal)
  | true => match effD ops with
    | true => Raw (SExec P (.region id ops true) s Q)
    | false => okDraw ops = true ∧ fOpsQ P T ops ops.toList s (Q .normal)
noncomputable def fx (P : Program) (T : Tab) (c : Code) : St → (Exit → St → Prop) → Prop :=
  @Code.rec (fun _ => St → (Exit → St → Prop) → Prop)
    (fun s Q => Q .normal s)
    (fun id ops draw s Q => fxRegion P T id ops draw s Q)
    (fun _ _ iha ihb s Q => iha s (thenS (fun s' => ihb s' Q) Q))
    (fun c _ _ iha ihb s Q => fxCond (boolOf (s.ev c)) (iha s Q) (ihb s Q))
    (fun id _ ih s Q => ih s (blockS id Q))
    (fun c _ s Q => Raw (SExec P (.loop c) s Q))
    (fun f ps a b _ _ s Q => Raw (SExec P (.rangeFunc f ps a b) s Q))
    (fun id s Q => Q (.exit id) s)
    (fun c _ s Q => Raw (SExec P (.scope c) s Q))
    (fun _ s Q => Q .normal s)
    (fun l s Q => Q (.goto l) s)
    (fun s Q => Q .ret s)
    (fun w s Q => Raw (SExec P (.refuse w) s Q)) c

theorem fx_eq : ∀ (c : Code) (s : St) (Q : Exit → St → Prop), fx P T c s Q = ex P T c s Q := by
  intro c
  induction c with
  | seq a b iha ihb =>
    intro s Q
    show fx P T a s (thenS (fun s' => fx P T b s' Q) Q) = ex P T a s (thenS (fun s' => ex P T b s' Q) Q)
    rw [iha]
    congr 1
    funext e s'
    cases e <;> simp only [thenS]
    exact ihb s' Q
  | block id c ih => intro s Q; exact ih s _
  | cond c a b iha ihb =>
    intro s Q
    show fxCond (boolOf (s.ev c)) (fx P T a s Q) (fx P T b s Q) = _
    simp only [ex]
    cases boolOf (s.ev c) with
    | none => rfl
    | some t => simp only [fxCond]; rw [iha, ihb]
  | region id ops draw =>
    intro s Q
    cases draw
    · exact fOps_eq ops _ s _
    · show (match effD ops with | true => Raw (SExec P (.region id ops true) s Q) | false => okDraw ops = true ∧ fOpsQ P T ops ops.toList s (Q .normal)) = _
      simp only [ex]
      cases effD ops with
      | true => exact propext ⟨fun h => h.out, fun h => ⟨h⟩⟩
      | false => dsimp only; rw [fOpsQ_eq]
  | loop c _ => intro s Q; exact propext ⟨fun h => h.out, fun h => ⟨h⟩⟩
  | rangeFunc f ps a b _ _ => intro s Q; exact propext ⟨fun h => h.out, fun h => ⟨h⟩⟩
  | scope c _ => intro s Q; exact propext ⟨fun h => h.out, fun h => ⟨h⟩⟩
  | refuse w => intro s Q; exact propext ⟨fun h => h.out, fun h => ⟨h⟩⟩
  | _ => intro s Q; rfl

theorem fx_sound (hT : TabOk P T) (hm : P.follows .mixedOrders = true) {c : Code} {s : St} {Q : Exit → St → Prop} (h : fx P T c s Q) : SExec P c s Q :=
  ex_sound hT hm (by rw [← fx_eq]; exact h)

/-! ### Results -/
def resOne (T : Tab) (s : St) : ResultVar → Option V
  | .tmp t => some (s.get t)
  | .cell t ty => match T ty with
    | some i => loadA i.k.agg i.size s.hp (s.get t)
    | none => none
def resAll (T : Tab) (s : St) : List ResultVar → Option (List V)
  | [] => some []
  | x :: l => match resOne T s x, resAll T s l with
    | some r, some rs => some (r :: rs)
    | _, _ => none
theorem resAll_sound (hT : TabOk P T) {s : St} : ∀ {l : List ResultVar} {rs : List V}, resAll T s l = some rs → ResL P s l rs
  | [], rs, h => by simp [resAll] at h; subst h; exact .nil
  | x :: l, rs, h => by
    simp only [resAll] at h
    split at h
    · rename_i r rs' h1 h2
      cases h
      refine .cons ?_ (resAll_sound hT h2)
      cases x with
      | tmp t => simp [resOne] at h1; subst h1; exact .tmp t
      | cell t ty =>
        simp only [resOne] at h1
        split at h1
        · rename_i i hi; exact .cell (ti_is (hT _ _ hi)) h1
        · cases h1
    · cases h

mutual
theorem pure_lt (n : Nat) : ∀ x : V, x.pure = true → x.lt n = true
  | .d _, _ => rfl
  | .gs _ _, h => by simp [V.pure] at h
  | .bx _ _, h => by simp [V.pure] at h
  | .rp _, _ => rfl
  | .xs _, _ => rfl
  | .hs _ _ _, h => by simp [V.pure] at h
  | .agg cs, h => by simp [V.pure] at h; simp [V.lt]; exact pures_lt n cs h
  | .fn _ a c, h => by simp [V.pure] at h; simp [V.lt]; exact ⟨pures_lt n a h.1, pures_lt n c h.2⟩
  | .tup cs, h => by simp [V.pure] at h; simp [V.lt]; exact pures_lt n cs h
  | .any, _ => rfl
theorem pures_lt (n : Nat) : ∀ l : List V, pures l = true → lts n l = true
  | [], _ => rfl
  | x :: l, h => by simp [pures] at h; simp [lts]; exact ⟨pure_lt n x h.1, pures_lt n l h.2⟩
end

inductive RetF (P : Program) (T : Tab) (fn : Func) (m : Nat) (Q : V → List O → Prop) : Exit → St → Prop where
  | normal {s : St} (h : RetD P fn m Q .normal s) : RetF P T fn m Q .normal s
  | ret {s : St} (h : RetD P fn m Q .ret s) : RetF P T fn m Q .ret s

theorem RetF.toD {fn : Func} {m : Nat} {Q : V → List O → Prop} {e : Exit} {s : St} (h : RetF P T fn m Q e s) : RetD P fn m Q e s := by cases h <;> assumption

/-- The end of a function of data. -/
theorem retP (hT : TabOk P T) {fn : Func} {s : St} {rs : List V} {r : V} (h : resAll T s fn.results.toList = some rs) (e : EntV (tupV rs) r) (hr : r.pure = true) : RetF P T fn 0 (fun r' _ => r' = r) .ret s :=
  .ret ⟨rs, resAll_sound hT h, r, [], s.hp, e, rfl, Nat.le_refl _, rfl, pure_lt _ _ hr, rfl⟩
theorem retN (hT : TabOk P T) {fn : Func} {s : St} {rs : List V} {r : V} (h : resAll T s fn.results.toList = some rs) (e : EntV (tupV rs) r) (hr : r.pure = true) : RetF P T fn 0 (fun r' _ => r' = r) .normal s :=
  .normal ⟨rs, resAll_sound hT h, r, [], s.hp, e, rfl, Nat.le_refl _, rfl, pure_lt _ _ hr, rfl⟩

theorem PCall.of_fx (hT : TabOk P T) (hm : P.follows .mixedOrders = true) {k : FuncId} {fn : Func} {c : Code} {args : List V} {r : V} (hf : P.funcs[k]? = some fn) (hb : fn.body = some c) (hn : (fn.name == "runtime.NumGoroutine") = false)
    (hr : r.pure = true) (ha : pures args = true) (h : fx P T c (initSt fn.ntmps args []) (RetF P T fn 0 (fun r' _ => r' = r))) : PCall P k args r :=
  ⟨hr, ha, SCall.of_execD hf hb hn ((fx_sound hT hm h).mono fun e s hs => hs.toD)⟩

end
end Go.Ab
namespace Go.Ab
section
variable {P : Program} {T : Tab}
theorem retI (hT : TabOk P T) {fn : Func} {s : St} {k : IntKind} {n m : Int} (h : resAll T s fn.results.toList = some [.d (.lit (.int k n))]) (e : n = m) : RetF P T fn 0 (fun r' _ => r' = .d (.lit (.int k m))) .ret s :=
  retP hT h (.of_eq (by rw [e]; rfl)) rfl
theorem retB (hT : TabOk P T) {fn : Func} {s : St} {n m : Bool} (h : resAll T s fn.results.toList = some [.d (.lit (.bool n))]) (e : n = m) : RetF P T fn 0 (fun r' _ => r' = .d (.lit (.bool m))) .ret s :=
  retP hT h (.of_eq (by rw [e]; rfl)) rfl

/-- A loop that counts. -/
theorem SExec.loop_n {c : Code} {s : St} {Q : Exit → St → Prop} (n : Nat) (σ : Nat → St) (hlen : ∀ k, s.hp.length ≤ (σ k).hp.length) (h0 : s.subD (σ 0))
    (hr : ∀ k, k ≤ n → SExec P c (σ k) (thenS (fun s' => k < n ∧ s'.subD (σ (k + 1))) Q)) : SExec P (.loop c) s Q :=
  SExec.loop_d (ι := { k : Nat // k ≤ n }) (fun i => σ i.1) (fun i => n - i.1) ⟨0, Nat.zero_le _⟩ (fun i => hlen i.1) h0 fun i =>
    (hr i.1 i.2).mono (thenS_mono fun s' ⟨h1, h2⟩ => ⟨⟨i.1 + 1, h1⟩, by show n - (i.1 + 1) < n - i.1; omega, h2⟩)

/-- A loop that goes on while something gets less. -/
theorem SExec.loop_i {ι : Type} {c : Code} {s : St} {Q : Exit → St → Prop} (σ : ι → St) (ok : ι → Prop) (μ : ι → Nat) (i : ι) (hi : ok i) (hlen : ∀ i, s.hp.length ≤ (σ i).hp.length) (h0 : s.subD (σ i))
    (hr : ∀ i, ok i → SExec P c (σ i) (thenS (fun s' => ∃ j, ok j ∧ μ j < μ i ∧ s'.subD (σ j)) Q)) : SExec P (.loop c) s Q :=
  SExec.loop_d (ι := { i : ι // ok i }) (fun i => σ i.1) (fun i => μ i.1) ⟨i, hi⟩ (fun i => hlen i.1) h0 fun i =>
    (hr i.1 i.2).mono (thenS_mono fun s' ⟨j, h1, h2, h3⟩ => ⟨⟨j, h1⟩, h2, h3⟩)
end
end Go.Ab

set_option linter.unusedVariables false
set_option linter.unusedSimpArgs false
namespace Go.Ab
section
variable {P : Program} {T : Tab}

/-! ### Bounds of what is read -/
inductive D.Bd : D → Prop where
  | lit (v : Value) (h : litOk v = true) : D.Bd (.lit v)
  | sl (rows : List (List D)) (h : rows.length ≤ maxRows) (hr : ∀ i j, i < rows.length → j < (rows.getD i []).length → D.Bd ((rows.getD i []).getD j default)) : D.Bd (.sl rows)

theorem RepD.bd {F : Mem} {v : Value} {x : D} (h : RepD F v x) : x.Bd := by
  induction h with
  | lit v h => exact .lit v h
  | sl a cap sz rows vals hrow hlen hcap ha hr ih =>
    exact .sl rows hlen fun i j hi hj => ih i j hi (by rw [getD_row hrow hi] at hj; exact hj)

def V.Bd : V → Prop
  | .d x => x.Bd
  | .gs _ rows => (D.sl rows).Bd
  | .xs rows => (D.sl rows).Bd
  | .rp cells => ∀ j : Nat, j < cells.length → D.Bd (cells.getD j default)
  | .agg cells => ∀ (j : Nat) (x : D), cells[j]? = some (V.d x) → x.Bd
  | _ => True

theorem Rep.bd {F : Mem} {M : Pls} {v : Value} {x : V} (h : Rep F M v x) : x.Bd := by
  cases h with
  | d h => exact h.bd
  | gs h => exact h.bd
  | xs h => exact h.bd
  | rp a cells vals hf hr => exact fun j hj => (hr j hj).bd
  | agg cs cells hs hr =>
    intro j x hx
    have hj := (List.getElem?_eq_some_iff.1 hx).1
    have := hr j hj
    rw [List.getD_eq_getElem?_getD, hx] at this
    generalize cs.getD j undef = u at this
    cases this with
    | d h => exact h.bd
  | _ => trivial

/-- What is known of the arguments may be used. -/
theorem SCall.bd {k : FuncId} {args : List V} {H : List O} {Q : V → List O → Prop} (he : Enters P k) (h : (∀ j, j < args.length → (args.getD j .any).Bd) → SCall P k args H Q) : SCall P k args H Q :=
  ⟨he, fun F M w vals hi hr => (h fun j hj => (hr.2 j hj).bd).calls F M w vals hi hr⟩

theorem PCall.bd {k : FuncId} {args : List V} {r : V} {fn : Func} {c : Code} (hf : P.funcs[k]? = some fn) (hb : fn.body = some c) (hn : (fn.name == "runtime.NumGoroutine") = false) (hr : r.pure = true) (ha : pures args = true)
    (h : (∀ j, j < args.length → (args.getD j .any).Bd) → PCall P k args r) : PCall P k args r :=
  ⟨hr, ha, SCall.bd (enters_of hf hb hn) fun b => (h b).call⟩

theorem D.Bd.len {rows : List (List D)} (h : D.Bd (.sl rows)) : rows.length ≤ maxRows := by cases h; assumption
theorem D.Bd.row {rows : List (List D)} (h : D.Bd (.sl rows)) {r : List D} (hr : r ∈ rows) : ∀ x ∈ r, x.Bd := by
  cases h with
  | sl _ _ h =>
    intro x hx
    obtain ⟨i, hi, rfl⟩ := List.mem_iff_getElem.1 hr
    obtain ⟨j, hj, rfl⟩ := List.mem_iff_getElem.1 hx
    have e : rows.getD i [] = rows[i] := by simp [List.getD_eq_getElem?_getD, hi]
    have := h i j hi (by rw [e]; exact hj)
    rw [e] at this
    simpa [List.getD_eq_getElem?_getD, hj] using this
theorem D.Bd.str {s : ByteArray} (h : D.Bd (.lit (.string s))) : s.size ≤ 4611686018427387904 := by
  cases h with
  | lit _ h => simpa [litOk] using h
end
end Go.Ab

set_option linter.unusedVariables false
set_option linter.unusedSimpArgs false
namespace Go.Ab
section
variable {P : Program} {T : Tab}

/-! ### Regions that draw their order and make or change the call's own things -/
/-- From the world as seen without the last things, back. -/
theorem Inv.backN {F F' : Mem} {M M1 : Pls} {w w' : World} {H0 X : List O} (hi : Inv F M w (H0 ++ X)) (hlive : H0.all O.live = true) (hi' : Inv F' M1 w' H0) (x : Ext F (M.take H0.length) w F' M1 w') :
    Inv F' (M1 ++ M.drop H0.length) w' (H0 ++ X) ∧ Ext F M w F' (M1 ++ M.drop H0.length) w' := by
  have hM : M.length = H0.length + X.length := by rw [hi.len]; simp
  have hM1 : M1.length = H0.length := hi'.len
  have live : ∀ (i : Nat) (o : O), H0[i]? = some o → o.live = true := fun i o h => List.all_eq_true.1 hlive o (List.mem_iff_getElem?.2 ⟨i, h⟩)
  have get1 : ∀ (i : Nat), i < H0.length → (M1 ++ M.drop H0.length)[i]? = M1[i]? := fun i h => List.getElem?_append_left (by omega)
  have get2 : ∀ (i : Nat), H0.length ≤ i → (M1 ++ M.drop H0.length)[i]? = M[i]? := fun i h => by
    rw [List.getElem?_append_right (by omega), List.getElem?_drop, hM1]; congr 1; omega
  have getT : ∀ (i : Nat), i < H0.length → (M.take H0.length)[i]? = M[i]? := fun i h => by rw [List.getElem?_take, if_pos h]
  have hH1 : ∀ (i : Nat), i < H0.length → (H0 ++ X)[i]? = H0[i]? := fun i h => List.getElem?_append_left h
  have mle : Pls.le M (M1 ++ M.drop H0.length) := fun i p h => by
    by_cases hi0 : i < H0.length
    · rw [get1 i hi0]; exact x.mle i p (by rw [getT i hi0]; exact h)
    · rw [get2 i (by omega)]; exact ⟨p, h, p.le_refl⟩
  -- a live thing of the tail lies in no block of the others
  have far : ∀ (i : Nat) (o : O) (p : Pl) (b : Nat), H0.length ≤ i → (H0 ++ X)[i]? = some o → o.live = true → M[i]? = some p → p.blk = some b → ∀ (j : Nat) (q : Pl), (M.take H0.length)[j]? = some q → q.blk ≠ some b := by
    intro i o p b hin ho hl hp hb j q hq
    have hj : j < H0.length := by
      have := (List.getElem?_eq_some_iff.1 hq).1
      simp at this; omega
    rw [getT j hj] at hq
    obtain ⟨o', ho'⟩ : ∃ o', H0[j]? = some o' := ⟨H0[j], by simp [hj]⟩
    intro e
    exact hi.sep j i o' o q p b (by omega) (by rw [hH1 j hj]; exact ho') ho (live j o' ho') hl hq hp e hb
  refine ⟨⟨hi'.cells, by simp [hM1, hM], ?_, ?_, ?_, hi'.gnd⟩, ⟨x.fle, mle, x.size, x.os, x.tape, x.output, fun k hk hne => x.old k hk fun i p h => ?_, fun a h h' => ?_, fun i p b h hb => ?_⟩⟩
  · intro i o p h1 h2
    by_cases hi0 : i < H0.length
    · rw [hH1 i hi0] at h1
      rw [get1 i hi0] at h2
      exact (hi'.objs i o p h1 h2).mono (.refl _) (.append _ _) (fun _ _ => rfl) (fun _ _ _ _ h => h)
    · rw [get2 i (by omega)] at h2
      cases hl : o.live with
      | false => cases o <;> simp [O.live] at hl; exact .dead p
      | true =>
        have hf := fun b e => far i o p b (by omega) h1 hl h2 e
        refine (hi.objs i o p h1 h2).mono x.fle mle (fun b e => x.old b (hi.inb i p b h2 e) (hf b e)) (fun b e o' s hn => ?_)
        cases h' : F' ⟨b, o', s⟩ with
        | none => rfl
        | some u =>
          have hb := hi.inb i p b h2 e
          rcases x.newF _ hn (by rw [h']; simp) with h3 | ⟨j, q, h3, h4⟩
          · simp at h3; omega
          · exact absurd h4 (hf b e j q h3)
  · intro i j o o' p p' b hne h1 h2 l1 l2 m1 m2 e1 e2
    by_cases hi0 : i < H0.length <;> by_cases hj0 : j < H0.length
    · rw [hH1 i hi0] at h1; rw [hH1 j hj0] at h2; rw [get1 i hi0] at m1; rw [get1 j hj0] at m2
      exact hi'.sep i j o o' p p' b hne h1 h2 l1 l2 m1 m2 e1 e2
    · rw [get1 i hi0] at m1; rw [get2 j (by omega)] at m2
      rcases x.newM i p b m1 e1 with h3 | ⟨k, q, h3, h4⟩
      · have := hi.inb j p' b m2 e2; omega
      · exact far j o' p' b (by omega) h2 l2 m2 e2 k q h3 h4
    · rw [get2 i (by omega)] at m1; rw [get1 j hj0] at m2
      rcases x.newM j p' b m2 e2 with h3 | ⟨k, q, h3, h4⟩
      · have := hi.inb i p b m1 e1; omega
      · exact far i o p b (by omega) h1 l1 m1 e1 k q h3 h4
    · rw [get2 i (by omega)] at m1; rw [get2 j (by omega)] at m2
      exact hi.sep i j o o' p p' b hne h1 h2 l1 l2 m1 m2 e1 e2
  · intro i p b h e
    by_cases hi0 : i < H0.length
    · rw [get1 i hi0] at h; exact hi'.inb i p b h e
    · rw [get2 i (by omega)] at h; exact Nat.lt_of_lt_of_le (hi.inb i p b h e) x.size
  · have hi0 : i < H0.length := by
      have := (List.getElem?_eq_some_iff.1 h).1
      simp at this; omega
    rw [getT i hi0] at h
    exact hne i p h
  · rcases x.newF a h h' with h3 | ⟨j, q, h3, h4⟩
    · exact .inl h3
    · have hj : j < H0.length := by
        have := (List.getElem?_eq_some_iff.1 h3).1
        simp at this; omega
      rw [getT j hj] at h3
      exact .inr ⟨j, q, h3, h4⟩
  · by_cases hi0 : i < H0.length
    · rw [get1 i hi0] at h
      rcases x.newM i p b h hb with h3 | ⟨j, q, h3, h4⟩
      · exact .inl h3
      · have hj : j < H0.length := by
          have := (List.getElem?_eq_some_iff.1 h3).1
          simp at this; omega
        rw [getT j hj] at h3
        exact .inr ⟨j, q, h3, h4⟩
    · rw [get2 i (by omega)] at h
      exact .inr ⟨i, p, h, hb⟩
theorem lt_litC (n : Nat) (v : Value) : (litC v).lt n = true := by unfold litC; split <;> rfl
theorem lt_ofC (n : Nat) (v : Value) : (ofC v).lt n = true := by
  have hl : ∀ l : List Value, lts n (l.map litC) = true := by
    intro l
    induction l with
    | nil => rfl
    | cons x l ih => simp [lts, lt_litC, ih]
  cases v with
  | agg cs => exact hl _
  | _ => exact lt_litC n _
theorem evO_lt {g : Nat → V} {n : Nat} (h : ∀ t, (g t).lt n = true) (x : Operand) : (evO g x).lt n = true := by
  cases x with
  | tmp t => exact h t
  | const v => exact lt_ofC n v
  | global b => rfl
  | func f => rfl

theorem Yl.tail {o : Oper} {g : Nat → V} {H0 X : List O} {r : V} (h : Yl P o g H0 r H0) (hl : hpLt H0.length H0 = true) (hlive : H0.all O.live = true) (hg : ∀ t, (g t).lt H0.length = true) :
    ∀ F M w (ρ : Operand → Value), Inv F M w (H0 ++ X) → (∀ x, Rep F M (ρ x) (evO g x)) → ∃ v w' F' M1,
      ((execOp ρ o).run P w = .ok (.value v) w' ∨ ((execOp ρ o).run P w = .ok .skip w' ∧ v = undef)) ∧ M1.length = H0.length ∧ Rep F' (M1 ++ M.drop H0.length) v r ∧ Inv F' (M1 ++ M.drop H0.length) w' (H0 ++ X) ∧ Ext F M w F' (M1 ++ M.drop H0.length) w' := by
  intro F M w ρ hi hr
  obtain ⟨v, w', F', M1, hrun, hv, hi', x⟩ := h F (M.take H0.length) w ρ (hi.take hl) (fun x => (hr x).take _ (evO_lt hg x))
  obtain ⟨a, b⟩ := hi.backN hlive hi' x
  exact ⟨v, w', F', M1, hrun, hi'.len, hv.mono (.refl _) (.append _ _), a, b⟩

theorem HCall.tail {k : FuncId} {args : List V} {H0 X : List O} {r : V} (h : HCall P k args H0 r) (hl : hpLt H0.length H0 = true) (hlive : H0.all O.live = true) (hg : lts H0.length args = true) :
    ∀ F M w vals, Inv F M w (H0 ++ X) → Reps F M vals args → Calls P k vals.toArray w (fun e w' => ∃ v F' M1, e = .returned v ∧ M1.length = H0.length ∧ Rep F' (M1 ++ M.drop H0.length) v r ∧ Inv F' (M1 ++ M.drop H0.length) w' (H0 ++ X) ∧ Ext F M w F' (M1 ++ M.drop H0.length) w') := by
  intro F M w vals hi hr
  refine (h.1.2 F (M.take H0.length) w vals (hi.take hl) ⟨hr.1, fun j hj => (hr.2 j hj).take _ (lts_getD hg)⟩).mono ?_
  rintro e w' ⟨v, r', H', F', M1, rfl, ⟨rfl, rfl⟩, hv, hi', x⟩
  obtain ⟨a, b⟩ := hi.backN hlive hi' x
  exact ⟨v, F', M1, rfl, hi'.len, hv.mono (.refl _) (.append _ _), a, b⟩

/-- A quiet operation comes up, more things lying behind. -/
theorem Yc.wpTail {o : Oper} {g : Nat → V} {n : Nat} {H0 X : List O} {r : V} (h : Yc P o g H0 r) (hl : hpLt H0.length H0 = true) (hlive : H0.all O.live = true) (hg : ∀ t, (g t).lt H0.length = true)
    {F : Mem} {M : Pls} {w : World} {a : Act} (rel : RelT F M a w g n (H0 ++ X)) {next : Act → World → Prop} {Q : Exit → Act → World → Prop}
    (hn : ∀ v w' F' M1, M1.length = H0.length → Rep F' (M1 ++ M.drop H0.length) v r → Inv F' (M1 ++ M.drop H0.length) w' (H0 ++ X) → Ext F M w F' (M1 ++ M.drop H0.length) w' → next (a.put o.dst v) w') : o.wp P a w next Q := by
  rcases h with h | ⟨f, args, ats, k, first, cap, ho, hf, hc⟩
  · obtain ⟨v, w', F', M1, hrun, hm1, hv, hi, x⟩ := h.tail hl hlive hg F M w a.eval rel.inv rel.ev
    unfold Oper.wp
    rcases hrun with hrun | ⟨hrun, rfl⟩
    · rw [hrun]; exact hn _ _ _ _ hm1 hv hi x
    · rw [hrun]; exact hn _ _ _ _ hm1 hv hi x
  · have hv := rel.ev f
    have hflt := evO_lt hg f
    rw [hf] at hv hflt
    generalize hfv : a.eval f = fv at hv
    cases hv with
    | fn _ A C _ _ hA hC hrA hrC =>
      have hrun : (execOp a.eval o).run P w = .ok (.enter k (A ++ args.map a.eval ++ C)) w := by
        have := hc.1.1 w (A ++ args.map a.eval ++ C)
        simp [execOp, ho, resolve, hfv, Deferred.ofValue, invoke] at *
        exact this
      unfold Oper.wp
      rw [hrun]
      show Calls P k _ w _
      have hreps : Reps F M (A.toList ++ (args.map a.eval).toList ++ C.toList) (first ++ args.toList.map (evO g) ++ cap) := by
        refine reps_append (reps_append ⟨by simpa using hA, fun j hj => ?_⟩ ⟨by simp, fun j hj => ?_⟩) ⟨by simpa using hC, fun j hj => ?_⟩
        · simpa [List.getD_eq_getElem?_getD, Array.getD_eq_getD_getElem?] using hrA j hj
        · simp at hj
          simp [List.getD_eq_getElem?_getD, hj]
          exact rel.ev _
        · simpa [List.getD_eq_getElem?_getD, Array.getD_eq_getD_getElem?] using hrC j hj
      have hlt : lts H0.length (first ++ args.toList.map (evO g) ++ cap) = true := by
        simp [V.lt] at hflt
        have ha : ∀ l m : List V, lts H0.length l = true → lts H0.length m = true → lts H0.length (l ++ m) = true := by
          intro l m h1 h2
          induction l with
          | nil => exact h2
          | cons x l ih => simp [lts] at h1 ⊢; exact ⟨h1.1, ih h1.2⟩
        refine ha _ _ (ha _ _ hflt.1 ?_) hflt.2
        have : ∀ l : List Operand, lts H0.length (l.map (evO g)) = true := by
          intro l
          induction l with
          | nil => rfl
          | cons x l ih => simp [lts]; exact ⟨evO_lt hg x, ih⟩
        exact this _
      have hcc := hc.tail hl hlive hlt F M w _ rel.inv hreps
      have e : (A.toList ++ (args.map a.eval).toList ++ C.toList).toArray = A ++ args.map a.eval ++ C := by
        apply Array.ext'; simp
      rw [e] at hcc
      refine hcc.mono ?_
      rintro e w' ⟨v, F', M1, rfl, hm1, hvr, hi, x⟩
      exact hn _ _ F' M1 hm1 hvr hi x
theorem mask_lt {o : Oper} {g : Nat → V} {n : Nat} (h : ∀ t, uses o t = true → (g t).lt n = true) (t : Nat) : (mask o g t).lt n = true := by
  unfold mask
  split
  · rename_i hu; exact h t hu
  · rfl
theorem QS.wpTail {ops : Array Oper} {g : Nat → V} {n : Nat} {H0 X : List O} {o : Oper} {r : V} {i : Nat} (hi : ops[i]? = some o) (h : QS P ops g H0 o r) (hl : hpLt H0.length H0 = true) (hlive : H0.all O.live = true) (hg : ∀ t, uses o t = true → (g t).lt H0.length = true)
    {F : Mem} {M : Pls} {w : World} {a : Act} (rel : RelT F M a w g n (H0 ++ X)) {K : Act → World → Prop} {Q : Exit → Act → World → Prop}
    (hk : ∀ a' w' F' M1, M1.length = H0.length → RelT F' (M1 ++ M.drop H0.length) a' w' (putG g n o.dst r) n (H0 ++ X) → Ext F M w F' (M1 ++ M.drop H0.length) w' → K a' w') : Go.wpOp P ops Q i K a w := by
  have hMl : M = M.take H0.length ++ M.drop H0.length := (List.take_append_drop _ _).symm
  have hMt : (M.take H0.length).length = H0.length := by have := rel.inv.len; simp at this ⊢; omega
  have go : Yc P o (mask o g) H0 r → o.wp P a w K Q := fun hy =>
    hy.wpTail hl hlive (mask_lt hg) (rel.masked o) fun v w' F' M1 hm1 hv hinv x => hk _ w' F' M1 hm1 (rel.put x.fle x.mle hinv o.dst hv) x
  have stay : K (a.put o.dst undef) w → True := fun _ => trivial
  unfold Go.wpOp
  simp only [hi]
  have quiet : r = .d (.lit undef) → K (a.put o.dst undef) w := fun hr => by
    subst hr
    refine hk _ w F (M.take H0.length) hMt ?_ ?_
    · rw [← hMl]; exact rel.put (.refl _) (.refl _) rel.inv o.dst (Rep.lit undef)
    · rw [← hMl]; exact .refl _ _ _
  cases h with
  | plain hg' h => rw [if_pos (by simp [Region.wanted, hg'])]; exact .inl (go h)
  | yes hg' ht hb h => rw [if_pos (by rw [wanted_g hg' ht hb rel]; simp)]; exact .inl (go h)
  | @no j t want hg' ht hb h =>
    rw [if_neg (by rw [wanted_g hg' ht hb rel]; cases want <;> simp)]
    exact quiet h
  | @skip j t want c hg' ht hb h =>
    rw [if_neg (by rw [skipped_g hg' ht hb rel]; simp)]
    exact quiet h

/-- A new row of cells, at a place that is kept free. -/
theorem alloc_at {F : Mem} {M : Pls} {w : World} {H : List O} {i : Nat} (hi : Inv F M w H) (hH : H[i]? = some .dead) (hM : M[i]? = some .hole) (ty : TypeId) (c : Array Value) (cells : List V) (hs : c.size = cells.length)
    (hr : ∀ j, j < cells.length → Rep F M (c.getD j undef) (cells.getD j .any)) (h1 : ∀ j, j < cells.length → (c.getD j undef).oneCell' = true) :
    Inv F (M.set i (.row w.heap.size)) (w.alloc (.cells c ty)) (H.set i (.row ty cells)) ∧ Ext F M w F (M.set i (.row w.heap.size)) (w.alloc (.cells c ty)) ∧
      Rep F (M.set i (.row w.heap.size)) (.pointer (some ⟨w.heap.size, 0, none⟩)) (.bx i 0) := by
  have hiM : i < M.length := (List.getElem?_eq_some_iff.1 hM).1
  have hiH : i < H.length := (List.getElem?_eq_some_iff.1 hH).1
  have hlen := hi.len
  have mle : Pls.le M (M.set i (.row w.heap.size)) := fun j p h => by
    by_cases hj : i = j
    · subst hj; rw [hM] at h; cases h; exact ⟨_, List.getElem?_set_self hiM, trivial⟩
    · exact ⟨p, by rw [List.getElem?_set_ne hj]; exact h, p.le_refl⟩
  refine ⟨⟨fun a v h => cell_alloc w _ (hi.cells a v h), by simp [hlen], ?_, ?_, ?_, hi.gnd⟩, ⟨.refl _, mle, by simp, rfl, rfl, rfl, fun k hk _ => heap_push_old w _ k hk, fun a h h' => absurd h h', ?_⟩, .bx 0 (List.getElem?_set_self hiM)⟩
  · intro j o p h2 h3
    by_cases hj : i = j
    · subst hj
      rw [List.getElem?_set_self hiH] at h2; cases h2
      rw [List.getElem?_set_self hiM] at h3; cases h3
      exact .row ty cells w.heap.size c (heap_alloc_new w _) hs (fun j hj => (hr j hj).mono (.refl _) mle) h1 (F_new hi)
    · rw [List.getElem?_set_ne hj] at h2 h3
      exact (hi.objs j o p h2 h3).mono (.refl _) mle (fun b e => heap_push_old w _ b (hi.inb j p b h3 e)) (fun b e o s h => h)
  · intro a b o o' p p' k hne h2 h3 l1 l2 m1 m2 e1 e2
    by_cases ha : i = a <;> by_cases hb : i = b
    · omega
    · subst ha
      rw [List.getElem?_set_self hiM] at m1; cases m1
      rw [List.getElem?_set_ne hb] at m2
      have := hi.inb b p' k m2 e2
      simp [Pl.blk] at e1; omega
    · subst hb
      rw [List.getElem?_set_self hiM] at m2; cases m2
      rw [List.getElem?_set_ne ha] at m1
      have := hi.inb a p k m1 e1
      simp [Pl.blk] at e2; omega
    · rw [List.getElem?_set_ne ha] at h2 m1
      rw [List.getElem?_set_ne hb] at h3 m2
      exact hi.sep a b o o' p p' k hne h2 h3 l1 l2 m1 m2 e1 e2
  · intro j p b h2 e
    by_cases hj : i = j
    · subst hj
      rw [List.getElem?_set_self hiM] at h2; cases h2
      simp [Pl.blk] at e; subst e; simp
    · rw [List.getElem?_set_ne hj] at h2
      have := hi.inb j p b h2 e
      simp; omega
  · intro j p b h2 e
    by_cases hj : i = j
    · subst hj
      rw [List.getElem?_set_self hiM] at h2; cases h2
      simp [Pl.blk] at e; exact .inl (by omega)
    · rw [List.getElem?_set_ne hj] at h2
      exact .inr ⟨j, p, h2, e⟩
theorem alloc_run {o : Oper} {t : TypeId} {z : V} (ho : o.op = .alloc t) (hz : zeroV P t = some z) (h1 : (cellsV z).all V.oneC = true) {F : Mem} {M : Pls} {w : World} {H : List O} {i : Nat} (ρ : Operand → Value) (hi : Inv F M w H) (hH : H[i]? = some .dead) (hM : M[i]? = some .hole) :
    ∃ v w', (execOp ρ o).run P w = .ok (.value v) w' ∧ Inv F (M.set i (.row w.heap.size)) w' (H.set i (.row t (cellsV z))) ∧ Ext F M w F (M.set i (.row w.heap.size)) w' ∧ Rep F (M.set i (.row w.heap.size)) v (.bx i 0) := by
  obtain ⟨v, hv, rfl⟩ := zero_run hz
  obtain ⟨hs, hr1, hr2⟩ := (rep_ofC F M v).cells h1
  obtain ⟨a1, a2, a3⟩ := alloc_at hi hH hM t v.cells (cellsV (ofC v)) hs hr1 hr2
  refine ⟨_, _, ?_, a1, a2, a3⟩
  have := hv w
  simp [execOp, ho, Instr.alloc, newVar, newRow, this]

theorem draw_core2 {ops : Array Oper} (R : (Nat → Bool) → Mem → Pls → Act → World → Prop) {Q : Exit → Act → World → Prop}
    (hback : ∀ j oj, ops[j]? = some oj → ∀ e ∈ oj.after, Region.binds .any e = true → e.on < j)
    (step : ∀ (L : Nat → Bool) (j : Nat) (o : Oper), ops[j]? = some o → L j = false → (∀ e ∈ o.after, Region.binds .any e = true → L e.on = true) →
      (∀ i oi, ops[i]? = some oi → L i = true → ∀ e ∈ oi.after, Region.binds .any e = true → L e.on = true) →
      ∀ (K : Act → World → Prop) F M a w, R L F M a w → (∀ F' M' a' w', R (fun m => if m = j then true else L m) F' M' a' w' → Ext F M w F' M' w' → K a' w') → wpOp P ops Q j K a w) :
    ∀ (fuel : Nat) (listed : Array Bool) (F : Mem) (M : Pls) (a : Act) (w : World), listed.size = ops.size → ops.size ≤ fuel + (listed.toList.filter (· = true)).length →
      (∀ j oj, ops[j]? = some oj → listed.getD j false = true → ∀ e ∈ oj.after, Region.binds .any e = true → listed.getD e.on false = true) →
      R (fun i => listed.getD i false) F M a w →
      (∀ F' M' a' w', R (fun i => decide (i < ops.size)) F' M' a' w' → Ext F M w F' M' w' → Q .normal a' w') → wpAny P .any ops Q fuel listed a w := by
  have hdone : ∀ listed : Array Bool, listed.size = ops.size → (∀ j oj, ops[j]? = some oj → listed.getD j false = true → ∀ e ∈ oj.after, Region.binds .any e = true → listed.getD e.on false = true) → Region.ready .any ops listed = [] →
      ∀ j, j < ops.size → listed.getD j false = true := by
    intro listed hs hc hr j
    induction j using Nat.strongRecOn with
    | _ j ih =>
      intro hj
      cases hl : listed.getD j false with
      | true => rfl
      | false =>
        exfalso
        have : j ∈ Region.ready .any ops listed := by
          refine mem_ready.2 ⟨?_, ops[j], by simp [hj], fun e he hb => ?_⟩
          · have hj' : j < listed.size := by omega
            simp [hj'] at hl ⊢; exact hl
          · have hlt := hback j ops[j] (by simp [hj]) e he hb
            exact ih e.on hlt (by omega)
        rw [hr] at this
        cases this
  have hfin : ∀ (listed : Array Bool) (F : Mem) (M : Pls) (a : Act) (w : World), listed.size = ops.size → (∀ j oj, ops[j]? = some oj → listed.getD j false = true → ∀ e ∈ oj.after, Region.binds .any e = true → listed.getD e.on false = true) →
      R (fun i => listed.getD i false) F M a w →
      (∀ F' M' a' w', R (fun i => decide (i < ops.size)) F' M' a' w' → Ext F M w F' M' w' → Q .normal a' w') → Region.ready .any ops listed = [] → Q .normal a w := by
    intro listed F M a w hs hc rel hQ hr
    refine hQ F M a w ?_ (.refl _ _ _)
    have e : (fun i => listed.getD i false) = fun i => decide (i < ops.size) := funext fun i => by
      by_cases hi : i < ops.size
      · rw [hdone listed hs hc hr i hi]; simp [hi]
      · have hi' : ¬ i < listed.size := by omega
        simp [hi, hi']
    rw [e] at rel
    exact rel
  intro fuel
  induction fuel with
  | zero =>
    intro listed F M a w hs hcount hc rel hQ
    have hall : ∀ j, j < listed.size → listed.getD j false = true := by
      intro j hj
      have h1 : (listed.toList.filter (· = true)).length = listed.toList.length := by
        have := List.length_filter_le (· = true) listed.toList
        simp at this ⊢ hcount
        omega
      have h2 := List.length_filter_eq_length_iff.1 h1 (listed[j]'hj) (by simp)
      simpa [hj] using h2
    have hr : Region.ready .any ops listed = [] := by
      refine List.eq_nil_iff_forall_not_mem.2 fun j hj => ?_
      obtain ⟨h0, o, ho, _⟩ := mem_ready.1 hj
      have hj' : j < listed.size := by rw [hs]; exact (Array.getElem?_eq_some_iff.1 ho).1
      have := hall j hj'
      simp [hj'] at h0 this
      rw [h0] at this; cases this
    exact ⟨hr, hfin listed F M a w hs hc rel hQ hr⟩
  | succ fuel ih =>
    intro listed F M a w hs hcount hc rel hQ
    refine ⟨fun hr => hfin listed F M a w hs hc rel hQ hr, fun j hj => ?_⟩
    obtain ⟨h0, o, ho, hdeps⟩ := mem_ready.1 hj
    have hjs : j < listed.size := by rw [hs]; exact (Array.getElem?_eq_some_iff.1 ho).1
    have h0' : listed.getD j false = false := by simp [hjs] at h0 ⊢; exact h0
    have hg : ∀ i, (listed.setIfInBounds j true).getD i false = if i = j then true else listed.getD i false := by
      intro i
      by_cases hij : i = j
      · subst hij; simp [hjs]
      · rw [if_neg hij, getD_set_ne false (Ne.symm hij)]
    refine step (fun i => listed.getD i false) j o ho h0' hdeps hc _ F M a w rel fun F' M' a' w' rel' x => ?_
    refine ih _ F' M' a' w' (by simpa using hs) ?_ ?_ ?_ (fun F'' M'' a'' w'' r' x' => hQ F'' M'' a'' w'' r' (x.trans x'))
    · have hcnt : ((listed.setIfInBounds j true).toList.filter (· = true)).length = (listed.toList.filter (· = true)).length + 1 := by
        have hl : listed.toList[j]'(by simpa using hjs) = false := by simp [hjs] at h0'; simpa using h0'
        rw [Array.toList_setIfInBounds]
        have hsplit := List.set_eq_take_append_cons_drop (l := listed.toList) (i := j) (a := true)
        rw [if_pos (by simpa using hjs)] at hsplit
        have horig : listed.toList = listed.toList.take j ++ false :: listed.toList.drop (j + 1) := by
          conv => lhs; rw [← List.take_append_drop j listed.toList]
          rw [List.drop_eq_getElem_cons (by simpa using hjs), hl]
        rw [hsplit]
        conv => rhs; rw [horig]
        simp only [List.filter_append, List.length_append, List.filter_cons]
        simp
        omega
      rw [hcnt]; omega
    · intro i oi hoi hl e he hb
      rw [hg] at hl ⊢
      by_cases hon : e.on = j
      · rw [if_pos hon]
      · rw [if_neg hon]
        by_cases hij : i = j
        · subst hij
          have : oi = o := Option.some.inj (hoi.symm.trans ho)
          subst this
          exact hdeps e he hb
        · rw [if_neg hij] at hl
          exact hc i oi hoi hl e he hb
    · have e : (fun i => (listed.setIfInBounds j true).getD i false) = (fun m => if m = j then true else listed.getD m false) := funext hg
      rw [e]; exact rel'

/-! What the effects that have come up so far have made of the things behind. -/
def xStep (b : Bool) (e : Option (Nat × O)) (X : List O) : List O := match b, e with
  | true, some (j, o) => X.set j o
  | _, _ => X
theorem xStep_len (b : Bool) (e : Option (Nat × O)) (X : List O) : (xStep b e X).length = X.length := by
  unfold xStep
  split <;> simp
theorem xStep_false (e : Option (Nat × O)) (X : List O) : xStep false e X = X := rfl
theorem xStep_get (b : Bool) (e : Option (Nat × O)) (X : List O) (j : Nat) : (xStep b e X)[j]? = match e with
    | some (j', o) => if j' = j ∧ b = true then (if j < X.length then some o else none) else X[j]?
    | none => X[j]? := by
  cases e with
  | none => cases b <;> rfl
  | some p =>
    obtain ⟨j', o⟩ := p
    cases b with
    | false => simp [xStep]
    | true =>
      simp only [xStep]
      by_cases hj : j' = j
      · subst hj; simp [List.getElem?_set]
      · rw [List.getElem?_set_ne hj]; simp [hj]
def xF (L : Nat → Bool) : Nat → List (Option (Nat × O)) → List O → List O
  | _, [], X => X
  | k, e :: es, X => xF L (k + 1) es (xStep (L k) e X)
theorem xF_len {L : Nat → Bool} : ∀ (es : List (Option (Nat × O))) (k : Nat) (X : List O), (xF L k es X).length = X.length
  | [], _, _ => rfl
  | e :: es, k, X => by rw [xF, xF_len es, xStep_len]
/-- One place: what it holds goes by the effects on it alone. -/
theorem xF_congr {L L' : Nat → Bool} {j : Nat} : ∀ (es : List (Option (Nat × O))) (k : Nat) (X X' : List O), X[j]? = X'[j]? →
    (∀ i o, es[i]? = some (some (j, o)) → L (k + i) = L' (k + i)) → (xF L k es X)[j]? = (xF L' k es X')[j]?
  | [], _, _, _, h, _ => h
  | e :: es, k, X, X', h, hl => by
    rw [xF, xF]
    refine xF_congr es (k + 1) _ _ ?_ (fun i o hi => by have := hl (i + 1) o (by simpa using hi); rwa [show k + (i + 1) = k + 1 + i by omega] at this)
    have hlen : j < X.length ↔ j < X'.length := by
      constructor
      · intro hj
        rcases Nat.lt_or_ge j X'.length with h1 | h1
        · exact h1
        · rw [List.getElem?_eq_none h1, List.getElem?_eq_getElem hj] at h; cases h
      · intro hj
        rcases Nat.lt_or_ge j X.length with h1 | h1
        · exact h1
        · rw [List.getElem?_eq_none h1, List.getElem?_eq_getElem hj] at h; cases h
    rw [xStep_get, xStep_get]
    cases e with
    | none => exact h
    | some p =>
      obtain ⟨j', o⟩ := p
      by_cases hj : j' = j
      · subst hj
        have := hl 0 o (by simp)
        rw [Nat.add_zero] at this
        simp only [this, hlen, h]
      · simp only [hj, false_and, if_false]; exact h
theorem xF_none {L : Nat → Bool} : ∀ (es : List (Option (Nat × O))) (k : Nat) (X : List O), (∀ m, k ≤ m → L m = false) → xF L k es X = X
  | [], _, _, _ => rfl
  | e :: es, k, X, h => by
    rw [xF, h k (Nat.le_refl _), xStep_false]
    exact xF_none es (k + 1) _ fun m hm => h m (by omega)
/-- One more effect, none behind it on the same place: as if it had been done last. -/
theorem xF_set {L : Nat → Bool} {i0 j0 : Nat} {o0 : O} (es : List (Option (Nat × O))) (X : List O) (h : es[i0]? = some (some (j0, o0))) (hL : L i0 = false)
    (hlater : ∀ i o, es[i]? = some (some (j0, o)) → i0 < i → L i = false) : xF (fun m => if m = i0 then true else L m) 0 es X = (xF L 0 es X).set j0 o0 := by
  apply List.ext_getElem?
  intro j
  by_cases hj : j0 = j
  · subst hj
    rw [List.getElem?_set, if_pos rfl, xF_len]
    have key : ∀ (es : List (Option (Nat × O))) (k : Nat) (X : List O), k ≤ i0 → es[i0 - k]? = some (some (j0, o0)) → (∀ i o, es[i]? = some (some (j0, o)) → i0 < k + i → L (k + i) = false) →
        (xF (fun m => if m = i0 then true else L m) k es X)[j0]? = if j0 < X.length then some o0 else none := by
      intro es
      induction es with
      | nil => intro k X _ h _; simp at h
      | cons e es ih =>
        intro k X hk h hl
        rw [xF]
        by_cases hki : k = i0
        · subst hki
          simp at h
          subst h
          have hx : xStep (if k = k then true else L k) (some (j0, o0)) X = X.set j0 o0 := by rw [if_pos rfl]; rfl
          rw [hx]
          have : (xF (fun m => if m = k then true else L m) (k + 1) es (X.set j0 o0))[j0]? = (xF (fun _ => false) (k + 1) es (X.set j0 o0))[j0]? :=
            xF_congr es (k + 1) _ _ rfl fun i o hi => by
              have := hl (i + 1) o (by simpa using hi) (by omega)
              rw [show k + (i + 1) = k + 1 + i by omega] at this
              rw [if_neg (by omega), this]
          rw [this, xF_none _ _ _ (fun _ _ => rfl), List.getElem?_set, if_pos rfl]
        · rw [ih (k + 1) _ (by omega) (by rw [show i0 - k = (i0 - (k + 1)) + 1 by omega] at h; simpa using h) (fun i o hi hlt => by
            have := hl (i + 1) o (by simpa using hi) (by omega)
            rwa [show k + (i + 1) = k + 1 + i by omega] at this), xStep_len]
    have := key es 0 X (Nat.zero_le _) (by simpa using h) (fun i o hi hlt => by have := hlater i o hi (by omega); rwa [Nat.zero_add])
    rw [this]
  · rw [List.getElem?_set_ne hj]
    refine xF_congr es 0 _ _ rfl fun i o hi => ?_
    rw [Nat.zero_add]
    by_cases hii : i = i0
    · subst hii; rw [h] at hi; simp at hi; exact absurd hi.1 hj
    · rw [if_neg hii]

theorem xF_same {L : Nat → Bool} {i0 : Nat} (es : List (Option (Nat × O))) (X : List O) (h : es[i0]? = some none) : xF (fun m => if m = i0 then true else L m) 0 es X = xF L 0 es X := by
  apply List.ext_getElem?
  intro j
  refine xF_congr es 0 _ _ rfl fun i o hi => ?_
  rw [Nat.zero_add]
  by_cases hii : i = i0
  · subst hii; rw [h] at hi; cases hi
  · rw [if_neg hii]

/-- An operation that turns one thing alone, whatever else is there. -/
def EffOK (P : Program) (o : Oper) (g : Nat → V) (i : Nat) (x : O) (r : V) (o' : O) : Prop :=
  ∀ F M w (a : Act) H, Inv F M w H → H[i]? = some x → (x = .dead → M[i]? = some .hole) → (∀ y ∈ o.op.operands, Rep F M (a.eval y) (evO g y)) → ∀ (next : Act → World → Prop) (Q : Exit → Act → World → Prop),
    (∀ v F' p' w', Inv F' (M.set i p') w' (H.set i o') → Ext F M w F' (M.set i p') w' → Rep F' (M.set i p') v r → next (a.put o.dst v) w') → o.wp P a w next Q
/-- What an operation of such a region does. -/
inductive ES (P : Program) (ops : Array Oper) (n0 : Nat) (H0 : List O) (g : Nat → V) (X : List O) (o : Oper) (r : V) : Option (Nat × O) → Prop where
  | quiet (h : QS P ops g H0 o r) (hg : ∀ t, uses o t = true → (g t).lt n0 = true) : ES P ops n0 H0 g X o r none
  | alloc {t : TypeId} {z : V} {j : Nat} (ho : o.op = .alloc t) (hgd : o.guard = none) (hz : zeroV P t = some z) (h1 : (cellsV z).all V.oneC = true) (hr : r = .bx (n0 + j) 0) (hd : X[j]? = some .dead) : ES P ops n0 H0 g X o r (some (j, .row t (cellsV z)))
  | store {t ty : TypeId} {a x : Operand} {agg : Bool} {n j off : Nat} {cells : List V} (ho : o.op = .store t a x) (hgd : o.guard = none) (ht : TyIs P t agg n) (ha : evO g a = .bx (n0 + j) off) (hX : X[j]? = some (.row ty cells))
      (hx : (cellsV (evO g x)).all V.oneC = true) (hn : (cellsV (evO g x)).length = n) (hfit : off + n ≤ cells.length) (hr : r = .d (.lit undef)) : ES P ops n0 H0 g X o r (some (j, .row ty (setsV cells off (cellsV (evO g x)))))
  | eff {j : Nat} {x o' : O} (hgd : o.guard = none) (hX : X[j]? = some x) (hl : o'.live = true) (h : EffOK P o g (n0 + j) x r o') : ES P ops n0 H0 g X o r (some (j, o'))

theorem op_mem_uses {o : Oper} {x : Operand} (hx : x ∈ o.op.operands) {g g' : Nat → V} (h : ∀ t, uses o t = true → g t = g' t) : evO g x = evO g' x := by
  cases x with
  | tmp t => exact h t (uses_mem hx rfl)
  | _ => rfl
theorem wpOp_run {ops : Array Oper} {Q : Exit → Act → World → Prop} {i : Nat} {o : Oper} (hi : ops[i]? = some o) (hgd : o.guard = none) {K : Act → World → Prop} {a : Act} {w : World} (h : o.wp P a w K Q) : wpOp P ops Q i K a w := by
  unfold wpOp
  simp only [hi]
  rw [if_pos (by simp [Region.wanted, hgd])]
  exact .inl h

theorem Inv.holes {F : Mem} {M : Pls} {w : World} {H : List O} (hi : Inv F M w H) (m : Nat) : Inv F (M ++ List.replicate m .hole) w (H ++ List.replicate m .dead) := by
  have hlen := hi.len
  have getM : ∀ (i : Nat) (p : Pl), (M ++ List.replicate m .hole)[i]? = some p → M[i]? = some p ∨ (M.length ≤ i ∧ p = .hole) := fun i p h => by
    by_cases hl : i < M.length
    · rw [List.getElem?_append_left hl] at h; exact .inl h
    · rw [List.getElem?_append_right (by omega)] at h
      have := List.getElem?_replicate (a := Pl.hole) (n := m) (i := i - M.length)
      rw [this] at h
      split at h
      · cases h; exact .inr ⟨by omega, rfl⟩
      · cases h
  have getH : ∀ (i : Nat) (o : O), (H ++ List.replicate m .dead)[i]? = some o → H[i]? = some o ∨ (H.length ≤ i ∧ o = .dead) := fun i p h => by
    by_cases hl : i < H.length
    · rw [List.getElem?_append_left hl] at h; exact .inl h
    · rw [List.getElem?_append_right (by omega)] at h
      have := List.getElem?_replicate (a := O.dead) (n := m) (i := i - H.length)
      rw [this] at h
      split at h
      · cases h; exact .inr ⟨by omega, rfl⟩
      · cases h
  refine ⟨hi.cells, by simp [hlen], fun i o p h1 h2 => ?_, fun i j o o' p p' b hne h1 h2 l1 l2 m1 m2 e1 e2 => ?_, fun i p b h e => ?_, hi.gnd⟩
  · rcases getH i o h1 with h1 | ⟨h1, rfl⟩
    · rcases getM i p h2 with h2 | ⟨h2, rfl⟩
      · exact (hi.objs i o p h1 h2).mono (.refl _) (.append _ _) (fun _ _ => rfl) (fun _ _ _ _ h => h)
      · have := (List.getElem?_eq_some_iff.1 h1).1; omega
    · exact .dead p
  · rcases getM i p m1 with m1 | ⟨_, rfl⟩
    · rcases getM j p' m2 with m2 | ⟨_, rfl⟩
      · rcases getH i o h1 with h1 | ⟨_, rfl⟩
        · rcases getH j o' h2 with h2 | ⟨_, rfl⟩
          · exact hi.sep i j o o' p p' b hne h1 h2 l1 l2 m1 m2 e1 e2
          · cases l2
        · cases l1
      · cases e2
    · cases e1
  · rcases getM i p h with h | ⟨_, rfl⟩
    · exact hi.inb i p b h e
    · cases e

set_option maxHeartbeats 1000000 in
theorem SExec.region_eff {id : Nat} {ops : Array Oper} {s : St} {Q : Exit → St → Prop} (hm : P.follows .mixedOrders = true) (hok : okDraw ops = true) (H0 Xp : List O) (hs : s.hp = H0 ++ Xp) (hl : hpLt H0.length H0 = true) (hlive : H0.all O.live = true) (hXp : Xp.all O.live = true)
    (m : Nat) (zs : List (Oper × V)) (es : List (Option (Nat × O))) (hz : zs.map (·.1) = ops.toList) (hel : es.length = ops.size)
    (hE : ∀ i i' j o o' oi, es[i]? = some (some (j, o)) → es[i']? = some (some (j, o')) → i < i' → ops[i']? = some oi → ∃ e ∈ oi.after, Region.binds .any e = true ∧ e.on = i)
    (hq : ∀ i z e, zs[i]? = some z → es[i]? = some e → ES P ops H0.length H0 (gF s.n (fun m => decide (m < i)) 0 zs s.get) (xF (fun m => decide (m < i)) 0 es (Xp ++ List.replicate m .dead)) z.1 z.2 e)
    (s' : St) (hn : s'.n = s.n) (hh : s'.hp = H0 ++ xF (fun _ => true) 0 es (Xp ++ List.replicate m .dead)) (hg : ∀ t, EntV (gF s.n (fun _ => true) 0 zs s.get t) (s'.get t)) (h : Q .normal s') : SExec P (.region id ops true) s Q := by
  intro F M w a rel
  refine wp_region_any hm ?_
  have hlen : zs.length = ops.size := by have := congrArg List.length hz; simpa using this
  have hzi : ∀ (i : Nat) (o : Oper), ops[i]? = some o → ∃ r : V, zs[i]? = some (o, r) := fun i o ho => by
    have h1 : (zs.map (·.1))[i]? = some o := by rw [hz]; simpa using ho
    rw [List.getElem?_map] at h1
    cases hzz : zs[i]? with
    | none => simp [hzz] at h1
    | some z => simp [hzz] at h1; exact ⟨z.2, by rw [← h1]⟩
  have hzo : ∀ (i : Nat) (z : Oper × V), zs[i]? = some z → ops[i]? = some z.1 := fun i z h => by
    have h1 : (zs.map (·.1))[i]? = some z.1 := by rw [List.getElem?_map, h]; rfl
    rw [hz] at h1; simpa using h1
  have hxl : M.length = H0.length + Xp.length := by rw [rel.inv.len, hs]; simp
  generalize hX0 : Xp ++ List.replicate m O.dead = X0 at hq hh
  refine draw_core2 (P := P) (R := fun L F M a w => RelT F M a w (gF s.n L 0 zs s.get) s.n (H0 ++ xF L 0 es X0) ∧ ∀ j, (xF L 0 es X0)[j]? = some .dead → M[H0.length + j]? = some .hole)
    (fun j oj hj => (okDraw_spec hok hj).1) ?_ ops.size (Array.replicate ops.size false) F (M ++ List.replicate m .hole) a { w with drawn := w.drawn + 1 } (by simp) (by simp) ?_ ?_ ?_
  · intro L j o ho hLj hdeps hclosed K F M a w ⟨rel, hole⟩ hk
    obtain ⟨r, hzj⟩ := hzi j o ho
    have hej : ∃ e, es[j]? = some e := by
      have : j < es.length := by rw [hel]; exact (Array.getElem?_eq_some_iff.1 ho).1
      exact ⟨es[j], by simp [this]⟩
    obtain ⟨e, hej⟩ := hej
    have hstep := hq j _ e hzj hej
    obtain ⟨_, hspec⟩ := okDraw_spec hok ho
    -- what the operation looks at is as in the lexical run
    have hlook : ∀ t, t ∈ o.looksAt ops → gF s.n (fun m => decide (m < j)) 0 zs s.get t = gF s.n L 0 zs s.get t := by
      intro t ht
      refine gF_congr zs 0 s.get s.get rfl fun i z hz' hd => ?_
      rw [Nat.zero_add]
      have hoi := hzo i z hz'
      by_cases hij : i = j
      · subst hij; rw [hLj]; simp
      · rcases (hspec i z.1 t hoi hij hd).2 ht with ⟨h1, e, he, hb, hon⟩ | ⟨h1, e, he, hb, hon⟩
        · rw [← hon, hdeps e he hb]; simp; omega
        · have : L i = false := by
            cases hl : L i with
            | false => rfl
            | true =>
              have := hclosed i z.1 hoi hl e he hb
              rw [hon, hLj] at this; cases this
          rw [this]; simp; omega
    have huse : ∀ t, uses o t = true → gF s.n (fun m => decide (m < j)) 0 zs s.get t = gF s.n L 0 zs s.get t := fun t ht => hlook t (uses_looks ht)
    have hset : gF s.n (fun m => if m = j then true else L m) 0 zs s.get = putG (gF s.n L 0 zs s.get) s.n o.dst r := by
      refine gF_set zs 0 s.get (Nat.zero_le _) (by simpa using hzj) hLj ?_
      intro i z hz' hne hd
      cases hdz : z.1.dst with
      | none => rfl
      | some t =>
        exfalso
        rw [Nat.zero_add] at hne
        have := (hspec i z.1 t (hzo i z hz') hne hdz).1
        exact this (by rw [← hd]; exact hdz)
    -- the slot that an effect is on
    have hslot : ∀ (k : Nat) (ob : O), e = some (k, ob) → (xF L 0 es X0)[k]? = (xF (fun m => decide (m < j)) 0 es X0)[k]? ∧ (∀ i o', es[i]? = some (some (k, o')) → j < i → L i = false) := by
      rintro k ob rfl
      have hlater : ∀ i o', es[i]? = some (some (k, o')) → j < i → L i = false := fun i o' hi hji => by
        cases hl : L i with
        | false => rfl
        | true =>
          have hio : i < ops.size := by rw [← hel]; exact (List.getElem?_eq_some_iff.1 hi).1
          obtain ⟨e', he', hb', hon⟩ := hE j i k ob o' ops[i] hej hi hji (by simp [hio])
          have := hclosed i ops[i] (by simp [hio]) hl e' he' hb'
          rw [hon, hLj] at this; cases this
      refine ⟨xF_congr es 0 _ _ rfl fun i o' hi => ?_, hlater⟩
      rw [Nat.zero_add]
      rcases Nat.lt_trichotomy i j with hij | hij | hij
      · obtain ⟨e', he', hb', hon⟩ := hE i j k o' ob o hi hej hij ho
        rw [← hon, hdeps e' he' hb']; simp; omega
      · subst hij; rw [hLj]; simp
      · rw [hlater i o' hi hij]; simp; omega
    cases hstep with
    | quiet hqs hlt =>
      have hqs' : QS P ops (gF s.n L 0 zs s.get) H0 o r := hqs.congr hlook
      refine hqs'.wpTail ho hl hlive (fun t ht => by rw [← huse t ht]; exact hlt t ht) rel fun a' w' F' M1 hm1 rel' x => ?_
      refine hk F' _ a' w' ⟨?_, fun k hd => ?_⟩ x
      · rw [hset, xF_same es X0 hej]; exact rel'
      · rw [xF_same es X0 hej] at hd
        rw [List.getElem?_append_right (by omega), List.getElem?_drop]
        rw [hm1, show H0.length + (H0.length + k - H0.length) = H0.length + k by omega]
        exact hole k hd
    | @alloc t z k hop hgd hzv h1 hr hd =>
      obtain ⟨hsame, hlater⟩ := hslot k _ rfl
      rw [← hsame] at hd
      have hH : (H0 ++ xF L 0 es X0)[H0.length + k]? = some .dead := by rw [List.getElem?_append_right (by omega)]; simpa using hd
      obtain ⟨v, w', hrun, hinv, x, hv⟩ := alloc_run (P := P) hop hzv h1 a.eval rel.inv hH (hole k hd)
      refine wpOp_run ho hgd ?_
      unfold Oper.wp
      rw [hrun]
      have hH' : (H0 ++ xF L 0 es X0).set (H0.length + k) (.row t (cellsV z)) = H0 ++ (xF L 0 es X0).set k (.row t (cellsV z)) := by
        rw [List.set_append_right _ _ (by omega)]; congr 2; omega
      rw [hH'] at hinv
      subst hr
      refine hk F _ _ w' ⟨?_, fun k' hd' => ?_⟩ x
      · rw [hset, xF_set es X0 hej hLj hlater]
        exact rel.put x.fle x.mle hinv o.dst hv
      · rw [xF_set es X0 hej hLj hlater] at hd'
        by_cases hkk : k = k'
        · subst hkk
          rw [List.getElem?_set] at hd'
          simp only [if_true] at hd'
          split at hd' <;> cases hd'
        · rw [List.getElem?_set_ne hkk] at hd'
          rw [List.getElem?_set_ne (by omega)]
          exact hole k' hd'
    | @store t ty p x agg nn k off cells hop hgd ht ha hX hx hnn hfit hr =>
      obtain ⟨hsame, hlater⟩ := hslot k _ rfl
      rw [← hsame] at hX
      have hpm : p ∈ o.op.operands := by rw [hop]; simp [Op.operands]
      have hxm : x ∈ o.op.operands := by rw [hop]; simp [Op.operands]
      have ep := op_mem_uses hpm huse
      have ex := op_mem_uses hxm huse
      have hH : (H0 ++ xF L 0 es X0)[H0.length + k]? = some (.row ty cells) := by rw [List.getElem?_append_right (by omega)]; simpa using hX
      rw [ep] at ha
      rw [ex] at hx hnn
      obtain ⟨w', hrun, hinv, xx⟩ := store_run (P := P) hop ht ha hH hx hnn hfit F M w a.eval rel.inv rel.ev
      refine wpOp_run ho hgd ?_
      unfold Oper.wp
      rw [hrun]
      have hH' : (H0 ++ xF L 0 es X0).set (H0.length + k) (.row ty (setsV cells off (cellsV (evO (gF s.n L 0 zs s.get) x)))) = H0 ++ (xF L 0 es X0).set k (.row ty (setsV cells off (cellsV (evO (gF s.n L 0 zs s.get) x)))) := by
        rw [List.set_append_right _ _ (by omega)]; congr 2; omega
      rw [hH'] at hinv
      subst hr
      refine hk F _ _ w' ⟨?_, fun k' hd' => ?_⟩ xx
      · rw [hset, xF_set es X0 hej hLj hlater, ex]
        exact rel.put xx.fle xx.mle hinv o.dst (Rep.lit undef)
      · rw [xF_set es X0 hej hLj hlater] at hd'
        by_cases hkk : k = k'
        · subst hkk
          rw [List.getElem?_set] at hd'
          simp only [if_true] at hd'
          split at hd' <;> cases hd'
        · rw [List.getElem?_set_ne hkk] at hd'
          exact hole k' hd'
    | @eff k x o' hgd hX hl' hE' =>
      obtain ⟨hsame, hlater⟩ := hslot k _ rfl
      rw [← hsame] at hX
      have hH : (H0 ++ xF L 0 es X0)[H0.length + k]? = some x := by rw [List.getElem?_append_right (by omega)]; simpa using hX
      refine wpOp_run ho hgd ?_
      refine hE' F M w a _ rel.inv hH (fun hd => hole k (by rw [hX, hd])) (fun y hy => by rw [op_mem_uses hy huse]; exact rel.ev y) _ _ ?_
      intro v F' p' w' hinv xx hv
      have hH' : (H0 ++ xF L 0 es X0).set (H0.length + k) o' = H0 ++ (xF L 0 es X0).set k o' := by
        rw [List.set_append_right _ _ (by omega)]; congr 2; omega
      rw [hH'] at hinv
      refine hk F' _ _ w' ⟨?_, fun k' hd' => ?_⟩ xx
      · rw [hset, xF_set es X0 hej hLj hlater]
        exact rel.put xx.fle xx.mle hinv o.dst hv
      · rw [xF_set es X0 hej hLj hlater] at hd'
        by_cases hkk : k = k'
        · subst hkk
          rw [List.getElem?_set] at hd'
          simp only [if_true] at hd'
          split at hd'
          · cases hd'; cases hl'
          · cases hd'
        · rw [List.getElem?_set_ne hkk] at hd'
          rw [List.getElem?_set_ne (by omega)]
          exact hole k' hd'
  · intro j oj hj hlst
    have hlt := (Array.getElem?_eq_some_iff.1 hj).1
    simp [hlt] at hlst
  · have hf : ∀ i, (Array.replicate ops.size false).getD i false = false := fun i => by
      rcases Nat.lt_or_ge i ops.size with h' | h'
      · simp [h']
      · simp [h']
    refine ⟨?_, fun j hd => ?_⟩
    · rw [gF_none _ _ _ (fun m _ => hf m), xF_none _ _ _ (fun m _ => hf m), ← hX0, ← List.append_assoc, ← hs]
      have hdi : Inv F M { w with drawn := w.drawn + 1 } s.hp := ⟨rel.inv.cells, rel.inv.len, fun i o p a b => (rel.inv.objs i o p a b).mono (.refl _) (.refl _) (fun _ _ => rfl) (fun _ _ _ _ h => h), rel.inv.sep, rel.inv.inb, rel.inv.gnd⟩
      exact ⟨rel.defers, rel.size, hdi.holes m, fun t => (rel.tmps t).mono (.refl _) (.append _ _)⟩
    · rw [xF_none _ _ _ (fun m _ => hf m), ← hX0] at hd
      have hjx : Xp.length ≤ j := by
        rcases Nat.lt_or_ge j Xp.length with h' | h'
        · rw [List.getElem?_append_left h'] at hd
          have := List.all_eq_true.1 hXp .dead (List.mem_iff_getElem?.2 ⟨j, hd⟩)
          cases this
        · exact h'
      have hjm : j < Xp.length + m := by
        have := (List.getElem?_eq_some_iff.1 hd).1
        simpa using this
      rw [List.getElem?_append_right (by omega), List.getElem?_replicate, if_pos (by omega)]
  · rintro F' M' a' w' ⟨rel', _⟩ x
    have hx0 : Ext F M w F (M ++ List.replicate m .hole) { w with drawn := w.drawn + 1 } := ⟨.refl _, .append _ _, Nat.le_refl _, rfl, rfl, rfl, fun _ _ _ => rfl, fun a h h' => absurd h h', fun i p b h e => by
      by_cases hl' : i < M.length
      · rw [List.getElem?_append_left hl'] at h; exact .inr ⟨i, p, h, e⟩
      · rw [List.getElem?_append_right (by omega), List.getElem?_replicate] at h
        split at h
        · cases h; cases e
        · cases h⟩
    have eg : gF s.n (fun i => decide (i < ops.size)) 0 zs s.get = gF s.n (fun _ => true) 0 zs s.get := gF_all zs 0 s.get (fun m _ h2 => by simp; omega)
    have exx : xF (fun i => decide (i < ops.size)) 0 es X0 = xF (fun _ => true) 0 es X0 := by
      apply List.ext_getElem?
      intro j
      refine xF_congr es 0 _ _ rfl fun i o hi => ?_
      have := (List.getElem?_eq_some_iff.1 hi).1
      simp; omega
    rw [eg, exx, ← hh] at rel'
    refine ⟨s', F', M', h, ⟨rel'.defers, rel'.size.trans hn.symm, rel'.inv, fun t => hg t F' M' _ (rel'.tmps t)⟩, hx0.trans x⟩

/-! ### The evaluator of such regions -/
def usesLt (o : Oper) (g : Nat → V) (n : Nat) : Bool := o.op.operands.toList.all fun | .tmp u => (g u).lt n | _ => true
theorem usesLt_spec {o : Oper} {g : Nat → V} {n : Nat} (h : usesLt o g n = true) (t : Nat) (ht : uses o t = true) : (g t).lt n = true := by
  unfold uses at ht
  obtain ⟨x, hx, hxt⟩ := List.any_eq_true.1 ht
  have := List.all_eq_true.1 h x hx
  cases x <;> simp at hxt
  subst hxt
  simpa using this

def ERun (P : Program) (ops : Array Oper) (n : Nat) (H0 : List O) : List (Oper × V) → List (Option (Nat × O)) → (Nat → V) → List O → Prop
  | [], [], _, _ => True
  | z :: zs, e :: es, g, X => ES P ops H0.length H0 g X z.1 z.2 e ∧ ERun P ops n H0 zs es (putG g n z.1.dst z.2) (xStep true e X)
  | _, _, _, _ => False
theorem ERun.at {ops : Array Oper} {n : Nat} {H0 : List O} : ∀ (zs : List (Oper × V)) (es : List (Option (Nat × O))) (k : Nat) (g : Nat → V) (X : List O), ERun P ops n H0 zs es g X → ∀ i z e, zs[i]? = some z → es[i]? = some e →
    ES P ops H0.length H0 (gF n (fun m => decide (m < k + i)) k zs g) (xF (fun m => decide (m < k + i)) k es X) z.1 z.2 e
  | [], _, _, _, _, _, i, z, e, h, _ => by simp at h
  | _ :: _, [], _, _, _, h, _, _, _, _, _ => h.elim
  | z :: zs, e :: es, k, g, X, hr, 0, z', e', h, h' => by
    simp at h h'; subst h; subst h'
    rw [Nat.add_zero, gF_none _ _ _ (fun m hm => by simp; omega), xF_none _ _ _ (fun m hm => by simp; omega)]
    exact hr.1
  | z :: zs, e :: es, k, g, X, hr, i + 1, z', e', h, h' => by
    have := ERun.at zs es (k + 1) _ _ hr.2 i z' e' (by simpa using h) (by simpa using h')
    rw [xF]
    simp only [gF]
    simp only [show k < k + (i + 1) by omega, decide_true, if_true]
    rwa [show k + 1 + i = k + (i + 1) by omega] at this

def fEStep (P : Program) (T : Tab) (ops : Array Oper) (o : Oper) (ih : St → List O → Nat → List (Nat × Nat) → Nat → (St → List O → List (Nat × Nat) → Prop) → Prop) (s : St) (X : List O) (c : Nat) (js : List (Nat × Nat)) (k : Nat) (K : St → List O → List (Nat × Nat) → Prop) : Prop := match s with
  | ⟨n, tm, H0⟩ => match o.op with
    | .alloc t => match o.guard, T t with
      | none, some i => match i.zero, X[c]? with
        | some z, some .dead => chk ((cellsV z).all V.oneC) (ih (putS n tm H0 o.dst (.bx (H0.length + c) 0)) (X.set c (.row t (cellsV z))) (c + 1) ((k, c) :: js) (k + 1) K)
        | _, _ => False
      | _, _ => False
    | .store t a x => match o.guard, T t, evO (fun t => getT t tm) a with
      | none, some i, .bx id off => match X[id - H0.length]? with
        | some (.row ty cells) => chk (decide (H0.length ≤ id) && (cellsV (evO (fun t => getT t tm) x)).all V.oneC && decide ((cellsV (evO (fun t => getT t tm) x)).length = i.size) && decide (off + i.size ≤ cells.length))
            (ih (putS n tm H0 o.dst (.d (.lit undef))) (X.set (id - H0.length) (.row ty (setsV cells off (cellsV (evO (fun t => getT t tm) x))))) c ((k, id - H0.length) :: js) (k + 1) K)
        | _ => False
      | _, _, _ => False
    | _ => chk (usesLt o (fun t => getT t tm) H0.length) (fOpsQStep P T ops o [] (fun s' _ => ih s' X c js (k + 1) K) ⟨n, tm, H0⟩ (fun _ => True))
noncomputable def fE (P : Program) (T : Tab) (ops : Array Oper) (l : List Oper) : St → List O → Nat → List (Nat × Nat) → Nat → (St → List O → List (Nat × Nat) → Prop) → Prop :=
  @List.rec Oper (fun _ => St → List O → Nat → List (Nat × Nat) → Nat → (St → List O → List (Nat × Nat) → Prop) → Prop) (fun s X c js k K => K s X js) (fun o l ih => fEStep P T ops o ih) l

theorem quiet_one (hT : TabOk P T) {ops : Array Oper} {o : Oper} {s : St} {A : St → Prop} (h : fOpsQStep P T ops o [] (fun s' _ => A s') s (fun _ => True)) :
    ∃ r s', QS P ops s.get s.hp o r ∧ s'.n = s.n ∧ s'.hp = s.hp ∧ s'.get = putG s.get s.n o.dst r ∧ A s' := by
  have e : fOpsQStep P T ops o [] (fun s' _ => A s') s (fun _ => True) = fOpsQ P T ops [o] s A := by
    obtain ⟨n, tm, hp⟩ := s
    rw [fOpsQ_cons]
    unfold fOpsQStep
    cases o.guard with
    | none => rfl
    | some p =>
      obtain ⟨j, want⟩ := p
      dsimp only
      cases guardV ops (fun t => getT t tm) j with
      | none => rfl
      | some q => rfl
  rw [e, fOpsQ_eq] at h
  obtain ⟨zs, hz, hq, s', hk, hn, hh, hg⟩ := exOpsQ_sound hT h
  have hl : zs.length = 1 := by have := congrArg List.length hz; simpa using this
  obtain ⟨z, rfl⟩ := List.length_eq_one_iff.1 hl
  have hz : z.1 = o := by simpa using hz
  subst hz
  refine ⟨z.2, s', hq.1, hn, hh, ?_, hk⟩
  rw [hg 0]
  rfl

/-- What the evaluator finds. -/
structure FE (P : Program) (ops : Array Oper) (l : List Oper) (s : St) (X : List O) (js : List (Nat × Nat)) (k : Nat) (K : St → List O → List (Nat × Nat) → Prop) where
  zs : List (Oper × V)
  es : List (Option (Nat × O))
  s' : St
  js' : List (Nat × Nat)
  hz : zs.map (·.1) = l
  hel : es.length = l.length
  run : ERun P ops s.n s.hp zs es s.get X
  hn : s'.n = s.n
  hh : s'.hp = s.hp
  hg : ∀ k, s'.get = gF s.n (fun _ => true) k zs s.get
  slots : ∀ i j o, es[i]? = some (some (j, o)) → (k + i, j) ∈ js'
  keep : ∀ p ∈ js, p ∈ js'
  go : ∃ X', (∀ k, X' = xF (fun _ => true) k es X) ∧ K s' X' js'

theorem fE_sound (hT : TabOk P T) {ops : Array Oper} : ∀ (l : List Oper) (s : St) (X : List O) (c : Nat) (js : List (Nat × Nat)) (k : Nat) (K : St → List O → List (Nat × Nat) → Prop), fE P T ops l s X c js k K → Nonempty (FE P ops l s X js k K)
  | [], s, X, c, js, k, K, h => ⟨⟨[], [], s, js, rfl, rfl, trivial, rfl, rfl, fun _ => rfl, fun i j o h => by simp at h, fun p hp => hp, X, fun _ => rfl, h⟩⟩
  | o :: l, s, X, c, js, k, K, h => by
    have h : fEStep P T ops o (fE P T ops l) s X c js k K := h
    have join : ∀ (r : V) (e : Option (Nat × O)) (s1 : St) (X1 : List O) (js1 : List (Nat × Nat)), ES P ops s.hp.length s.hp s.get X o r e → s1.n = s.n → s1.hp = s.hp → s1.get = putG s.get s.n o.dst r → X1 = xStep true e X →
        (∀ p ∈ js, p ∈ js1) → (∀ j ob, e = some (j, ob) → (k, j) ∈ js1) → FE P ops l s1 X1 js1 (k + 1) K → Nonempty (FE P ops (o :: l) s X js k K) := by
      intro r e s1 X1 js1 hes hn1 hh1 hg1 hX1 hjs hj f
      subst hX1
      refine ⟨⟨(o, r) :: f.zs, e :: f.es, f.s', f.js', by simp [f.hz], by simp [f.hel], ⟨hes, ?_⟩, by rw [f.hn, hn1], by rw [f.hh, hh1], fun k' => ?_, fun i j ob hi => ?_, fun p hp => f.keep p (hjs p hp), ?_⟩⟩
      · have := f.run
        rw [hn1, hh1, hg1] at this
        exact this
      · rw [f.hg (k' + 1), hn1, hg1]; rfl
      · cases i with
        | zero => simp at hi; exact f.keep _ (hj j ob hi)
        | succ i =>
          have := f.slots i j ob (by simpa using hi)
          rwa [show k + 1 + i = k + (i + 1) by omega] at this
      · obtain ⟨X', hx, hk⟩ := f.go
        exact ⟨X', fun k' => by rw [hx (k' + 1)]; rfl, hk⟩
    obtain ⟨n, tm, H0⟩ := s
    unfold fEStep at h
    dsimp only at h
    split at h
    · rename_i t hop
      split at h
      · rename_i i hgd hTi
        split at h
        · rename_i z hz hd
          obtain ⟨h1, h⟩ := chk_elim h
          rw [putS_eq] at h
          obtain ⟨f⟩ := fE_sound hT l _ _ _ _ _ _ h
          refine join (.bx (H0.length + c) 0) (some (c, .row t (cellsV z))) _ _ _ (.alloc hop hgd (by
            obtain ⟨inf, d, q1, q2, q3, q4, q5, q6⟩ := ti_parts (hT _ _ hTi)
            unfold zeroV; rw [q1]; rw [q6] at hz; exact hz) h1 rfl hd) (St.n_put ..) (St.hp_put ..) (St.get_put ..) rfl (fun p hp => List.mem_cons_of_mem _ hp) (fun j ob e => by cases e; exact List.mem_cons_self ..) f
        · exact h.elim
      · exact h.elim
    · rename_i t a x hop
      split at h
      · rename_i i id off hgd hTi ha
        split at h
        · rename_i ty cells hX
          obtain ⟨h1, h⟩ := chk_elim h
          simp only [Bool.and_eq_true, decide_eq_true_eq] at h1
          rw [putS_eq] at h
          obtain ⟨f⟩ := fE_sound hT l _ _ _ _ _ _ h
          refine join (.d (.lit undef)) (some (id - H0.length, .row ty (setsV cells off (cellsV (evO (fun t => getT t tm) x))))) _ _ _ (.store hop hgd (ti_is (hT _ _ hTi)) (by
            show evO (fun t => getT t tm) a = _
            rw [ha]
            have e : H0.length + (id - H0.length) = id := by omega
            show V.bx id off = V.bx (H0.length + (id - H0.length)) off
            rw [e]) hX h1.1.1.2 h1.1.2 h1.2 rfl) (St.n_put ..) (St.hp_put ..) (St.get_put ..) rfl (fun p hp => List.mem_cons_of_mem _ hp) (fun j ob e => by cases e; exact List.mem_cons_self ..) f
        · exact h.elim
      · exact h.elim
    · obtain ⟨h1, h⟩ := chk_elim h
      obtain ⟨r, s', hq, hn, hh, hg, h2⟩ := quiet_one hT (A := fun s' => fE P T ops l s' X c js (k + 1) K) h
      obtain ⟨f⟩ := fE_sound hT l _ _ _ _ _ _ h2
      exact join r none s' X js (.quiet hq (usesLt_spec h1)) hn hh hg rfl (fun p hp => hp) (fun j ob e => by cases e) f

def okSlots (ops : Array Oper) (js : List (Nat × Nat)) : Bool :=
  js.all fun p => js.all fun q => !(p.2 == q.2 && decide (p.1 < q.1)) || match ops[q.1]? with
    | some o => o.after.toList.any fun e => Region.binds .any e && e.on == p.1
    | none => false
def nAlloc (ops : Array Oper) : Nat := (ops.toList.filter fun o => match o.op with | .alloc _ => true | _ => false).length

/-- A region that draws its order and makes or changes the things from n0 on. -/
theorem SExec.region_fE (hT : TabOk P T) (hm : P.follows .mixedOrders = true) {id : Nat} {ops : Array Oper} {n : Nat} {tm : List (Nat × V)} {hp : List O} {Q : Exit → St → Prop} (n0 : Nat) (hok : okDraw ops = true) (hl : hpLt (hp.take n0).length (hp.take n0) = true) (hlive : hp.all O.live = true)
    (h : fE P T ops ops.toList ⟨n, tm, hp.take n0⟩ (hp.drop n0 ++ List.replicate (nAlloc ops) .dead) (hp.drop n0).length [] 0 (fun s' X js => chk (okSlots ops js) (Q .normal ⟨s'.n, s'.tm, s'.hp ++ X⟩))) : SExec P (.region id ops true) ⟨n, tm, hp⟩ Q := by
  obtain ⟨f⟩ := fE_sound hT _ _ _ _ _ _ _ h
  obtain ⟨X', hX, hk⟩ := f.go
  obtain ⟨hsl, hk⟩ := chk_elim hk
  have hlv : ∀ o ∈ hp, o.live = true := fun o ho => List.all_eq_true.1 hlive o ho
  refine .region_eff hm hok (hp.take n0) (hp.drop n0) (List.take_append_drop _ _).symm hl (List.all_eq_true.2 fun o ho => hlv o (List.mem_of_mem_take ho)) (List.all_eq_true.2 fun o ho => hlv o (List.mem_of_mem_drop ho)) (nAlloc ops) f.zs f.es f.hz (by rw [f.hel]; simp) ?_ ?_
    ⟨f.s'.n, f.s'.tm, f.s'.hp ++ X'⟩ f.hn ?_ ?_ hk
  · intro i i' j o o' oi h1 h2 hlt hoi
    have p1 := f.slots i j o h1
    have p2 := f.slots i' j o' h2
    rw [Nat.zero_add] at p1 p2
    have := List.all_eq_true.1 (List.all_eq_true.1 hsl _ p1) _ p2
    simp only [beq_self_eq_true, Bool.true_and, hlt, decide_true, Bool.not_true, Bool.false_or, hoi] at this
    obtain ⟨e, he, hb⟩ := List.any_eq_true.1 this
    simp only [Bool.and_eq_true, beq_iff_eq] at hb
    exact ⟨e, by simpa using he, hb.1, hb.2⟩
  · intro i z e h1 h2
    have := ERun.at f.zs f.es 0 _ _ f.run i z e h1 h2
    simp only [Nat.zero_add] at this
    exact this
  · show f.s'.hp ++ X' = _
    rw [f.hh, hX 0]
  · intro t
    show EntV _ (f.s'.get t)
    rw [f.hg 0]
    exact .refl _
end
end Go.Ab

set_option linter.unusedVariables false
set_option linter.unusedSimpArgs false
namespace Go.Ab
section
variable {P : Program} {T : Tab}

/-! ### New growing slices -/
abbrev nilP : Pl := .tok (.slice none 0 0) 0
theorem Ext.holes (F : Mem) (M : Pls) (w : World) (m : Nat) : Ext F M w F (M ++ List.replicate m .hole) w :=
  ⟨.refl _, .append _ _, Nat.le_refl _, rfl, rfl, rfl, fun _ _ _ => rfl, fun a h h' => absurd h h', fun i p b h e => by
      by_cases hl' : i < M.length
      · rw [List.getElem?_append_left hl'] at h; exact .inr ⟨i, p, h, e⟩
      · rw [List.getElem?_append_right (by omega), List.getElem?_replicate] at h
        split at h
        · cases h; cases e
        · cases h⟩
theorem tok_at {F : Mem} {M : Pls} {w : World} {H : List O} {i : Nat} (hi : Inv F M w H) (hH : H[i]? = some .dead) (hM : M[i]? = some .hole) (ty sz : Nat) :
    Inv F (M.set i nilP) w (H.set i (.tok ty sz 0)) ∧ Ext F M w F (M.set i nilP) w := by
  have hiM : i < M.length := (List.getElem?_eq_some_iff.1 hM).1
  have hiH : i < H.length := (List.getElem?_eq_some_iff.1 hH).1
  have hlen := hi.len
  have mle : Pls.le M (M.set i nilP) := fun j p h => by
    by_cases hj : i = j
    · subst hj; rw [hM] at h; cases h; exact ⟨_, List.getElem?_set_self hiM, trivial⟩
    · exact ⟨p, by rw [List.getElem?_set_ne hj]; exact h, p.le_refl⟩
  refine ⟨⟨hi.cells, by simp [hlen], ?_, ?_, ?_, hi.gnd⟩, ⟨.refl _, mle, Nat.le_refl _, rfl, rfl, rfl, fun k hk _ => rfl, fun a h h' => absurd h h', ?_⟩⟩
  · intro j o p h2 h3
    by_cases hj : i = j
    · subst hj
      rw [List.getElem?_set_self hiH] at h2; cases h2
      rw [List.getElem?_set_self hiM] at h3; cases h3
      exact .nil ty sz
    · rw [List.getElem?_set_ne hj] at h2 h3
      exact (hi.objs j o p h2 h3).mono (.refl _) mle (fun b e => rfl) (fun b e o s h => h)
  · intro a b o o' p p' k hne h2 h3 l1 l2 m1 m2 e1 e2
    by_cases ha : i = a
    · subst ha
      rw [List.getElem?_set_self hiM] at m1; cases m1; cases e1
    · by_cases hb : i = b
      · subst hb
        rw [List.getElem?_set_self hiM] at m2; cases m2; cases e2
      · rw [List.getElem?_set_ne ha] at h2 m1
        rw [List.getElem?_set_ne hb] at h3 m2
        exact hi.sep a b o o' p p' k hne h2 h3 l1 l2 m1 m2 e1 e2
  · intro j p b h2 e
    by_cases hj : i = j
    · subst hj
      rw [List.getElem?_set_self hiM] at h2; cases h2; cases e
    · rw [List.getElem?_set_ne hj] at h2
      exact hi.inb j p b h2 e
  · intro j p b h2 e
    by_cases hj : i = j
    · subst hj
      rw [List.getElem?_set_self hiM] at h2; cases h2; cases e
    · rw [List.getElem?_set_ne hj] at h2
      exact .inr ⟨j, p, h2, e⟩
theorem set_last {α : Type} (l : List α) (x y : α) : (l ++ [x]).set l.length y = l ++ [y] := by
  rw [List.set_append_right _ _ (Nat.le_refl _)]; simp
theorem tok_end {F : Mem} {M : Pls} {w : World} {H : List O} (hi : Inv F M w H) (ty sz : Nat) : Inv F (M ++ [nilP]) w (H ++ [.tok ty sz 0]) ∧ Ext F M w F (M ++ [nilP]) w := by
  have h1 := hi.holes 1
  have h2 := Ext.holes F M w 1
  simp only [List.replicate_one] at h1 h2
  obtain ⟨a, b⟩ := tok_at (i := H.length) h1 (by simp) (by rw [← hi.len]; simp) ty sz
  rw [set_last] at a
  rw [← hi.len, set_last] at a b
  exact ⟨a, h2.trans b⟩

/-- What a nil slice may be taken for: one that grows. -/
def UpV (t : Nat) (x y : V) : Prop := ∀ F M M' v, Rep F M v x → Pls.le M M' → M'[t]? = some nilP → Rep F M' v y
theorem UpV.of_ent {t : Nat} {x y : V} (h : EntV x y) : UpV t x y := fun F M M' v r k _ => (h F M v r).mono (.refl _) k
theorem UpV.refl (t : Nat) (x : V) : UpV t x x := .of_ent (.refl x)
theorem UpV.nil (t : Nat) : UpV t (.d (.lit (.slice none 0 0))) (.gs t []) := fun F M M' v r k h => by
  rw [r.lit_inv]
  exact .gs (repD_nil F) h (Nat.le_refl _) (fun _ => rfl)
inductive UpL (t : Nat) : List V → List V → Prop where
  | nil : UpL t [] []
  | cons {x y : V} {l m : List V} (h : UpV t x y) (k : UpL t l m) : UpL t (x :: l) (y :: m)
theorem UpL.length {t : Nat} {l m : List V} (h : UpL t l m) : l.length = m.length := by
  induction h with
  | nil => rfl
  | cons _ _ ih => simp [ih]
theorem UpL.get {t : Nat} {l m : List V} (h : UpL t l m) : ∀ j, UpV t (l.getD j .any) (m.getD j .any) := by
  induction h with
  | nil => intro j; exact .refl _ _
  | cons h k ih => intro j; cases j with
    | zero => exact h
    | succ j => simpa using ih j
theorem UpV.agg {t : Nat} {l m : List V} (h : UpL t l m) : UpV t (.agg l) (.agg m) := fun F M M' v r k e => by
  cases r with
  | agg cs _ hs hr => exact .agg cs _ (hs.trans h.length) fun j hj => h.get j F M M' _ (hr j (by rw [h.length]; exact hj)) k e
inductive UpO (t : Nat) : O → O → Prop where
  | refl (o : O) : UpO t o o
  | row {ty : Nat} {l m : List V} (h : UpL t l m) : UpO t (.row ty l) (.row ty m)
inductive UpH (t : Nat) : List O → List O → Prop where
  | nil : UpH t [] []
  | cons {x y : O} {l m : List O} (h : UpO t x y) (k : UpH t l m) : UpH t (x :: l) (y :: m)
theorem UpH.refl (t : Nat) : ∀ l, UpH t l l
  | [] => .nil
  | x :: l => .cons (.refl x) (UpH.refl t l)
theorem UpH.length {t : Nat} {l m : List O} (h : UpH t l m) : l.length = m.length := by
  induction h with
  | nil => rfl
  | cons _ _ ih => simp [ih]
theorem UpH.back {t : Nat} {l m : List O} (h : UpH t l m) : ∀ (j : Nat) (o' : O), m[j]? = some o' → ∃ o : O, l[j]? = some o ∧ UpO t o o' := by
  induction h with
  | nil => intro j o' h; simp at h
  | cons h k ih => intro j o' hj; cases j with
    | zero => simp at hj; subst hj; exact ⟨_, rfl, h⟩
    | succ j => simpa using ih j o' (by simpa using hj)
theorem UpO.live {t : Nat} {o o' : O} (h : UpO t o o') : o'.live = o.live := by cases h <;> rfl
theorem Inv.up {F : Mem} {M : Pls} {w : World} {H H' : List O} (hi : Inv F M w H) (ty sz : Nat) (h : UpH H.length H H') : Inv F (M ++ [nilP]) w (H' ++ [.tok ty sz 0]) ∧ Ext F M w F (M ++ [nilP]) w := by
  obtain ⟨i1, x1⟩ := tok_end hi ty sz
  refine ⟨?_, x1⟩
  have hMt : (M ++ [nilP])[H.length]? = some nilP := by rw [← hi.len]; simp
  have back : ∀ (j : Nat) (o' : O), (H' ++ [O.tok ty sz 0])[j]? = some o' → ∃ o : O, (H ++ [O.tok ty sz 0])[j]? = some o ∧ UpO H.length o o' := fun j o' hj => by
    by_cases hl : j < H'.length
    · rw [List.getElem?_append_left hl] at hj
      obtain ⟨o, h1, h2⟩ := h.back j o' hj
      exact ⟨o, by rw [List.getElem?_append_left (by rw [h.length]; exact hl)]; exact h1, h2⟩
    · rw [List.getElem?_append_right (by omega)] at hj
      exact ⟨o', by rw [List.getElem?_append_right (by rw [h.length]; omega), h.length]; exact hj, .refl _⟩
  refine ⟨i1.cells, by rw [i1.len]; simp [h.length], fun j o' p h1 h2 => ?_, fun a b o o' p p' k hne h2 h3 l1 l2 m1 m2 e1 e2 => ?_, i1.inb, i1.gnd⟩
  · obtain ⟨o, h3, h4⟩ := back j o' h1
    have h5 := i1.objs j o p h3 h2
    cases h4 with
    | refl => exact h5
    | row hl =>
      cases h5 with
      | row _ _ blk c hc hs hr h1' hF =>
        exact .row _ _ blk c hc (hs.trans hl.length) (fun j hj => hl.get j F _ _ _ (hr j (by rw [hl.length]; exact hj)) (.refl _) hMt) (fun j hj => h1' j (by rw [hl.length]; exact hj)) hF
  · obtain ⟨q, q1, q2⟩ := back a o h2
    obtain ⟨r, r1, r2⟩ := back b o' h3
    exact i1.sep a b q r p p' k hne q1 r1 (by rw [← q2.live]; exact l1) (by rw [← r2.live]; exact l2) m1 m2 e1 e2
inductive UpT (s : St) (t : Nat) : List (Nat × V) → Prop where
  | nil : UpT s t []
  | cons {i : Nat} {y : V} {l : List (Nat × V)} (h : UpV t (s.get i) y) (k : UpT s t l) : UpT s t ((i, y) :: l)
theorem UpT.get {s : St} {t : Nat} {l : List (Nat × V)} (h : UpT s t l) (i : Nat) : UpV t (s.get i) (getT i l) := by
  induction h with
  | nil => exact .of_ent (.any _)
  | cons h k ih =>
    simp only [getT]
    split
    · rename_i e; subst e; exact h
    · exact ih
/-- From here on a nil slice is taken for one that grows. -/
theorem SExec.up {c : Code} {s : St} {Q : Exit → St → Prop} (ty sz : Nat) (s' : St) (H' : List O) (hn : s.n = s'.n) (hU : UpH s.hp.length s.hp H') (hs' : s'.hp = H' ++ [.tok ty sz 0]) (ht : UpT s s.hp.length s'.tm) (h : SExec P c s' Q) : SExec P c s Q := by
  intro F M w a rel
  obtain ⟨i1, x1⟩ := rel.inv.up ty sz hU
  have hMt : (M ++ [nilP])[s.hp.length]? = some nilP := by rw [← rel.inv.len]; simp
  refine wp_mono (h F (M ++ [nilP]) w a ⟨rel.defers, rel.size.trans hn, by rw [hs']; exact i1, fun t => ht.get t F M _ _ (rel.tmps t) (.append _ _) hMt⟩) ?_
  rintro e a' w' ⟨s2, F', M', q, r', x⟩
  exact ⟨s2, F', M', q, r', x1.trans x⟩

/-! ### Appends that make data -/
theorem Yl.of_back {o : Oper} {g : Nat → V} {H : List O} {r : V} (hp : r.pure = true)
    (h : ∀ F w (ρ : Operand → Value), Inv F [] w [] → (∀ x, ∃ M0, Rep F M0 (ρ x) (evO g x)) → ∃ v w' F' M' H', (execOp ρ o).run P w = .ok (.value v) w' ∧ Rep F' M' v r ∧ Inv F' M' w' H' ∧ Ext F [] w F' M' w') : Yl P o g H r H := by
  intro F M w ρ hi hr
  obtain ⟨v, w', F', M', H', h1, h2, h3, h4⟩ := h F w ρ hi.drop fun x => ⟨M, hr x⟩
  obtain ⟨i1, x1⟩ := hi.back h3 h4
  exact ⟨v, w', F', M, .inl h1, h2.pure M hp, i1, x1⟩
theorem rowsOf_pure {F : Mem} {M : Pls} {v : Value} {x : V} {rows : List (List D)} (h : Rep F M v x) (hx : rowsOf x = some rows) (M' : Pls) : Rep F M' v (.d (.sl rows)) := .d (rowsOf_sound h hx)
/-- Behind no slice at all. -/
theorem Yl.appendNil {o : Oper} {g : Nat → V} {H : List O} {s x : Operand} {t e : TypeId} {sz bytes : Nat} {news : List (List D)} (ho : o.op = .call { callee := .builtin .append, args := #[s, x], argTypes := #[t, t] })
    (ht : P.underlying t = some (.slice e)) (he : ElIs P e sz bytes) (hs : evO g s = .d (.lit (.slice none 0 0))) (hx : rowsOf (evO g x) = some news)
    (hns : ∀ r ∈ news, r.length = sz) (hone : oneRows news = true) (hroom : news.length * bytes ≤ 140737488355328) (hlen : news.length ≤ 140737488355328) :
    Yl P o g H (.d (.sl news)) H := by
  refine .of_back rfl fun F w ρ hi hr => ?_
  obtain ⟨i1, x1⟩ := tok_end hi e sz
  obtain ⟨M0, r0⟩ := hr s
  obtain ⟨M1, r1⟩ := hr x
  rw [hs] at r0
  have h1 : Rep F ([] ++ [nilP]) (ρ s) (.gs 0 []) := by rw [r0.lit_inv]; exact .gs (repD_nil F) rfl (Nat.le_refl _) (fun _ => rfl)
  obtain ⟨v, w', F', p', h2, h3, h4, h5⟩ := append_run (rows := []) ho ht he (H := [] ++ [O.tok e sz 0]) (tok := 0) (xv := .d (.sl news)) rfl rfl (by simp) hns hone (by simpa using hroom) (by simpa using hlen) ρ i1 h1 (rowsOf_pure r1 hx _)
  refine ⟨v, w', F', _, _, h2, ?_, h4, x1.trans h5⟩
  exact EntV.gs_sl 0 news F' _ v h3
/-- Behind a slice without room. -/
theorem Yl.appendXs {o : Oper} {g : Nat → V} {H : List O} {s x : Operand} {t e : TypeId} {sz bytes : Nat} {rows news : List (List D)} (ho : o.op = .call { callee := .builtin .append, args := #[s, x], argTypes := #[t, t] })
    (ht : P.underlying t = some (.slice e)) (he : ElIs P e sz bytes) (hs : evO g s = .xs rows) (hx : rowsOf (evO g x) = some news)
    (hrs : ∀ r ∈ rows, r.length = sz) (hns : ∀ r ∈ news, r.length = sz) (honeR : oneRows rows = true) (hone : oneRows news = true) (hroom : (rows.length + news.length) * bytes ≤ 140737488355328) (hlen : rows.length + news.length ≤ 140737488355328) :
    Yl P o g H (.d (.sl (rows ++ news))) H := by
  intro F M w ρ hi hr
  obtain ⟨inf, z, hinf, hz, hsize, hbytes, hzs, hs0⟩ := he
  have h1 := hr s
  rw [hs] at h1
  have h2 := rowsOf_sound (hr x) hx
  generalize hvs : ρ s = vs at h1
  generalize hvx : ρ x = vx at h2
  have h2' := h2
  cases h2' with
  | sl ax capx szx _ valsx hrowx hlenx hcapx hax hrx =>
  obtain ⟨nl, hnl, hn1, hnr, hncell⟩ := h2.flat hi.cells hns hs0 hone
  cases h1 with
  | @xs a n _ h1 =>
  obtain ⟨ol, hol, ho1, hor, hocell⟩ := h1.flat hi.cells hrs hs0 honeR
  obtain ⟨rfl, hmr0, _, _⟩ := h1.sl_inv
  have hml : rows.length + news.length ≤ maxLen := by simp only [maxLen]; omega
  have hmr : rows.length + news.length ≤ maxRows := by simp only [maxRows]; omega
  by_cases hm : news = []
  · subst hm
    refine ⟨.slice a rows.length rows.length, w, F, M, .inl (run_append_call ho ?_), .d (by simpa using h1), hi, .refl _ _ _⟩
    rw [hvs, hvx]
    have hnl0 : nl = [] := List.eq_nil_of_length_eq_zero (by simpa using hnl)
    subst hnl0
    cases a with
    | none =>
      have hr0 : rows.length = 0 := by
        rcases Nat.eq_zero_or_pos rows.length with e | e
        · exact e
        · obtain ⟨ad, e1, _⟩ := hocell e; cases e1
      rw [hr0]
      simp [Builtin.append_, run_underlying ht, sizeOf, typeInfo, hinf, Builtin.lenOf]
      cases ax <;> simp [Builtin.firstCells, loadCells, loadCellsFrom]
    | some ad =>
      have hst : (storeCells (ad.add (rows.length * sz)) [] 0).run P w = .ok () w := rfl
      simp [Builtin.append_, run_underlying ht, sizeOf, typeInfo, hinf, Builtin.lenOf, hsize]
      cases ax <;> simp [Builtin.firstCells, loadCells, loadCellsFrom, storeCells]
  · have hpos : 0 < news.length := List.length_pos_iff.2 hm
    obtain ⟨ad, rfl, hcell⟩ := hncell hpos
    have hrun : ∃ cap, rows.length + news.length ≤ cap ∧ cap ≤ maxLen ∧ (Builtin.append_ #[t, t] o.type #[.slice a rows.length rows.length, .slice (some ad) news.length capx]).run P w =
        .ok (.slice (some ⟨w.heap.size, 0, none⟩) (rows.length + news.length) cap) (w.drew.alloc (.cells (ol.toArray ++ nl.toArray ++ Builtin.zeroCells z.cells (cap - (rows.length + news.length))) e)) := by
      cases a with
      | none =>
        have hr0 : rows.length = 0 := by
          rcases Nat.eq_zero_or_pos rows.length with e | e
          · exact e
          · obtain ⟨ad, e1, _⟩ := hocell e; cases e1
        have hol0 : ol = [] := List.eq_nil_of_length_eq_zero (by rw [hol, hr0]; simp)
        subst hol0
        rw [hr0, Nat.zero_add]
        refine ⟨grownCap w news.length 0 e, grownCap_ge .., grownCap_le_maxLen _ _ _ _ (by omega), ?_⟩
        have := run_append_nil (P := P) w t o.type e inf z ht hinf hz ad news.length capx nl (by rw [hnl, hsize]) hcell hpos (by simp only [maxLen] at hml; omega) (by rw [hbytes]; have := Nat.le_trans (Nat.mul_le_mul_right bytes (Nat.le_add_left news.length rows.length)) hroom; omega)
        simpa using this
      | some b =>
        refine ⟨grownCap w (rows.length + news.length) rows.length e, grownCap_ge .., grownCap_le_maxLen _ _ _ _ hml, ?_⟩
        exact run_append_grow (P := P) w t o.type e inf z ht hinf hz b rows.length rows.length ol (by rw [hol, hsize]) (fun j u hu => by
            by_cases h0 : 0 < rows.length
            · obtain ⟨ad', e1, hc⟩ := hocell h0
              cases e1
              exact hc j u hu
            · have hol0 : ol = [] := List.eq_nil_of_length_eq_zero (by rw [hol, show rows.length = 0 by omega]; simp)
              subst hol0; simp at hu) ad news.length capx nl (by rw [hnl, hsize]) hcell (by omega)
          (by simp only [maxLen] at hml; omega) (by rw [hbytes]; exact growslice_fits (by omega) hroom)
    obtain ⟨cap, hge, hcm, hrun⟩ := hrun
    generalize hc' : (ol.toArray ++ nl.toArray ++ Builtin.zeroCells z.cells (cap - (rows.length + news.length))) = c at hrun
    have hsum : (rows.length + news.length) * sz = rows.length * sz + nl.length := by rw [Nat.add_mul, hnl]
    have hcs : c.size = cap * sz := by
      rw [← hc']; simp only [Array.size_append, List.size_toArray, size_zeroCells, hzs]
      rw [hol, ← hsum, ← Nat.add_mul]; congr 1; omega
    have hcg : ∀ k, k < (rows.length + news.length) * sz → c.getD k undef = (ol ++ nl).getD k undef := fun k hk => by
      have hk' : k < (ol ++ nl).length := by rw [List.length_append, hol, ← hsum]; exact hk
      rw [← hc', show (ol.toArray ++ nl.toArray) = (ol ++ nl).toArray by simp]
      simp only [Array.getD_eq_getD_getElem?, List.getD_eq_getElem?_getD, Array.getElem?_append]
      rw [if_pos (by simpa using hk')]
      simp
    have hdi : Inv F M w.drew H := ⟨hi.cells, hi.len, fun i o p a b => (hi.objs i o p a b).mono (.refl _) (.refl _) (fun _ _ => rfl) (fun _ _ _ _ h => h), hi.sep, hi.inb, hi.gnd⟩
    have hdx : Ext F M w F M w.drew := ⟨.refl _, .refl _, Nat.le_refl _, rfl, rfl, rfl, fun _ _ _ => rfl, fun a h h' => absurd h h', fun i p b h hb => .inr ⟨i, p, h, hb⟩⟩
    obtain ⟨f1, f2⟩ := freeze_new hdi c e ((rows.length + news.length) * sz) (by rw [hcs]; exact Nat.mul_le_mul_right _ hge)
    have hall : ∀ i j, i < (rows ++ news).length → j < sz → RepD F ((ol ++ nl).getD (i * sz + j) undef) (((rows ++ news).getD i []).getD j default) := flat_append hol hor hnr
    have hrep : RepD (withBlock F w.drew.heap.size ((rows.length + news.length) * sz) (fun k => c.getD k undef)) (.slice (some ⟨w.heap.size, 0, none⟩) (rows.length + news.length) cap) (.sl (rows ++ news)) := by
      have := repD_of_flat (F := withBlock F w.drew.heap.size ((rows.length + news.length) * sz) (fun k => c.getD k undef)) (ad := ⟨w.heap.size, 0, none⟩) (cap := cap) (sz := sz) (rows := rows ++ news) (ol ++ nl) (rows_append_sz hrs hns) (by simp; omega) (by simp; omega) (by simp only [List.length_append]; rw [hol, hsum])
        (fun k hk => by rw [List.length_append] at hk; rw [add_block, ← hcg k hk]; exact withBlock_at _ _ _ _ _ hk) (fun i j a b => (hall i j a b).mono (withBlock_le (F_new hdi)))
      simpa using this
    refine ⟨_, _, _, M, .inl (run_append_call ho (by rw [hvs, hvx]; exact hrun)), .d hrep, f1, hdx.trans f2⟩

/-- A slice literal of no element. -/
theorem Yl.buildSlice0 {o : Oper} {g : Nat → V} {H : List O} {t e : TypeId} (ho : o.op = .buildSlice t 0 #[]) (ht : P.underlying t = some (.slice e)) {agg : Bool} {n : Nat} (he : TyIs P e agg n) : Yl P o g H (.gs H.length []) (H ++ [.tok e n 0]) := by
  intro F M w ρ hi hr
  have hM := hi.len
  have hrun : (execOp ρ o).run P w = .ok (.value (.slice (some ⟨w.heap.size, 0, none⟩) 0 0)) (w.alloc (.cells #[] e)) := by
    have hsz := tyIs_size he w
    simp [execOp, ho, Instr.buildSlice, run_underlying ht, hsz, newRow, Instr.fill]
    congr 2
    apply Array.eq_empty_of_size_eq_zero
    simp
  have hnil : RepD F (.slice (some ⟨w.heap.size, 0, none⟩) 0 0) (.sl []) := .sl _ 0 0 [] (fun _ => undef) (by simp) (by simp [maxRows]) (by simp) (by simp) (by simp)
  refine ⟨_, _, F, M ++ [.tok (.slice (some ⟨w.heap.size, 0, none⟩) 0 0) 0], .inl hrun, .gs hnil (by rw [← hM]; simp) (Nat.le_refl _) (fun _ => rfl), ?_, ?_⟩
  · refine hi.push _ _ (fun a v h => cell_alloc w _ h) (by simp) (fun b hb => heap_push_old w _ b hb) ?_ ?_
    · exact .tok e n 0 w.heap.size 0 #[] (heap_alloc_new w _) (by simp) (Nat.le_refl _) (Nat.zero_le _) (fun k hk => by simp at hk) (fun o s _ => F_new hi o s)
    · intro b e; simp [Pl.blk] at e; subst e; simp
  · exact Ext.push _ (by simp) rfl rfl rfl (fun b hb => heap_push_old w _ b hb) (fun b e => by simp [Pl.blk] at e; omega)

/-! ### Parts of a slice -/
theorem RepD.part {F : Mem} {a : Option Addr} {n cap size l h m : Nat} {rows : List (List D)} (hr : RepD F (.slice a n cap) (.sl rows)) (hsz : ∀ r ∈ rows, r.length = size) (h1 : l ≤ h) (h2 : h ≤ rows.length) (h3 : h ≤ m) :
    RepD F (.slice (if m = l then a else a.map (·.add (l * size))) (h - l) (m - l)) (.sl ((rows.take h).drop l)) := by
  obtain ⟨rfl, hl, hc, sz, hrow, vals, ha, hrr⟩ := hr.sl_inv
  have hlen : ((rows.take h).drop l).length = h - l := by simp; omega
  have hrow' : ∀ r ∈ (rows.take h).drop l, r.length = size := fun r hr => hsz r (List.mem_of_mem_take (List.mem_of_mem_drop hr))
  have := RepD.sl (F := F) (if m = l then a else a.map (·.add (l * size))) (m - l) size ((rows.take h).drop l) (fun k => vals (l * size + k)) hrow' (by rw [hlen]; omega) (by rw [hlen]; omega)
    (fun h0 => by
      rw [hlen] at h0
      have h4 : l < h := by
        rcases Nat.lt_or_ge l h with h4 | h4
        · exact h4
        · rw [show h - l = 0 by omega] at h0; simp at h0
      have hs : sz = size := by
        rcases rows_sz hrow hsz with e | e
        · subst e; simp at h2; omega
        · exact e
      subst hs
      have hs0 : 0 < sz := by
        rcases Nat.eq_zero_or_pos sz with e | e
        · rw [e] at h0; simp at h0
        · exact e
      obtain ⟨ad, rfl, hf⟩ := ha (Nat.mul_pos (by omega) hs0)
      rw [if_neg (by omega)]
      refine ⟨ad.add (l * sz), rfl, fun k hk => ?_⟩
      rw [hlen] at hk
      rw [add_add]
      exact hf _ (calc l * sz + k < l * sz + (h - l) * sz := by omega
        _ = h * sz := by rw [← Nat.add_mul]; congr 1; omega
        _ ≤ rows.length * sz := Nat.mul_le_mul_right _ h2))
    (fun i j hi hj => by
      rw [hlen] at hi
      have hs : sz = size := by
        rcases rows_sz hrow hsz with e | e
        · subst e; simp at h2; omega
        · exact e
      subst hs
      have := hrr (l + i) j (by omega) hj
      rw [show l * sz + (i * sz + j) = (l + i) * sz + j by rw [Nat.add_mul]; omega]
      have e : ((rows.take h).drop l).getD i [] = rows.getD (l + i) [] := by
        simp only [List.getD_eq_getElem?_getD, List.getElem?_drop]
        rw [List.getElem?_take, if_pos (by omega)]
      rw [e]; exact this)
  rw [hlen] at this
  exact this

theorem Yp.sliceD {o : Oper} {g : Nat → V} {H : List O} {t e : TypeId} {x : Operand} {lo hi : Option Operand} {rows : List (List D)} {size l h : Nat} (ho : o.op = .slice t x lo hi none) (ht : P.underlying t = some (.slice e)) {agg : Bool} (he : TyIs P e agg size)
    (hx : rowsOf (evO g x) = some rows) (hsz : ∀ r ∈ rows, r.length = size) (hl : match lo with | some a => ∃ k, evO g a = .d (.lit (.int k (l : Int))) | none => l = 0) (hh : match hi with | some a => ∃ k, evO g a = .d (.lit (.int k (h : Int))) | none => h = rows.length)
    (h1 : l ≤ h) (h2 : h ≤ rows.length) : Yp P o g H (.d (.sl ((rows.take h).drop l))) := by
  intro F M w ρ hinv hrep
  have hrx := rowsOf_sound (hrep x) hx
  generalize hvx : ρ x = vx at hrx
  cases hrx' : vx with
  | slice a n cap =>
    rw [hrx'] at hrx hvx
    obtain ⟨rfl, _, hc, _⟩ := hrx.sl_inv
    refine ⟨.slice (if cap = l then a else a.map (·.add (l * size))) (h - l) (cap - l), ?_, .d (hrx.part hsz h1 h2 (by omega))⟩
    have hs := tyIs_size he w
    have h2' : h ≤ cap := by omega
    cases lo <;> cases hi <;> simp only at hl hh
    · subst hl; subst hh
      simp [execOp, ho, Instr.sliceAt, Instr.slice, run_underlying ht, hvx, Instr.sliceBounds, hs]
    · rename_i y
      obtain ⟨k, hk⟩ := hh
      subst hl
      have e2 := hrep y
      rw [hk] at e2
      simp [execOp, ho, Instr.sliceAt, Instr.slice, run_underlying ht, hvx, e2.lit_inv, Instr.sliceBounds, Instr.sliceBound, asIntOf, h2', hs]
    · rename_i y
      obtain ⟨k, hk⟩ := hl
      subst hh
      have e2 := hrep y
      rw [hk] at e2
      simp [execOp, ho, Instr.sliceAt, Instr.slice, run_underlying ht, hvx, e2.lit_inv, Instr.sliceBounds, Instr.sliceBound, asIntOf, h1, hs]
    · rename_i y z
      obtain ⟨k, hk⟩ := hl
      obtain ⟨k', hk'⟩ := hh
      have e2 := hrep y
      rw [hk] at e2
      have e3 := hrep z
      rw [hk'] at e3
      simp [execOp, ho, Instr.sliceAt, Instr.slice, run_underlying ht, hvx, e2.lit_inv, e3.lit_inv, Instr.sliceBounds, Instr.sliceBound, asIntOf, h1, h2', hs]
  | _ => rw [hrx'] at hrx; cases hrx
theorem Yp.slice3 {o : Oper} {g : Nat → V} {H : List O} {t e : TypeId} {x y z : Operand} {rows : List (List D)} {size h : Nat} (ho : o.op = .slice t x none (some y) (some z)) (ht : P.underlying t = some (.slice e)) {agg : Bool} (he : TyIs P e agg size)
    (hx : rowsOf (evO g x) = some rows) (hsz : ∀ r ∈ rows, r.length = size) (hy : ∃ k, evO g y = .d (.lit (.int k (h : Int)))) (hz : ∃ k, evO g z = .d (.lit (.int k (h : Int))))
    (h2 : h ≤ rows.length) : Yp P o g H (.xs (rows.take h)) := by
  intro F M w ρ hinv hrep
  have hrx := rowsOf_sound (hrep x) hx
  generalize hvx : ρ x = vx at hrx
  cases hrx' : vx with
  | slice a n cap =>
    rw [hrx'] at hrx hvx
    obtain ⟨rfl, _, hc, _⟩ := hrx.sl_inv
    have hp := hrx.part (l := 0) (m := h) hsz (Nat.zero_le _) h2 (Nat.le_refl _)
    simp only [Nat.sub_zero, List.drop_zero, Nat.zero_mul, add_zero, Option.map_id'] at hp
    refine ⟨.slice a h h, ?_, .xs (by simpa using hp)⟩
    have hs := tyIs_size he w
    have h2' : h ≤ cap := by omega
    obtain ⟨k, hk⟩ := hy
    obtain ⟨k', hk'⟩ := hz
    have e2 := hrep y
    rw [hk] at e2
    have e3 := hrep z
    rw [hk'] at e3
    simp [execOp, ho, Instr.sliceAt, Instr.slice, run_underlying ht, hvx, e2.lit_inv, e3.lit_inv, Instr.sliceBounds, Instr.sliceBound, asIntOf, h2', hs]
  | _ => rw [hrx'] at hrx; cases hrx

/-! ### Calls that answer a slice that may grow further -/
structure TCall (P : Program) (k : FuncId) (args : List V) (ty sz : Nat) (rows : List (List D)) : Prop where
  argsPure : pures args = true
  call : SCall P k args [] (fun r H' => r = .gs 0 rows ∧ H' = [.tok ty sz rows.length])
theorem TCall.pcall {k : FuncId} {args : List V} {ty sz : Nat} {rows : List (List D)} (h : TCall P k args ty sz rows) : PCall P k args (.d (.sl rows)) :=
  ⟨rfl, h.argsPure, h.call.1, fun F M w vals hi hr => (h.call.2 F M w vals hi hr).mono fun e w' ⟨v, r, H', F', M', e1, ⟨e2, e3⟩, hv, hi', x⟩ => by
    subst e2
    exact ⟨v, _, H', F', M', e1, rfl, EntV.gs_sl 0 rows F' M' v hv, hi', x⟩⟩
/-- From the world as seen without anything, back: the one thing that came up, at a place kept free. -/
theorem Inv.back1 {F F' : Mem} {M M1 : Pls} {w w' : World} {H : List O} {i : Nat} {o' : O} (hi : Inv F M w H) (hH : H[i]? = some .dead) (hM : M[i]? = some .hole) (hi' : Inv F' M1 w' [o']) (x : Ext F [] w F' M1 w') (hpure : ∀ ty cells, o' ≠ .row ty cells) :
    ∃ p', M1 = [p'] ∧ Inv F' (M.set i p') w' (H.set i o') ∧ Ext F M w F' (M.set i p') w' := by
  obtain ⟨p', rfl⟩ := List.length_eq_one_iff.1 (show M1.length = 1 from hi'.len)
  refine ⟨p', rfl, ?_⟩
  obtain ⟨b1, b2⟩ := hi.back hi' x
  have hiM : i < M.length := (List.getElem?_eq_some_iff.1 hM).1
  have hiH : i < H.length := (List.getElem?_eq_some_iff.1 hH).1
  have hlen := hi.len
  have hnew : ∀ b, p'.blk = some b → w.heap.size ≤ b := fun b e => by
    rcases x.newM 0 p' b rfl e with h | ⟨j, q, h, _⟩
    · exact h
    · simp at h
  have hob := hi'.objs 0 o' p' rfl rfl
  have mle : Pls.le M (M.set i p') := fun j p h => by
    by_cases hj : i = j
    · subst hj; rw [hM] at h; cases h; exact ⟨_, List.getElem?_set_self hiM, trivial⟩
    · exact ⟨p, by rw [List.getElem?_set_ne hj]; exact h, p.le_refl⟩
  refine ⟨⟨b1.cells, by simp [hlen], ?_, ?_, ?_, b1.gnd⟩, ⟨x.fle, mle, x.size, x.os, x.tape, x.output, b2.old, b2.newF, ?_⟩⟩
  · intro j o p h2 h3
    by_cases hj : i = j
    · subst hj
      rw [List.getElem?_set_self hiH] at h2; cases h2
      rw [List.getElem?_set_self hiM] at h3; cases h3
      cases hob with
      | row ty cells => exact absurd rfl (hpure ty cells)
      | nil ty sz => exact .nil ty sz
      | tok ty sz n blk cap c hc hs hn hcap hpre hF => exact .tok ty sz n blk cap c hc hs hn hcap hpre hF
      | dead => exact .dead _
    · rw [List.getElem?_set_ne hj] at h2 h3
      exact (b1.objs j o p h2 h3).mono (.refl _) mle (fun b e => rfl) (fun b e o s h => h)
  · intro a b o o' p q k hne h2 h3 l1 l2 m1 m2 e1 e2
    by_cases ha : i = a
    · subst ha
      rw [List.getElem?_set_self hiM] at m1; cases m1
      rw [List.getElem?_set_ne hne] at m2
      have := hi.inb b q k m2 e2
      have := hnew k e1
      omega
    · by_cases hb : i = b
      · subst hb
        rw [List.getElem?_set_self hiM] at m2; cases m2
        rw [List.getElem?_set_ne ha] at m1
        have := hi.inb a p k m1 e1
        have := hnew k e2
        omega
      · rw [List.getElem?_set_ne ha] at h2 m1
        rw [List.getElem?_set_ne hb] at h3 m2
        exact b1.sep a b o o' p q k hne h2 h3 l1 l2 m1 m2 e1 e2
  · intro j p b h2 e
    by_cases hj : i = j
    · subst hj
      rw [List.getElem?_set_self hiM] at h2; cases h2
      exact hi'.inb 0 _ b rfl e
    · rw [List.getElem?_set_ne hj] at h2
      exact b1.inb j p b h2 e
  · intro j p b h2 e
    by_cases hj : i = j
    · subst hj
      rw [List.getElem?_set_self hiM] at h2; cases h2
      exact .inl (hnew b e)
    · rw [List.getElem?_set_ne hj] at h2
      exact .inr ⟨j, p, h2, e⟩
theorem Rep.gs_at {F : Mem} {M : Pls} {v : Value} {p : Pl} {i : Nat} {rows : List (List D)} (h : Rep F [p] v (.gs 0 rows)) (hM : M[i]? = some p) : Rep F M v (.gs i rows) := by
  cases h with
  | gs h ht hle hv => cases ht; exact .gs h hM hle hv
/-- The call, at a place kept free. -/
theorem TCall.at {k : FuncId} {args : List V} {ty sz : Nat} {rows : List (List D)} (h : TCall P k args ty sz rows) {F : Mem} {M : Pls} {w : World} {H : List O} {i : Nat} {vals : List Value} (hi : Inv F M w H) (hH : H[i]? = some .dead) (hM : M[i]? = some .hole) (hr : Reps F M vals args) :
    Calls P k vals.toArray w fun e w' => ∃ v F' p', e = .returned v ∧ Inv F' (M.set i p') w' (H.set i (.tok ty sz rows.length)) ∧ Ext F M w F' (M.set i p') w' ∧ Rep F' (M.set i p') v (.gs i rows) := by
  refine (h.call.2 F [] w vals hi.drop ⟨hr.1, fun j hj => (hr.2 j hj).pure [] (pures_getD h.argsPure hj)⟩).mono ?_
  rintro e w' ⟨v, r', H', F', M', rfl, ⟨rfl, rfl⟩, hv, hi', x⟩
  obtain ⟨p', rfl, b1, b2⟩ := hi.back1 hH hM hi' x (fun _ _ h => by cases h)
  exact ⟨v, F', p', rfl, b1, b2, hv.gs_at (List.getElem?_set_self (List.getElem?_eq_some_iff.1 hM).1)⟩
/-- The call: what goes on. -/
theorem TCall.use {k : FuncId} {args args' : List V} {H : List O} {ty sz : Nat} {rows : List (List D)} {K : V → List O → Prop} (h : TCall P k args' ty sz rows) (e : EntL args args') (hk : K (.gs H.length rows) (H ++ [.tok ty sz rows.length])) : SCall P k args H K := by
  refine .args e ⟨h.call.1, fun F M w vals hi hr => ?_⟩
  have h1 := hi.holes 1
  have h2 := Ext.holes F M w 1
  simp only [List.replicate_one] at h1 h2
  refine (h.at (i := H.length) h1 (by simp) (by rw [← hi.len]; simp) ⟨hr.1, fun j hj => (hr.2 j hj).mono (.refl _) (.append _ _)⟩).mono ?_
  rintro e w' ⟨v, F', p', rfl, i1, x1, hv⟩
  rw [set_last] at i1
  exact ⟨v, _, _, F', _, rfl, hk, hv, i1, h2.trans x1⟩
/-- What a body must show that answers a slice that may grow further. -/
def RetT (P : Program) (fn : Func) (ty sz : Nat) (rows : List (List D)) : Exit → St → Prop
  | .ret, s => ∃ rs i, ResL P s fn.results.toList rs ∧ tupV rs = .gs i rows ∧ s.hp[i]? = some (.tok ty sz rows.length)
  | .normal, s => ∃ rs i, ResL P s fn.results.toList rs ∧ tupV rs = .gs i rows ∧ s.hp[i]? = some (.tok ty sz rows.length)
  | _, _ => False
theorem Inv.only {F : Mem} {M : Pls} {w : World} {H : List O} {i : Nat} {p : Pl} {ty sz n : Nat} (hi : Inv F M w H) (hH : H[i]? = some (.tok ty sz n)) (hM : M[i]? = some p) : Inv F [p] w [.tok ty sz n] := by
  refine ⟨hi.cells, rfl, fun j o q h1 h2 => ?_, fun a b o o' q q' k hne h1 h2 => ?_, fun j q b h => ?_, hi.gnd⟩
  · cases j with
    | zero =>
      simp at h1 h2
      subst h1; subst h2
      cases hi.objs i _ _ hH hM with
      | nil ty sz => exact .nil ty sz
      | tok ty sz n blk cap c hc hs hn hcap hpre hF => exact .tok ty sz n blk cap c hc hs hn hcap hpre hF
    | succ j => simp at h1
  · have := (List.getElem?_eq_some_iff.1 h1).1
    have := (List.getElem?_eq_some_iff.1 h2).1
    simp at *; omega
  · cases j with
    | zero => simp at h; subst h; exact hi.inb i p b hM
    | succ j => simp at h
theorem TCall.of_exec {k : FuncId} {fn : Func} {c : Code} {args : List V} {ty sz : Nat} {rows : List (List D)} (hf : P.funcs[k]? = some fn) (hb : fn.body = some c) (hn : (fn.name == "runtime.NumGoroutine") = false) (ha : pures args = true)
    (h : SExec P c (initSt fn.ntmps args []) (RetT P fn ty sz rows)) : TCall P k args ty sz rows := by
  have hmid : SCall P k args [] (fun r' H' => ∃ i, r' = .gs i rows ∧ H'[i]? = some (.tok ty sz rows.length)) := by
    refine SCall.of_exec hf hb hn (h.mono ?_)
    intro e s hs
    cases e with
    | normal =>
      obtain ⟨rs, i, h1, h2, h3⟩ := hs
      exact ⟨rs, h1, i, h2, h3⟩
    | ret =>
      obtain ⟨rs, i, h1, h2, h3⟩ := hs
      exact ⟨rs, h1, i, h2, h3⟩
    | exit id => exact hs.elim
    | goto l => exact hs.elim
    | panic ch => exact hs.elim
    | outgrown => exact hs.elim
  refine ⟨ha, hmid.1, fun F M w vals hi hr => (hmid.2 F M w vals hi hr).mono ?_⟩
  rintro e w' ⟨v, r', H', F', M', rfl, ⟨i, rfl, hH⟩, hv, hi', x⟩
  have hM0 : M = [] := List.eq_nil_of_length_eq_zero hi.len
  subst hM0
  have hiM : i < M'.length := by rw [hi'.len]; exact (List.getElem?_eq_some_iff.1 hH).1
  refine ⟨v, _, _, F', [M'[i]], rfl, ⟨rfl, rfl⟩, ?_, hi'.only hH (List.getElem?_eq_getElem hiM), ⟨x.fle, fun j p h => by simp at h, x.size, x.os, x.tape, x.output, x.old, x.newF, fun j p b h e => ?_⟩⟩
  · cases hv with
    | gs h ht hle hv => exact .gs h (by rw [← ht, List.getElem?_eq_getElem hiM]; rfl) hle hv
  · cases j with
    | zero => simp at h; subst h; exact x.newM i _ b (List.getElem?_eq_getElem hiM) e
    | succ j => simp at h
/-- The end of such a body. -/
inductive RetG (P : Program) (T : Tab) (fn : Func) (ty sz : Nat) (rows : List (List D)) : Exit → St → Prop where
  | ret {s : St} (h : RetT P fn ty sz rows .ret s) : RetG P T fn ty sz rows .ret s
  | normal {s : St} (h : RetT P fn ty sz rows .normal s) : RetG P T fn ty sz rows .normal s
theorem retG (hT : TabOk P T) {fn : Func} {s : St} {ty sz i : Nat} {rows rows' : List (List D)} (h : resAll T s fn.results.toList = some [.gs i rows']) (e : rows' = rows) (hp : s.hp[i]? = some (.tok ty sz rows.length)) : RetG P T fn ty sz rows .ret s := by
  subst e
  exact .ret ⟨_, i, resAll_sound hT h, rfl, hp⟩
theorem TCall.of_fx (hT : TabOk P T) (hm : P.follows .mixedOrders = true) {k : FuncId} {fn : Func} {c : Code} {args : List V} {ty sz : Nat} {rows : List (List D)} (hf : P.funcs[k]? = some fn) (hb : fn.body = some c) (hn : (fn.name == "runtime.NumGoroutine") = false) (ha : pures args = true)
    (h : fx P T c (initSt fn.ntmps args []) (RetG P T fn ty sz rows)) : TCall P k args ty sz rows :=
  .of_exec hf hb hn ha ((fx_sound hT hm h).mono fun e s hs => by cases hs <;> assumption)
theorem TCall.bd {k : FuncId} {args : List V} {ty sz : Nat} {rows : List (List D)} {fn : Func} {c : Code} (hf : P.funcs[k]? = some fn) (hb : fn.body = some c) (hn : (fn.name == "runtime.NumGoroutine") = false) (ha : pures args = true)
    (h : (∀ j, j < args.length → (args.getD j .any).Bd) → TCall P k args ty sz rows) : TCall P k args ty sz rows :=
  ⟨ha, SCall.bd (enters_of hf hb hn) fun hbd => (h hbd).call⟩
end
end Go.Ab

set_option linter.unusedVariables false
set_option linter.unusedSimpArgs false
namespace Go.Ab
section
variable {P : Program} {T : Tab}

/-! ### Regions that draw their order: appends, calls that answer a growing slice -/
theorem eff_append {o : Oper} {g : Nat → V} {i : Nat} {s x : Operand} {t e : TypeId} {sz bytes : Nat} {rows news : List (List D)} (ho : o.op = .call { callee := .builtin .append, args := #[s, x], argTypes := #[t, t] })
    (ht : P.underlying t = some (.slice e)) (he : ElIs P e sz bytes) (hs : evO g s = .gs i rows) (hx : rowsOf (evO g x) = some news)
    (hrs : ∀ r ∈ rows, r.length = sz) (hns : ∀ r ∈ news, r.length = sz) (hone : oneRows news = true) (hroom : (rows.length + news.length) * bytes ≤ 140737488355328) (hlen : rows.length + news.length ≤ 140737488355328) :
    EffOK P o g i (.tok e sz rows.length) (.gs i (rows ++ news)) (.tok e sz (rows.length + news.length)) := by
  intro F M w a H hi hH hd hr next Q hn
  have r1 := hr s (by rw [ho]; simp [Op.operands, Call.operands])
  have r2 := hr x (by rw [ho]; simp [Op.operands, Call.operands])
  rw [hs] at r1
  obtain ⟨v, w', F', p', h2, h3, h4, h5⟩ := append_run ho ht he hH hx hrs hns hone hroom hlen a.eval hi r1 r2
  unfold Oper.wp
  rw [h2]
  exact hn v F' p' w' h4 h5 h3
theorem eff_call {o : Oper} {g : Nat → V} {i : Nat} {f : Operand} {args : Array Operand} {ats : Array TypeId} {k : FuncId} {first cap : List V} {ty sz : Nat} {rows : List (List D)}
    (ho : o.op = .call { callee := .value f, args := args, argTypes := ats }) (hf : evO g f = .fn (.func k) first cap) (h : TCall P k (first ++ (args.toList.map (evO g) ++ cap)) ty sz rows) :
    EffOK P o g i .dead (.gs i rows) (.tok ty sz rows.length) := by
  intro F M w a H hi hH hd hr next Q hn
  have hv := hr f (by rw [ho]; simp [Op.operands, Call.operands])
  have hargs : ∀ y ∈ args, Rep F M (a.eval y) (evO g y) := fun y hy => hr y (by rw [ho]; simp [Op.operands, Call.operands, hy])
  rw [hf] at hv
  generalize hfv : a.eval f = fv at hv
  cases hv with
  | fn _ A C _ _ hA hC hrA hrC =>
    have hrun : (execOp a.eval o).run P w = .ok (.enter k (A ++ args.map a.eval ++ C)) w := by
      have := h.call.1 w (A ++ args.map a.eval ++ C)
      simp [execOp, ho, resolve, hfv, Deferred.ofValue, invoke] at *
      exact this
    unfold Oper.wp
    rw [hrun]
    show Calls P k _ w _
    have hreps : Reps F M (A.toList ++ ((args.map a.eval).toList ++ C.toList)) (first ++ (args.toList.map (evO g) ++ cap)) := by
      refine reps_append ⟨by simpa using hA, fun j hj => ?_⟩ (reps_append ⟨by simp, fun j hj => ?_⟩ ⟨by simpa using hC, fun j hj => ?_⟩)
      · simpa [List.getD_eq_getElem?_getD, Array.getD_eq_getD_getElem?] using hrA j hj
      · simp at hj
        simp [List.getD_eq_getElem?_getD, hj]
        exact hargs _ (Array.getElem_mem hj)
      · simpa [List.getD_eq_getElem?_getD, Array.getD_eq_getD_getElem?] using hrC j hj
    have hc := h.at hi hH (hd rfl) hreps
    have e : (A.toList ++ ((args.map a.eval).toList ++ C.toList)).toArray = A ++ args.map a.eval ++ C := by
      apply Array.ext'; simp
    rw [e] at hc
    refine hc.mono ?_
    rintro e w' ⟨v, F', p', rfl, i1, x1, hvr⟩
    exact hn v F' p' w' i1 x1 hvr

theorem loadA_one {agg : Bool} {n i off ty : Nat} {cells : List V} {H : List O} (h : H[i]? = some (.row ty cells)) : loadA agg n H (.bx i off) = loadA agg n [.row ty cells] (.bx 0 off) := by
  unfold loadA
  simp only [h]
  rfl
/-- A call that answers a growing slice. -/
structure TStop (P : Program) (k : FuncId) (args : List V) (K : Nat → Nat → List (List D) → Prop) : Prop where
  ex : ∃ ty sz rows, TCall P k args ty sz rows ∧ K ty sz rows
def tStop (P : Program) (k : FuncId) (first args cap : List V) (K : Nat → Nat → List (List D) → Prop) : Prop := match first, cap with
  | [], [] => TStop P k args K
  | first, cap => TStop P k (first ++ (args ++ cap)) K
theorem tStop_eq (k : FuncId) (first args cap : List V) (K : Nat → Nat → List (List D) → Prop) : tStop P k first args cap K = TStop P k (first ++ (args ++ cap)) K := by
  unfold tStop
  split
  · simp
  · rfl
theorem TCall.useT {k : FuncId} {args args' : List V} {ty sz : Nat} {rows : List (List D)} {K : Nat → Nat → List (List D) → Prop} (h : TCall P k args' ty sz rows) (e : EntL args args') (hp : pures args = true) (hk : K ty sz rows) : TStop P k args K :=
  ⟨ty, sz, rows, ⟨hp, h.call.args e⟩, hk⟩

theorem call_enter {o : Oper} {f : Operand} {args : Array Operand} {ats : Array TypeId} {k : FuncId} {ρ : Operand → Value} {A C : Array Value} {w : World} (he : Enters P k) (ho : o.op = .call { callee := .value f, args := args, argTypes := ats }) (hfv : ρ f = .func (.func k) A C) :
    (execOp ρ o).run P w = .ok (.enter k (A ++ args.map ρ ++ C)) w := by
  have := he w (A ++ args.map ρ ++ C)
  simp [execOp, ho, resolve, hfv, Deferred.ofValue, invoke] at *
  exact this
/-- A call of a function of data, among whatever things. -/
theorem PCall.atM {k : FuncId} {args : List V} {r : V} (h : PCall P k args r) {F : Mem} {M : Pls} {w : World} {H : List O} {vals : List Value} (hi : Inv F M w H) (hr : Reps F M vals args) :
    Calls P k vals.toArray w fun e w' => ∃ v F', e = .returned v ∧ Rep F' M v r ∧ Inv F' M w' H ∧ Ext F M w F' M w' := by
  refine (h.call.2 F [] w vals hi.drop ⟨hr.1, fun j hj => (hr.2 j hj).pure [] (pures_getD h.argsPure hj)⟩).mono ?_
  rintro e w' ⟨v, r', H', F', M', rfl, rfl, hv, hi', x⟩
  obtain ⟨h1, h2⟩ := hi.back hi' x
  exact ⟨v, F', rfl, hv.pure M h.pure, h1, h2⟩
/-- What an operation of such a region does: what it makes of one thing, or which one it reads. -/
inductive ES2 (P : Program) (ops : Array Oper) (n0 : Nat) (H0 : List O) (g : Nat → V) (X : List O) (o : Oper) (r : V) : Option (Nat × O) → Option Nat → Prop where
  | quiet (h : QS P ops g H0 o r) (hg : ∀ t, uses o t = true → (g t).lt n0 = true) : ES2 P ops n0 H0 g X o r none none
  | free (hgd : o.guard = none) (h : ∀ H, Yp P o (mask o g) H r) : ES2 P ops n0 H0 g X o r none none
  | load {t : TypeId} {a : Operand} {agg : Bool} {n j off ty : Nat} {cells : List V} (ho : o.op = .load t a) (hgd : o.guard = none) (ht : TyIs P t agg n) (ha : evO g a = .bx (n0 + j) off) (hX : X[j]? = some (.row ty cells))
      (hr : ∀ H : List O, H[n0 + j]? = some (.row ty cells) → loadA agg n H (.bx (n0 + j) off) = some r) : ES2 P ops n0 H0 g X o r none (some j)
  | alloc {t : TypeId} {z : V} {j : Nat} (ho : o.op = .alloc t) (hgd : o.guard = none) (hz : zeroV P t = some z) (h1 : (cellsV z).all V.oneC = true) (hr : r = .bx (n0 + j) 0) (hd : X[j]? = some .dead) : ES2 P ops n0 H0 g X o r (some (j, .row t (cellsV z))) none
  | store {t ty : TypeId} {a x : Operand} {agg : Bool} {n j off : Nat} {cells : List V} (ho : o.op = .store t a x) (hgd : o.guard = none) (ht : TyIs P t agg n) (ha : evO g a = .bx (n0 + j) off) (hX : X[j]? = some (.row ty cells))
      (hx : (cellsV (evO g x)).all V.oneC = true) (hn : (cellsV (evO g x)).length = n) (hfit : off + n ≤ cells.length) (hr : r = .d (.lit undef)) : ES2 P ops n0 H0 g X o r (some (j, .row ty (setsV cells off (cellsV (evO g x))))) none
  | eff {j : Nat} {x o' : O} (hgd : o.guard = none) (hX : X[j]? = some x) (hl : o'.live = true) (h : EffOK P o g (n0 + j) x r o') : ES2 P ops n0 H0 g X o r (some (j, o')) none
  | call {f : Operand} {args : Array Operand} {ats : Array TypeId} {k : FuncId} {first cap args' : List V} (ho : o.op = .call { callee := .value f, args := args, argTypes := ats }) (hgd : o.guard = none) (hf : evO g f = .fn (.func k) first cap)
      (h : PCall P k args' r) (he : EntL (first ++ (args.toList.map (evO g) ++ cap)) args') : ES2 P ops n0 H0 g X o r none none

set_option maxHeartbeats 1000000 in
theorem SExec.region_eff2 {id : Nat} {ops : Array Oper} {s : St} {Q : Exit → St → Prop} (hm : P.follows .mixedOrders = true) (hok : okDraw ops = true) (H0 Xp : List O) (hs : s.hp = H0 ++ Xp) (hl : hpLt H0.length H0 = true) (hlive : H0.all O.live = true) (hXp : Xp.all O.live = true)
    (m : Nat) (zs : List (Oper × V)) (es : List (Option (Nat × O))) (ds : List (Option Nat)) (hz : zs.map (·.1) = ops.toList) (hel : es.length = ops.size) (hdl : ds.length = ops.size)
    (hE : ∀ i i' j o o' oi, es[i]? = some (some (j, o)) → es[i']? = some (some (j, o')) → i < i' → ops[i']? = some oi → ∃ e ∈ oi.after, Region.binds .any e = true ∧ e.on = i)
    (hR : ∀ i i' j o' oi oi', ds[i]? = some (some j) → es[i']? = some (some (j, o')) → ops[i]? = some oi → ops[i']? = some oi' →
      (i < i' → ∃ e ∈ oi'.after, Region.binds .any e = true ∧ e.on = i) ∧ (i' < i → ∃ e ∈ oi.after, Region.binds .any e = true ∧ e.on = i') ∧ i ≠ i')
    (hq : ∀ i z e d, zs[i]? = some z → es[i]? = some e → ds[i]? = some d → ES2 P ops H0.length H0 (gF s.n (fun m => decide (m < i)) 0 zs s.get) (xF (fun m => decide (m < i)) 0 es (Xp ++ List.replicate m .dead)) z.1 z.2 e d)
    (s' : St) (hn : s'.n = s.n) (hh : s'.hp = H0 ++ xF (fun _ => true) 0 es (Xp ++ List.replicate m .dead)) (hg : ∀ t, EntV (gF s.n (fun _ => true) 0 zs s.get t) (s'.get t)) (h : Q .normal s') : SExec P (.region id ops true) s Q := by
  intro F M w a rel
  refine wp_region_any hm ?_
  have hlen : zs.length = ops.size := by have := congrArg List.length hz; simpa using this
  have hzi : ∀ (i : Nat) (o : Oper), ops[i]? = some o → ∃ r : V, zs[i]? = some (o, r) := fun i o ho => by
    have h1 : (zs.map (·.1))[i]? = some o := by rw [hz]; simpa using ho
    rw [List.getElem?_map] at h1
    cases hzz : zs[i]? with
    | none => simp [hzz] at h1
    | some z => simp [hzz] at h1; exact ⟨z.2, by rw [← h1]⟩
  have hzo : ∀ (i : Nat) (z : Oper × V), zs[i]? = some z → ops[i]? = some z.1 := fun i z h => by
    have h1 : (zs.map (·.1))[i]? = some z.1 := by rw [List.getElem?_map, h]; rfl
    rw [hz] at h1; simpa using h1
  have hxl : M.length = H0.length + Xp.length := by rw [rel.inv.len, hs]; simp
  generalize hX0 : Xp ++ List.replicate m O.dead = X0 at hq hh
  refine draw_core2 (P := P) (R := fun L F M a w => RelT F M a w (gF s.n L 0 zs s.get) s.n (H0 ++ xF L 0 es X0) ∧ ∀ j, (xF L 0 es X0)[j]? = some .dead → M[H0.length + j]? = some .hole)
    (fun j oj hj => (okDraw_spec hok hj).1) ?_ ops.size (Array.replicate ops.size false) F (M ++ List.replicate m .hole) a { w with drawn := w.drawn + 1 } (by simp) (by simp) ?_ ?_ ?_
  · intro L j o ho hLj hdeps hclosed K F M a w ⟨rel, hole⟩ hk
    obtain ⟨r, hzj⟩ := hzi j o ho
    have hej : ∃ e, es[j]? = some e := by
      have : j < es.length := by rw [hel]; exact (Array.getElem?_eq_some_iff.1 ho).1
      exact ⟨es[j], by simp [this]⟩
    obtain ⟨e, hej⟩ := hej
    have hdj : ∃ d, ds[j]? = some d := by
      have : j < ds.length := by rw [hdl]; exact (Array.getElem?_eq_some_iff.1 ho).1
      exact ⟨ds[j], by simp [this]⟩
    obtain ⟨d, hdj⟩ := hdj
    have hstep := hq j _ e d hzj hej hdj
    have hread : ∀ k, d = some k → (xF L 0 es X0)[k]? = (xF (fun m => decide (m < j)) 0 es X0)[k]? := by
      rintro k rfl
      refine xF_congr es 0 _ _ rfl fun i o' hi => ?_
      rw [Nat.zero_add]
      have hio : i < ops.size := by rw [← hel]; exact (List.getElem?_eq_some_iff.1 hi).1
      obtain ⟨r1, r2, r3⟩ := hR j i k o' o ops[i] hdj hi ho (by simp [hio])
      rcases Nat.lt_trichotomy i j with hij | hij | hij
      · obtain ⟨e', he', hb', hon⟩ := r2 hij
        rw [← hon, hdeps e' he' hb']; simp; omega
      · exact absurd hij.symm r3
      · have : L i = false := by
          cases hl : L i with
          | false => rfl
          | true =>
            obtain ⟨e', he', hb', hon⟩ := r1 hij
            have := hclosed i ops[i] (by simp [hio]) hl e' he' hb'
            rw [hon, hLj] at this; cases this
        rw [this]; simp; omega
    obtain ⟨_, hspec⟩ := okDraw_spec hok ho
    -- what the operation looks at is as in the lexical run
    have hlook : ∀ t, t ∈ o.looksAt ops → gF s.n (fun m => decide (m < j)) 0 zs s.get t = gF s.n L 0 zs s.get t := by
      intro t ht
      refine gF_congr zs 0 s.get s.get rfl fun i z hz' hd => ?_
      rw [Nat.zero_add]
      have hoi := hzo i z hz'
      by_cases hij : i = j
      · subst hij; rw [hLj]; simp
      · rcases (hspec i z.1 t hoi hij hd).2 ht with ⟨h1, e, he, hb, hon⟩ | ⟨h1, e, he, hb, hon⟩
        · rw [← hon, hdeps e he hb]; simp; omega
        · have : L i = false := by
            cases hl : L i with
            | false => rfl
            | true =>
              have := hclosed i z.1 hoi hl e he hb
              rw [hon, hLj] at this; cases this
          rw [this]; simp; omega
    have huse : ∀ t, uses o t = true → gF s.n (fun m => decide (m < j)) 0 zs s.get t = gF s.n L 0 zs s.get t := fun t ht => hlook t (uses_looks ht)
    have hset : gF s.n (fun m => if m = j then true else L m) 0 zs s.get = putG (gF s.n L 0 zs s.get) s.n o.dst r := by
      refine gF_set zs 0 s.get (Nat.zero_le _) (by simpa using hzj) hLj ?_
      intro i z hz' hne hd
      cases hdz : z.1.dst with
      | none => rfl
      | some t =>
        exfalso
        rw [Nat.zero_add] at hne
        have := (hspec i z.1 t (hzo i z hz') hne hdz).1
        exact this (by rw [← hd]; exact hdz)
    -- the slot that an effect is on
    have hslot : ∀ (k : Nat) (ob : O), e = some (k, ob) → (xF L 0 es X0)[k]? = (xF (fun m => decide (m < j)) 0 es X0)[k]? ∧ (∀ i o', es[i]? = some (some (k, o')) → j < i → L i = false) := by
      rintro k ob rfl
      have hlater : ∀ i o', es[i]? = some (some (k, o')) → j < i → L i = false := fun i o' hi hji => by
        cases hl : L i with
        | false => rfl
        | true =>
          have hio : i < ops.size := by rw [← hel]; exact (List.getElem?_eq_some_iff.1 hi).1
          obtain ⟨e', he', hb', hon⟩ := hE j i k ob o' ops[i] hej hi hji (by simp [hio])
          have := hclosed i ops[i] (by simp [hio]) hl e' he' hb'
          rw [hon, hLj] at this; cases this
      refine ⟨xF_congr es 0 _ _ rfl fun i o' hi => ?_, hlater⟩
      rw [Nat.zero_add]
      rcases Nat.lt_trichotomy i j with hij | hij | hij
      · obtain ⟨e', he', hb', hon⟩ := hE i j k o' ob o hi hej hij ho
        rw [← hon, hdeps e' he' hb']; simp; omega
      · subst hij; rw [hLj]; simp
      · rw [hlater i o' hi hij]; simp; omega
    cases hstep with
    | quiet hqs hlt =>
      have hqs' : QS P ops (gF s.n L 0 zs s.get) H0 o r := hqs.congr hlook
      refine hqs'.wpTail ho hl hlive (fun t ht => by rw [← huse t ht]; exact hlt t ht) rel fun a' w' F' M1 hm1 rel' x => ?_
      refine hk F' _ a' w' ⟨?_, fun k hd => ?_⟩ x
      · rw [hset, xF_same es X0 hej]; exact rel'
      · rw [xF_same es X0 hej] at hd
        rw [List.getElem?_append_right (by omega), List.getElem?_drop]
        rw [hm1, show H0.length + (H0.length + k - H0.length) = H0.length + k by omega]
        exact hole k hd
    | free hgd hf =>
      have hmask : ∀ x, Rep F M (a.eval x) (evO (mask o (gF s.n (fun m => decide (m < j)) 0 zs s.get)) x) := fun x => by
        cases x with
        | tmp t =>
          show Rep F M _ (mask o _ t)
          unfold mask
          split
          · rename_i hu; rw [huse t hu]; exact rel.tmps t
          · exact .any _
        | const v => exact rel.ev (.const v)
        | global b => exact rel.ev (.global b)
        | func f => exact rel.ev (.func f)
      obtain ⟨v, hrun, hv⟩ := hf _ F M w a.eval rel.inv hmask
      refine wpOp_run ho hgd ?_
      unfold Oper.wp
      rw [hrun]
      refine hk F M _ w ⟨?_, fun k hd => ?_⟩ (.refl _ _ _)
      · rw [hset, xF_same es X0 hej]
        exact rel.put (.refl _) (.refl _) rel.inv o.dst hv
      · rw [xF_same es X0 hej] at hd; exact hole k hd
    | @call f args ats fk first cap args' hop hgd hf hc he =>
      have huse' : ∀ y, y ∈ o.op.operands → evO (gF s.n (fun m => decide (m < j)) 0 zs s.get) y = evO (gF s.n L 0 zs s.get) y := fun y hy => op_mem_uses hy huse
      have hv := rel.ev f
      have hff : f ∈ o.op.operands := by rw [hop]; simp [Op.operands, Call.operands]
      rw [← huse' f hff, hf] at hv
      have hargs : ∀ y ∈ args, Rep F M (a.eval y) (evO (gF s.n (fun m => decide (m < j)) 0 zs s.get) y) := fun y hy => by
        rw [huse' y (by rw [hop]; simp [Op.operands, Call.operands, hy])]
        exact rel.ev y
      refine wpOp_run ho hgd ?_
      generalize hfv : a.eval f = fv at hv
      cases hv with
      | fn _ A C _ _ hA hC hrA hrC =>
        have hrun : (execOp a.eval o).run P w = .ok (.enter fk (A ++ args.map a.eval ++ C)) w := call_enter hc.call.1 hop hfv
        unfold Oper.wp
        rw [hrun]
        show Calls P fk _ w _
        have hreps : Reps F M (A.toList ++ ((args.map a.eval).toList ++ C.toList)) (first ++ (args.toList.map (evO (gF s.n (fun m => decide (m < j)) 0 zs s.get)) ++ cap)) := by
          refine reps_append ⟨by simpa using hA, fun j hj => ?_⟩ (reps_append ⟨by simp, fun j hj => ?_⟩ ⟨by simpa using hC, fun j hj => ?_⟩)
          · simpa [List.getD_eq_getElem?_getD, Array.getD_eq_getD_getElem?] using hrA j hj
          · simp at hj
            simp [List.getD_eq_getElem?_getD, hj]
            exact hargs _ (Array.getElem_mem hj)
          · simpa [List.getD_eq_getElem?_getD, Array.getD_eq_getD_getElem?] using hrC j hj
        have hcc := hc.atM rel.inv (vals := A.toList ++ ((args.map a.eval).toList ++ C.toList)) ⟨hreps.1.trans he.length, fun j hj => he.get j F M _ (hreps.2 j (by rw [he.length]; exact hj))⟩
        have e : (A.toList ++ ((args.map a.eval).toList ++ C.toList)).toArray = A ++ args.map a.eval ++ C := by
          apply Array.ext'; simp
        rw [e] at hcc
        refine hcc.mono ?_
        rintro e w' ⟨v, F', rfl, hvr, i1, x1⟩
        refine hk F' M _ w' ⟨?_, fun k hd => ?_⟩ x1
        · rw [hset, xF_same es X0 hej]
          exact rel.put x1.fle x1.mle i1 o.dst hvr
        · rw [xF_same es X0 hej] at hd; exact hole k hd
    | @load t p agg nn k off ty cells hop hgd ht ha hX hr =>
      rw [← hread k rfl] at hX
      have hH : (H0 ++ xF L 0 es X0)[H0.length + k]? = some (.row ty cells) := by rw [List.getElem?_append_right (by omega)]; simpa using hX
      have hpm : p ∈ o.op.operands := by rw [hop]; simp [Op.operands]
      have ep := op_mem_uses hpm huse
      rw [ep] at ha
      obtain ⟨v, hrun, hv⟩ := (Yp.load (P := P) (g := gF s.n L 0 zs s.get) hop ht (by rw [ha]; exact hr _ hH)) F M w a.eval rel.inv rel.ev
      refine wpOp_run ho hgd ?_
      unfold Oper.wp
      rw [hrun]
      refine hk F M _ w ⟨?_, fun k hd => ?_⟩ (.refl _ _ _)
      · rw [hset, xF_same es X0 hej]
        exact rel.put (.refl _) (.refl _) rel.inv o.dst hv
      · rw [xF_same es X0 hej] at hd; exact hole k hd
    | @alloc t z k hop hgd hzv h1 hr hd =>
      obtain ⟨hsame, hlater⟩ := hslot k _ rfl
      rw [← hsame] at hd
      have hH : (H0 ++ xF L 0 es X0)[H0.length + k]? = some .dead := by rw [List.getElem?_append_right (by omega)]; simpa using hd
      obtain ⟨v, w', hrun, hinv, x, hv⟩ := alloc_run (P := P) hop hzv h1 a.eval rel.inv hH (hole k hd)
      refine wpOp_run ho hgd ?_
      unfold Oper.wp
      rw [hrun]
      have hH' : (H0 ++ xF L 0 es X0).set (H0.length + k) (.row t (cellsV z)) = H0 ++ (xF L 0 es X0).set k (.row t (cellsV z)) := by
        rw [List.set_append_right _ _ (by omega)]; congr 2; omega
      rw [hH'] at hinv
      subst hr
      refine hk F _ _ w' ⟨?_, fun k' hd' => ?_⟩ x
      · rw [hset, xF_set es X0 hej hLj hlater]
        exact rel.put x.fle x.mle hinv o.dst hv
      · rw [xF_set es X0 hej hLj hlater] at hd'
        by_cases hkk : k = k'
        · subst hkk
          rw [List.getElem?_set] at hd'
          simp only [if_true] at hd'
          split at hd' <;> cases hd'
        · rw [List.getElem?_set_ne hkk] at hd'
          rw [List.getElem?_set_ne (by omega)]
          exact hole k' hd'
    | @store t ty p x agg nn k off cells hop hgd ht ha hX hx hnn hfit hr =>
      obtain ⟨hsame, hlater⟩ := hslot k _ rfl
      rw [← hsame] at hX
      have hpm : p ∈ o.op.operands := by rw [hop]; simp [Op.operands]
      have hxm : x ∈ o.op.operands := by rw [hop]; simp [Op.operands]
      have ep := op_mem_uses hpm huse
      have ex := op_mem_uses hxm huse
      have hH : (H0 ++ xF L 0 es X0)[H0.length + k]? = some (.row ty cells) := by rw [List.getElem?_append_right (by omega)]; simpa using hX
      rw [ep] at ha
      rw [ex] at hx hnn
      obtain ⟨w', hrun, hinv, xx⟩ := store_run (P := P) hop ht ha hH hx hnn hfit F M w a.eval rel.inv rel.ev
      refine wpOp_run ho hgd ?_
      unfold Oper.wp
      rw [hrun]
      have hH' : (H0 ++ xF L 0 es X0).set (H0.length + k) (.row ty (setsV cells off (cellsV (evO (gF s.n L 0 zs s.get) x)))) = H0 ++ (xF L 0 es X0).set k (.row ty (setsV cells off (cellsV (evO (gF s.n L 0 zs s.get) x)))) := by
        rw [List.set_append_right _ _ (by omega)]; congr 2; omega
      rw [hH'] at hinv
      subst hr
      refine hk F _ _ w' ⟨?_, fun k' hd' => ?_⟩ xx
      · rw [hset, xF_set es X0 hej hLj hlater, ex]
        exact rel.put xx.fle xx.mle hinv o.dst (Rep.lit undef)
      · rw [xF_set es X0 hej hLj hlater] at hd'
        by_cases hkk : k = k'
        · subst hkk
          rw [List.getElem?_set] at hd'
          simp only [if_true] at hd'
          split at hd' <;> cases hd'
        · rw [List.getElem?_set_ne hkk] at hd'
          exact hole k' hd'
    | @eff k x o' hgd hX hl' hE' =>
      obtain ⟨hsame, hlater⟩ := hslot k _ rfl
      rw [← hsame] at hX
      have hH : (H0 ++ xF L 0 es X0)[H0.length + k]? = some x := by rw [List.getElem?_append_right (by omega)]; simpa using hX
      refine wpOp_run ho hgd ?_
      refine hE' F M w a _ rel.inv hH (fun hd => hole k (by rw [hX, hd])) (fun y hy => by rw [op_mem_uses hy huse]; exact rel.ev y) _ _ ?_
      intro v F' p' w' hinv xx hv
      have hH' : (H0 ++ xF L 0 es X0).set (H0.length + k) o' = H0 ++ (xF L 0 es X0).set k o' := by
        rw [List.set_append_right _ _ (by omega)]; congr 2; omega
      rw [hH'] at hinv
      refine hk F' _ _ w' ⟨?_, fun k' hd' => ?_⟩ xx
      · rw [hset, xF_set es X0 hej hLj hlater]
        exact rel.put xx.fle xx.mle hinv o.dst hv
      · rw [xF_set es X0 hej hLj hlater] at hd'
        by_cases hkk : k = k'
        · subst hkk
          rw [List.getElem?_set] at hd'
          simp only [if_true] at hd'
          split at hd'
          · cases hd'; cases hl'
          · cases hd'
        · rw [List.getElem?_set_ne hkk] at hd'
          rw [List.getElem?_set_ne (by omega)]
          exact hole k' hd'
  · intro j oj hj hlst
    have hlt := (Array.getElem?_eq_some_iff.1 hj).1
    simp [hlt] at hlst
  · have hf : ∀ i, (Array.replicate ops.size false).getD i false = false := fun i => by
      rcases Nat.lt_or_ge i ops.size with h' | h'
      · simp [h']
      · simp [h']
    refine ⟨?_, fun j hd => ?_⟩
    · rw [gF_none _ _ _ (fun m _ => hf m), xF_none _ _ _ (fun m _ => hf m), ← hX0, ← List.append_assoc, ← hs]
      have hdi : Inv F M { w with drawn := w.drawn + 1 } s.hp := ⟨rel.inv.cells, rel.inv.len, fun i o p a b => (rel.inv.objs i o p a b).mono (.refl _) (.refl _) (fun _ _ => rfl) (fun _ _ _ _ h => h), rel.inv.sep, rel.inv.inb, rel.inv.gnd⟩
      exact ⟨rel.defers, rel.size, hdi.holes m, fun t => (rel.tmps t).mono (.refl _) (.append _ _)⟩
    · rw [xF_none _ _ _ (fun m _ => hf m), ← hX0] at hd
      have hjx : Xp.length ≤ j := by
        rcases Nat.lt_or_ge j Xp.length with h' | h'
        · rw [List.getElem?_append_left h'] at hd
          have := List.all_eq_true.1 hXp .dead (List.mem_iff_getElem?.2 ⟨j, hd⟩)
          cases this
        · exact h'
      have hjm : j < Xp.length + m := by
        have := (List.getElem?_eq_some_iff.1 hd).1
        simpa using this
      rw [List.getElem?_append_right (by omega), List.getElem?_replicate, if_pos (by omega)]
  · rintro F' M' a' w' ⟨rel', _⟩ x
    have hx0 : Ext F M w F (M ++ List.replicate m .hole) { w with drawn := w.drawn + 1 } := ⟨.refl _, .append _ _, Nat.le_refl _, rfl, rfl, rfl, fun _ _ _ => rfl, fun a h h' => absurd h h', fun i p b h e => by
      by_cases hl' : i < M.length
      · rw [List.getElem?_append_left hl'] at h; exact .inr ⟨i, p, h, e⟩
      · rw [List.getElem?_append_right (by omega), List.getElem?_replicate] at h
        split at h
        · cases h; cases e
        · cases h⟩
    have eg : gF s.n (fun i => decide (i < ops.size)) 0 zs s.get = gF s.n (fun _ => true) 0 zs s.get := gF_all zs 0 s.get (fun m _ h2 => by simp; omega)
    have exx : xF (fun i => decide (i < ops.size)) 0 es X0 = xF (fun _ => true) 0 es X0 := by
      apply List.ext_getElem?
      intro j
      refine xF_congr es 0 _ _ rfl fun i o hi => ?_
      have := (List.getElem?_eq_some_iff.1 hi).1
      simp; omega
    rw [eg, exx, ← hh] at rel'
    refine ⟨s', F', M', h, ⟨rel'.defers, rel'.size.trans hn.symm, rel'.inv, fun t => hg t F' M' _ (rel'.tmps t)⟩, hx0.trans x⟩

/-- A call of a function of data, its arguments said anew. -/
structure PStop (P : Program) (k : FuncId) (args : List V) (K : V → Prop) : Prop where
  ex : ∃ args' r, PCall P k args' r ∧ EntL args args' ∧ K r
def pStop (P : Program) (k : FuncId) (first args cap : List V) (K : V → Prop) : Prop := match first, cap with
  | [], [] => PStop P k args K
  | first, cap => PStop P k (first ++ (args ++ cap)) K
theorem pStop_eq (k : FuncId) (first args cap : List V) (K : V → Prop) : pStop P k first args cap K = PStop P k (first ++ (args ++ cap)) K := by
  unfold pStop
  split
  · simp
  · rfl
theorem PCall.useP {k : FuncId} {args args' : List V} {r : V} {K : V → Prop} (h : PCall P k args' r) (e : EntL args args') (hk : K r) : PStop P k args K := ⟨args', r, h, e, hk⟩
abbrev KG := St → List O → List (Nat × Nat × Bool) → Prop
abbrev IG := St → List O → Nat → List (Nat × Nat × Bool) → Nat → KG → Prop
/-! ### The evaluator of such regions -/
def ERun2 (P : Program) (ops : Array Oper) (n : Nat) (H0 : List O) : List (Oper × V) → List (Option (Nat × O)) → List (Option Nat) → (Nat → V) → List O → Prop
  | [], [], [], _, _ => True
  | z :: zs, e :: es, d :: ds, g, X => ES2 P ops H0.length H0 g X z.1 z.2 e d ∧ ERun2 P ops n H0 zs es ds (putG g n z.1.dst z.2) (xStep true e X)
  | _, _, _, _, _ => False
theorem ERun2.at {ops : Array Oper} {n : Nat} {H0 : List O} : ∀ (zs : List (Oper × V)) (es : List (Option (Nat × O))) (ds : List (Option Nat)) (k : Nat) (g : Nat → V) (X : List O), ERun2 P ops n H0 zs es ds g X → ∀ i z e d, zs[i]? = some z → es[i]? = some e → ds[i]? = some d →
    ES2 P ops H0.length H0 (gF n (fun m => decide (m < k + i)) k zs g) (xF (fun m => decide (m < k + i)) k es X) z.1 z.2 e d
  | [], _, _, _, _, _, _, i, z, e, d, h, _, _ => by simp at h
  | _ :: _, [], _, _, _, _, h, _, _, _, _, _, _, _ => h.elim
  | _ :: _, _ :: _, [], _, _, _, h, _, _, _, _, _, _, _ => h.elim
  | z :: zs, e :: es, d :: ds, k, g, X, hr, 0, z', e', d', h, h', h'' => by
    simp at h h' h''; subst h; subst h'; subst h''
    rw [Nat.add_zero, gF_none _ _ _ (fun m hm => by simp; omega), xF_none _ _ _ (fun m hm => by simp; omega)]
    exact hr.1
  | z :: zs, e :: es, d :: ds, k, g, X, hr, i + 1, z', e', d', h, h', h'' => by
    have := ERun2.at zs es ds (k + 1) _ _ hr.2 i z' e' d' (by simpa using h) (by simpa using h') (by simpa using h'')
    rw [xF]
    simp only [gF]
    simp only [show k < k + (i + 1) by omega, decide_true, if_true]
    rwa [show k + 1 + i = k + (i + 1) by omega] at this
/-- What the evaluator finds. -/
structure FE2 (P : Program) (ops : Array Oper) (l : List Oper) (s : St) (X : List O) (js : List (Nat × Nat × Bool)) (k : Nat) (K : KG) where
  zs : List (Oper × V)
  es : List (Option (Nat × O))
  ds : List (Option Nat)
  s' : St
  js' : List (Nat × Nat × Bool)
  hz : zs.map (·.1) = l
  hel : es.length = l.length
  hdl : ds.length = l.length
  run : ERun2 P ops s.n s.hp zs es ds s.get X
  hn : s'.n = s.n
  hh : s'.hp = s.hp
  hg : ∀ k, s'.get = gF s.n (fun _ => true) k zs s.get
  slots : ∀ (i j : Nat) (o : O), es[i]? = some (some (j, o)) → (k + i, j, false) ∈ js'
  reads : ∀ (i j : Nat), ds[i]? = some (some j) → (k + i, j, true) ∈ js'
  one : ∀ (i j : Nat) (o : O), es[i]? = some (some (j, o)) → ds[i]? = some none
  keep : ∀ p ∈ js, p ∈ js'
  go : ∃ X', (∀ k, X' = xF (fun _ => true) k es X) ∧ K s' X' js'

def gQuiet (P : Program) (T : Tab) (ops : Array Oper) (o : Oper) (ih : IG) (n : Nat) (tm : List (Nat × V)) (H0 : List O) (X : List O) (c : Nat) (js : List (Nat × Nat × Bool)) (k : Nat) (K : KG) : Prop :=
  chk (usesLt o (fun t => getT t tm) H0.length) (fOpsQStep P T ops o [] (fun s' _ => ih s' X c js (k + 1) K) ⟨n, tm, H0⟩ (fun _ => True))
def gTok (P : Program) (o : Oper) (ih : IG) (n : Nat) (tm : List (Nat × V)) (H0 : List O) (X : List O) (c : Nat) (js : List (Nat × Nat × Bool)) (k : Nat) (K : KG) : Prop :=
  match callOf o.op, o.guard, X[c]? with
  | some (f, args), none, some .dead => match fnOf (evO (fun t => getT t tm) f) with
    | some (fk, first, cap) => evArgs (fun t => getT t tm) args.toList fun vs => tStop P fk first vs cap fun ty sz rows => ih (putS n tm H0 o.dst (.gs (H0.length + c) rows)) (X.set c (.tok ty sz rows.length)) (c + 1) ((k, c, false) :: js) (k + 1) K
    | none => False
  | _, _, _ => False
def gPure (P : Program) (o : Oper) (ih : IG) (n : Nat) (tm : List (Nat × V)) (H0 : List O) (X : List O) (c : Nat) (js : List (Nat × Nat × Bool)) (k : Nat) (K : KG) : Prop :=
  match callOf o.op, o.guard with
  | some (f, args), none => match fnOf (evO (fun t => getT t tm) f) with
    | some (fk, first, cap) => evArgs (fun t => getT t tm) args.toList fun vs => pStop P fk first vs cap fun r => force r fun r => ih (putS n tm H0 o.dst r) X c js (k + 1) K
    | none => False
  | _, _ => False
def gAppend (T : Tab) (o : Oper) (ih : IG) (n : Nat) (tm : List (Nat × V)) (H0 : List O) (X : List O) (c : Nat) (js : List (Nat × Nat × Bool)) (k : Nat) (K : KG) (id : Nat) (rows : List (List D)) (x : Operand) (t : TypeId) : Prop :=
  match sliceEl T t, rowsOf (evO (fun t => getT t tm) x), X[id - H0.length]? with
  | some (e, j), some news, some (.tok e' sz m) => match j.zero with
    | some z => (H0.length ≤ id ∧ e' = e ∧ sz = j.size ∧ m = rows.length ∧ (cellsV z).length = j.size ∧ 0 < j.size ∧ (∀ r ∈ rows, r.length = j.size) ∧ (∀ r ∈ news, r.length = j.size) ∧ oneRows news = true ∧
        (rows.length + news.length) * j.bytes ≤ 140737488355328 ∧ rows.length + news.length ≤ 140737488355328) ∧
        ih (putS n tm H0 o.dst (.gs id (rows ++ news))) (X.set (id - H0.length) (.tok e j.size (rows.length + news.length))) c ((k, id - H0.length, false) :: js) (k + 1) K
    | none => False
  | _, _, _ => False
def fGStep (P : Program) (T : Tab) (ops : Array Oper) (o : Oper) (ih : IG) (s : St) (X : List O) (c : Nat) (js : List (Nat × Nat × Bool)) (k : Nat) (K : KG) : Prop := match s with
  | ⟨n, tm, H0⟩ => match o.op with
    | .alloc t => match o.guard, T t with
      | none, some i => match i.zero, X[c]? with
        | some z, some .dead => chk ((cellsV z).all V.oneC) (ih (putS n tm H0 o.dst (.bx (H0.length + c) 0)) (X.set c (.row t (cellsV z))) (c + 1) ((k, c, false) :: js) (k + 1) K)
        | _, _ => False
      | _, _ => False
    | .store t a x => match o.guard, T t, evO (fun t => getT t tm) a with
      | none, some i, .bx id off => match X[id - H0.length]? with
        | some (.row ty cells) => chk (decide (H0.length ≤ id) && (cellsV (evO (fun t => getT t tm) x)).all V.oneC && decide ((cellsV (evO (fun t => getT t tm) x)).length = i.size) && decide (off + i.size ≤ cells.length))
            (ih (putS n tm H0 o.dst (.d (.lit undef))) (X.set (id - H0.length) (.row ty (setsV cells off (cellsV (evO (fun t => getT t tm) x))))) c ((k, id - H0.length, false) :: js) (k + 1) K)
        | _ => False
      | _, _, _ => False
    | .load t a => match o.guard, T t, evO (fun t => getT t tm) a with
      | none, some i, .bx id off => bsel (decide (H0.length ≤ id)) (match X[id - H0.length]? with
          | some (.row ty cells) => match loadA i.k.agg i.size [.row ty cells] (.bx 0 off) with
            | some r => force r fun r => ih (putS n tm H0 o.dst r) X c ((k, id - H0.length, true) :: js) (k + 1) K
            | none => False
          | _ => False) (gQuiet P T ops o ih n tm H0 X c js k K)
      | _, _, _ => gQuiet P T ops o ih n tm H0 X c js k K
    | .move x => match o.guard with
      | none => force (evO (fun t => getT t tm) x) fun r => ih (putS n tm H0 o.dst r) X c js (k + 1) K
      | _ => gQuiet P T ops o ih n tm H0 X c js k K
    | .assign x => match o.guard with
      | none => force (evO (fun t => getT t tm) x) fun r => ih (putS n tm H0 o.dst r) X c js (k + 1) K
      | _ => gQuiet P T ops o ih n tm H0 X c js k K
    | .fieldAddr t x f => match o.guard, fieldOf T t f, evO (fun t => getT t tm) x with
      | none, some (off, _, j), .bx id m => chk (decide (0 < j.size)) (ih (putS n tm H0 o.dst (.bx id (m + off))) X c js (k + 1) K)
      | _, _, _ => gQuiet P T ops o ih n tm H0 X c js k K
    | .call { callee := .builtin .append, args := args, argTypes := ats } => match o.guard, args.toList, ats.toList with
      | none, [sx, x], [t, u] => match evO (fun t => getT t tm) sx with
        | .gs id rows => if u = t then gAppend T o ih n tm H0 X c js k K id rows x t else False
        | _ => gQuiet P T ops o ih n tm H0 X c js k K
      | _, _, _ => gQuiet P T ops o ih n tm H0 X c js k K
    | .call { callee := .value f, args := args, argTypes := ats } => gQuiet P T ops o ih n tm H0 X c js k K ∨ gTok P o ih n tm H0 X c js k K ∨ gPure P o ih n tm H0 X c js k K
    | _ => gQuiet P T ops o ih n tm H0 X c js k K
noncomputable def fG (P : Program) (T : Tab) (ops : Array Oper) (l : List Oper) : IG :=
  @List.rec Oper (fun _ => IG) (fun s X c js k K => K s X js) (fun o l ih => fGStep P T ops o ih) l

theorem fG_sound (hT : TabOk P T) {ops : Array Oper} : ∀ (l : List Oper) (s : St) (X : List O) (c : Nat) (js : List (Nat × Nat × Bool)) (k : Nat) (K : KG), fG P T ops l s X c js k K → Nonempty (FE2 P ops l s X js k K)
  | [], s, X, c, js, k, K, h => ⟨⟨[], [], [], s, js, rfl, rfl, rfl, trivial, rfl, rfl, fun _ => rfl, fun i j o h => by simp at h, fun i j h => by simp at h, fun i j o h => by simp at h, fun p hp => hp, X, fun _ => rfl, h⟩⟩
  | o :: l, s, X, c, js, k, K, h => by
    have h : fGStep P T ops o (fG P T ops l) s X c js k K := h
    have join : ∀ (r : V) (e : Option (Nat × O)) (d : Option Nat) (s1 : St) (X1 : List O) (js1 : List (Nat × Nat × Bool)), ES2 P ops s.hp.length s.hp s.get X o r e d → s1.n = s.n → s1.hp = s.hp → s1.get = putG s.get s.n o.dst r → X1 = xStep true e X →
        (∀ p ∈ js, p ∈ js1) → (∀ j ob, e = some (j, ob) → (k, j, false) ∈ js1 ∧ d = none) → (∀ j, d = some j → (k, j, true) ∈ js1) → FE2 P ops l s1 X1 js1 (k + 1) K → Nonempty (FE2 P ops (o :: l) s X js k K) := by
      intro r e d s1 X1 js1 hes hn1 hh1 hg1 hX1 hjs hj hjd f
      subst hX1
      refine ⟨⟨(o, r) :: f.zs, e :: f.es, d :: f.ds, f.s', f.js', by simp [f.hz], by simp [f.hel], by simp [f.hdl], ⟨hes, ?_⟩, by rw [f.hn, hn1], by rw [f.hh, hh1], fun k' => ?_, fun i j ob hi => ?_, fun i j hi => ?_, fun i j ob hi => ?_, fun p hp => f.keep p (hjs p hp), ?_⟩⟩
      · have := f.run
        rw [hn1, hh1, hg1] at this
        exact this
      · rw [f.hg (k' + 1), hn1, hg1]; rfl
      · cases i with
        | zero => simp at hi; exact f.keep _ (hj j ob hi).1
        | succ i =>
          have := f.slots i j ob (by simpa using hi)
          rwa [show k + 1 + i = k + (i + 1) by omega] at this
      · cases i with
        | zero => simp at hi; exact f.keep _ (hjd j hi)
        | succ i =>
          have := f.reads i j (by simpa using hi)
          rwa [show k + 1 + i = k + (i + 1) by omega] at this
      · cases i with
        | zero => simp at hi; simp [(hj j ob hi).2]
        | succ i => simpa using f.one i j ob (by simpa using hi)
      · obtain ⟨X', hx, hk⟩ := f.go
        exact ⟨X', fun k' => by rw [hx (k' + 1)]; rfl, hk⟩
    obtain ⟨n, tm, H0⟩ := s
    have quiet : gQuiet P T ops o (fG P T ops l) n tm H0 X c js k K → Nonempty (FE2 P ops (o :: l) ⟨n, tm, H0⟩ X js k K) := fun h => by
      obtain ⟨h1, h⟩ := chk_elim h
      obtain ⟨r, s', hq, hn, hh, hg, h2⟩ := quiet_one hT (A := fun s' => fG P T ops l s' X c js (k + 1) K) h
      obtain ⟨f⟩ := fG_sound hT l _ _ _ _ _ _ h2
      exact join r none none s' X js (.quiet hq (usesLt_spec h1)) hn hh hg rfl (fun p hp => hp) (fun j ob e => by cases e) (fun j e => by cases e) f
    have free : ∀ (r : V), o.guard = none → (∀ H, Yp P o (mask o fun t => getT t tm) H r) → fG P T ops l (putS n tm H0 o.dst r) X c js (k + 1) K → Nonempty (FE2 P ops (o :: l) ⟨n, tm, H0⟩ X js k K) := fun r hgd hy h => by
      rw [putS_eq] at h
      obtain ⟨f⟩ := fG_sound hT l _ _ _ _ _ _ h
      exact join r none none _ X js (.free hgd hy) (St.n_put ..) (St.hp_put ..) (St.get_put ..) rfl (fun p hp => hp) (fun j ob e => by cases e) (fun j e => by cases e) f
    unfold fGStep at h
    dsimp only at h
    split at h
    · rename_i t hop
      split at h
      · rename_i i hgd hTi
        split at h
        · rename_i z hz hd
          obtain ⟨h1, h⟩ := chk_elim h
          rw [putS_eq] at h
          obtain ⟨f⟩ := fG_sound hT l _ _ _ _ _ _ h
          refine join (.bx (H0.length + c) 0) (some (c, .row t (cellsV z))) none _ _ _ (.alloc hop hgd (by
            obtain ⟨inf, d, q1, q2, q3, q4, q5, q6⟩ := ti_parts (hT _ _ hTi)
            unfold zeroV; rw [q1]; rw [q6] at hz; exact hz) h1 rfl hd) (St.n_put ..) (St.hp_put ..) (St.get_put ..) rfl (fun p hp => List.mem_cons_of_mem _ hp) (fun j ob e => by cases e; exact ⟨List.mem_cons_self .., rfl⟩) (fun j e => by cases e) f
        · exact h.elim
      · exact h.elim
    · rename_i t a x hop
      split at h
      · rename_i i id off hgd hTi ha
        split at h
        · rename_i ty cells hX
          obtain ⟨h1, h⟩ := chk_elim h
          simp only [Bool.and_eq_true, decide_eq_true_eq] at h1
          rw [putS_eq] at h
          obtain ⟨f⟩ := fG_sound hT l _ _ _ _ _ _ h
          refine join (.d (.lit undef)) (some (id - H0.length, .row ty (setsV cells off (cellsV (evO (fun t => getT t tm) x))))) none _ _ _ (.store hop hgd (ti_is (hT _ _ hTi)) (by
            show evO (fun t => getT t tm) a = _
            rw [ha]
            have e : H0.length + (id - H0.length) = id := by omega
            show V.bx id off = V.bx (H0.length + (id - H0.length)) off
            rw [e]) hX h1.1.1.2 h1.1.2 h1.2 rfl) (St.n_put ..) (St.hp_put ..) (St.get_put ..) rfl (fun p hp => List.mem_cons_of_mem _ hp) (fun j ob e => by cases e; exact ⟨List.mem_cons_self .., rfl⟩) (fun j e => by cases e) f
        · exact h.elim
      · exact h.elim
    · rename_i t a hop
      split at h
      · rename_i i id off hgd hTi ha
        rcases bsel_elim h with ⟨hid, h⟩ | ⟨_, h⟩
        · have hid := of_decide_eq_true hid
          split at h
          · rename_i ty cells hX
            split at h
            · rename_i r hr
              rw [force_eq, putS_eq] at h
              obtain ⟨f⟩ := fG_sound hT l _ _ _ _ _ _ h
              have e : H0.length + (id - H0.length) = id := by omega
              refine join r none (some (id - H0.length)) _ _ _ (.load hop hgd (ti_is (hT _ _ hTi)) (off := off) (by
                show evO (fun t => getT t tm) a = _
                rw [ha]
                show V.bx id off = V.bx (H0.length + (id - H0.length)) off
                rw [e]) hX (fun H hH => ?_)) (St.n_put ..) (St.hp_put ..) (St.get_put ..) rfl (fun p hp => List.mem_cons_of_mem _ hp) (fun j ob e => by cases e) (fun j e => by cases e; exact List.mem_cons_self ..) f
              rw [← hr]
              exact loadA_one hH
            · exact h.elim
          · exact h.elim
        · exact quiet h
      · exact quiet h
    · rename_i x hop
      split at h
      · rename_i hgd
        rw [force_eq] at h
        refine free _ hgd (fun H => ?_) h
        have := Yp.move (P := P) (g := mask o fun t => getT t tm) (H := H) (.inl hop)
        rwa [← op_mem_uses (o := o) (x := x) (by rw [hop]; simp [Op.operands]) (g := fun t => getT t tm) (fun t ht => by unfold mask; rw [if_pos ht])] at this
      · exact quiet h
    · rename_i x hop
      split at h
      · rename_i hgd
        rw [force_eq] at h
        refine free _ hgd (fun H => ?_) h
        have := Yp.move (P := P) (g := mask o fun t => getT t tm) (H := H) (.inr hop)
        rwa [← op_mem_uses (o := o) (x := x) (by rw [hop]; simp [Op.operands]) (g := fun t => getT t tm) (fun t ht => by unfold mask; rw [if_pos ht])] at this
      · exact quiet h
    · rename_i t x f hop
      split at h
      · rename_i off u j id m hgd hfo hx
        obtain ⟨h1, h⟩ := chk_elim h
        refine free _ hgd (fun H => ?_) h
        have hx' : evO (mask o fun t => getT t tm) x = .bx id m := by
          rw [← hx]
          exact (op_mem_uses (o := o) (x := x) (by rw [hop]; simp [Op.operands]) (g := fun t => getT t tm) (fun t ht => by unfold mask; rw [if_pos ht])).symm
        obtain ⟨fa, fd, q1, q2, q3, q4, q5⟩ := fieldOf_spec hT hfo
        have h1 : 0 < j.size := of_decide_eq_true h1
        subst q3; subst q4
        exact Yp.fieldAddrBx hop q1 q2 (ti_is q5) h1 hx'
      · exact quiet h
    · rename_i args ats hop
      split at h
      · rename_i sx x t u hgd hargs hats
        split at h
        · rename_i id rows hs
          split at h
          · rename_i hut
            subst hut
            unfold gAppend at h
            split at h
            · rename_i e j news e' sz m hsl hx hX
              split at h
              · rename_i z hz
                obtain ⟨⟨c0, rfl, rfl, rfl, c1, c2, c3, c4, c5, c6, c7⟩, h⟩ := h
                rw [putS_eq] at h
                obtain ⟨f⟩ := fG_sound hT l _ _ _ _ _ _ h
                have hargs' : args = #[sx, x] := by rw [← hargs]
                have hats' : ats = #[u, u] := by rw [← hats]
                subst hargs'; subst hats'
                have hid : H0.length + (id - H0.length) = id := by omega
                have hsl' : ∃ i, T u = some i ∧ i.k = .slice e' ∧ T e' = some j := by
                  unfold sliceEl at hsl
                  cases hTt : T u with
                  | none => rw [hTt] at hsl; cases hsl
                  | some i =>
                    rw [hTt] at hsl
                    dsimp only at hsl
                    cases hk : i.k with
                    | slice e =>
                      rw [hk] at hsl
                      dsimp only at hsl
                      cases hTe : T e with
                      | none => rw [hTe] at hsl; cases hsl
                      | some j' => rw [hTe] at hsl; cases hsl; exact ⟨i, rfl, hk, hTe⟩
                    | _ => rw [hk] at hsl; cases hsl
                obtain ⟨i, hTt, hik, hTe⟩ := hsl'
                exact join (.gs id (rows ++ news)) (some (id - H0.length, .tok e' j.size (rows.length + news.length))) none _ _ _ (.eff hgd hX rfl (by
                  rw [hid]
                  exact eff_append hop (ti_slice (hT _ _ hTt) hik) (ti_el (hT _ _ hTe) hz c1 c2) hs hx c3 c4 c5 c6 c7)) (St.n_put ..) (St.hp_put ..) (St.get_put ..) rfl (fun p hp => List.mem_cons_of_mem _ hp) (fun j ob e => by cases e; exact ⟨List.mem_cons_self .., rfl⟩) (fun j e => by cases e) f
              · exact h.elim
            · exact h.elim
          · exact h.elim
        · exact quiet h
      · exact quiet h
    · rename_i f args ats hop
      rcases h with h | h | h
      · exact quiet h
      · unfold gTok at h
        have hcall : callOf o.op = some (f, args) := by rw [hop]; rfl
        rw [hcall] at h
        split at h
        · rename_i f' args' e1 hgd hd
          cases e1
          split at h
          · rename_i fk first cap hfn
            rw [evArgs_eq, tStop_eq] at h
            obtain ⟨ty, sz, rows, ht, h⟩ := h
            rw [putS_eq] at h
            obtain ⟨fe⟩ := fG_sound hT l _ _ _ _ _ _ h
            have hfn' : evO (fun t => getT t tm) f = .fn (.func fk) first cap := fnOf_spec hfn
            exact join (.gs (H0.length + c) rows) (some (c, .tok ty sz rows.length)) none _ _ _ (.eff hgd hd rfl (eff_call hop hfn' ht)) (St.n_put ..) (St.hp_put ..) (St.get_put ..) rfl (fun p hp => List.mem_cons_of_mem _ hp) (fun j ob e => by cases e; exact ⟨List.mem_cons_self .., rfl⟩) (fun j e => by cases e) fe
          · exact h.elim
        · exact h.elim
      · unfold gPure at h
        have hcall : callOf o.op = some (f, args) := by rw [hop]; rfl
        rw [hcall] at h
        split at h
        · rename_i f' args' e1 hgd
          cases e1
          split at h
          · rename_i fk first cap hfn
            rw [evArgs_eq, pStop_eq] at h
            obtain ⟨args', r, hp, he, h⟩ := h
            rw [force_eq, putS_eq] at h
            obtain ⟨fe⟩ := fG_sound hT l _ _ _ _ _ _ h
            exact join r none none _ X js (.call hop hgd (fnOf_spec hfn) hp he) (St.n_put ..) (St.hp_put ..) (St.get_put ..) rfl (fun p hp => hp) (fun j ob e => by cases e) (fun j e => by cases e) fe
          · exact h.elim
        · exact h.elim
    · exact quiet h

def okSlots2 (ops : Array Oper) (js : List (Nat × Nat × Bool)) : Bool :=
  js.all fun p => js.all fun q => !(p.2.1 == q.2.1 && decide (p.1 < q.1) && !(p.2.2 && q.2.2)) || match ops[q.1]? with
    | some o => o.after.toList.any fun e => Region.binds .any e && e.on == p.1
    | none => false
theorem okSlots2_spec {ops : Array Oper} {js : List (Nat × Nat × Bool)} (h : okSlots2 ops js = true) {i i' j : Nat} {a b : Bool} (p1 : (i, j, a) ∈ js) (p2 : (i', j, b) ∈ js) (hab : (a && b) = false) (hlt : i < i') {oi : Oper} (hoi : ops[i']? = some oi) :
    ∃ e ∈ oi.after, Region.binds .any e = true ∧ e.on = i := by
  have := List.all_eq_true.1 (List.all_eq_true.1 h _ p1) _ p2
  simp only [beq_self_eq_true, Bool.true_and, hlt, decide_true, hab, Bool.not_false, Bool.and_true, Bool.not_true, Bool.false_or, hoi] at this
  obtain ⟨e, he, hb⟩ := List.any_eq_true.1 this
  simp only [Bool.and_eq_true, beq_iff_eq] at hb
  exact ⟨e, by simpa using he, hb.1, hb.2⟩

/-- A region that draws its order and makes or changes the things from n0 on; 'free': how many things it makes. -/
theorem SExec.region_fG (hT : TabOk P T) (hm : P.follows .mixedOrders = true) {id : Nat} {ops : Array Oper} {n : Nat} {tm : List (Nat × V)} {hp : List O} {Q : Exit → St → Prop} (n0 free : Nat) (hok : okDraw ops = true) (hl : hpLt (hp.take n0).length (hp.take n0) = true) (hlive : hp.all O.live = true)
    (h : fG P T ops ops.toList ⟨n, tm, hp.take n0⟩ (hp.drop n0 ++ List.replicate free .dead) (hp.drop n0).length [] 0 (fun s' X js => chk (okSlots2 ops js) (Q .normal ⟨s'.n, s'.tm, s'.hp ++ X⟩))) : SExec P (.region id ops true) ⟨n, tm, hp⟩ Q := by
  obtain ⟨f⟩ := fG_sound hT _ _ _ _ _ _ _ h
  obtain ⟨X', hX, hk⟩ := f.go
  obtain ⟨hsl, hk⟩ := chk_elim hk
  have hlv : ∀ o ∈ hp, o.live = true := fun o ho => List.all_eq_true.1 hlive o ho
  refine .region_eff2 hm hok (hp.take n0) (hp.drop n0) (List.take_append_drop _ _).symm hl (List.all_eq_true.2 fun o ho => hlv o (List.mem_of_mem_take ho)) (List.all_eq_true.2 fun o ho => hlv o (List.mem_of_mem_drop ho)) free f.zs f.es f.ds f.hz (by rw [f.hel]; simp) (by rw [f.hdl]; simp) ?_ ?_ ?_
    ⟨f.s'.n, f.s'.tm, f.s'.hp ++ X'⟩ f.hn ?_ ?_ hk
  · intro i i' j o o' oi h1 h2 hlt hoi
    have p1 := f.slots i j o h1
    have p2 := f.slots i' j o' h2
    rw [Nat.zero_add] at p1 p2
    exact okSlots2_spec hsl p1 p2 (by simp) hlt hoi
  · intro i i' j o' oi oi' h1 h2 hoi hoi'
    have p1 := f.reads i j h1
    have p2 := f.slots i' j o' h2
    rw [Nat.zero_add] at p1 p2
    refine ⟨fun hlt => okSlots2_spec hsl p1 p2 (by simp) hlt hoi', fun hlt => okSlots2_spec hsl p2 p1 (by simp) hlt hoi, fun e => ?_⟩
    subst e
    rw [f.one i j o' h2] at h1
    cases h1
  · intro i z e d h1 h2 h3
    have := ERun2.at f.zs f.es f.ds 0 _ _ f.run i z e d h1 h2 h3
    simp only [Nat.zero_add] at this
    exact this
  · show f.s'.hp ++ X' = _
    rw [f.hh, hX 0]
  · intro t
    show EntV _ (f.s'.get t)
    rw [f.hg 0]
    exact .refl _

/-! ### A body in two parts -/
def restOf : Nat → Code → Code
  | 0, c => c
  | n + 1, .seq _ b => restOf n b
  | _ + 1, _ => .skip
noncomputable def fxCut (P : Program) (T : Tab) : Nat → Code → St → (St → Prop) → (Exit → St → Prop) → Prop
  | 0, _, s, K, _ => K s
  | n + 1, .seq a b, s, K, Q => fx P T a s (thenS (fun s' => fxCut P T n b s' K Q) Q)
  | _ + 1, c, s, _, Q => fx P T c s Q
theorem fxCut_sound (hT : TabOk P T) (hm : P.follows .mixedOrders = true) : ∀ (n : Nat) {c : Code} {s : St} {Q : Exit → St → Prop}, fxCut P T n c s (fun s' => SExec P (restOf n c) s' Q) Q → SExec P c s Q
  | 0, c, s, Q, h => h
  | n + 1, c, s, Q, h => by
    cases c with
    | seq a b =>
      refine SExec.seq ((fx_sound hT hm h).mono fun e s' hs => ?_)
      cases e with
      | normal => exact fxCut_sound hT hm n hs
      | _ => exact hs
    | _ => exact fx_sound hT hm h
/-- A function of data: the first n pieces of its body, then the rest. -/
theorem PCall.of_cut (hT : TabOk P T) (hm : P.follows .mixedOrders = true) (n : Nat) {k : FuncId} {fn : Func} {c : Code} {args : List V} {r : V} (hf : P.funcs[k]? = some fn) (hb : fn.body = some c) (hn : (fn.name == "runtime.NumGoroutine") = false)
    (hr : r.pure = true) (ha : pures args = true) (h : fxCut P T n c (initSt fn.ntmps args []) (fun s' => SExec P (restOf n c) s' (RetF P T fn 0 (fun r' _ => r' = r))) (RetF P T fn 0 (fun r' _ => r' = r))) : PCall P k args r :=
  ⟨hr, ha, SCall.of_execD hf hb hn ((fxCut_sound hT hm n h).mono fun e s hs => hs.toD)⟩
end
end Go.Ab
