import Derived.Test.YtjggngbfmjneiaaGreatW7
import Derived.Test.YtjggngbfmjneiaaGreatPD
set_option linter.unusedVariables false
set_option linter.unusedSimpArgs false
set_option maxRecDepth 4000
namespace Go.Ab
open Go.Proofs

theorem typeParts_ok : ∀ t : Ty, Deep t → ∀ m : Int, 0 ≤ m → m ≤ 2000 → PCall Tryz.prog 52 [vTy t, vInt m] (vInt (t.pt m)) := by
  intro t
  induction t using Ty.ind with
  | h t iha iho =>
  intro hd m h0 hm
  have hb := hd.bd
  have b1 := hb.nums
  have b2 := hb.texts
  have b3 := hb.arrays
  have b4 := hb.objects
  simp only [maxRows] at b1 b2 b3 b4
  have hA := ptAr h0 hm t.arrays (1 + t.texts.length + t.nums.length) (fun a ha => pt_ok _ (deep_arr hd ha)) (by omega) (by simp only [capB]; omega)
  have hOb : ∀ o ∈ t.objects, ObLe o := fun o ho => by
    have hob := deep_obj hd ho
    have hbo := ob_bd hob
    exact ⟨hbo.names, hbo.must, pt_ok _ (deep_rest hob), fun f hf => pt_ok _ (deep_field hob hf)⟩
  rw [Ty.pt_eq]
  generalize hN1 : Ar.ptL t.arrays (1 + t.texts.length + t.nums.length) m = N1 at hA
  have hO := ptOb h0 hm t.objects N1 hOb (by omega) hA.2.1
  generalize hN2 : Ob.ptL t.objects N1 m = N2 at hO ⊢
  simp only [capB] at hA hO
  refine PCall.of_fx TTok mixed Tryz.func52 rfl (by decide) rfl rfl ?_
  conv => whnf
  have w1 : IntKind.i64.wrap (1 + (t.texts.length : Int)) = 1 + t.texts.length := wrap_id (by omega) (by omega)
  have w2 : IntKind.i64.wrap (1 + (t.texts.length : Int) + t.nums.length) = 1 + t.texts.length + t.nums.length := wrap_id (by omega) (by omega)
  refine ⟨SExec.loop_i (fun i : Nat × Int => ⟨113, [(6, vInt i.1), (5, vInt i.2), (2, .bx 0 0), (1, vInt m)], [.row 27 (cellsV (vTy t))]⟩) (fun i => i.1 ≤ t.arrays.length ∧ 1 ≤ i.2 ∧ i.2 ≤ capB m ∧ Ar.ptL (t.arrays.drop i.1) i.2 m = N1) (fun i => t.arrays.length - i.1)
    (0, 1 + t.texts.length + t.nums.length) ⟨by omega, by dsimp only; omega, by simp only [capB]; omega, by simpa using hN1⟩
    (fun k => Nat.le_refl _) (St.subD_of rfl [] rfl rfl (.cons (.refl _) rfl (.cons (.of_eq (show V.d (D.lit (.int .i64 (IntKind.i64.wrap (IntKind.i64.wrap (1 + ((t.texts.map strC).length : Int)) + ((t.nums.map Sp.cells).length : Int))))) = _ by simp only [List.length_map]; rw [w1, w2]; rfl)) rfl (.cons (.refl _) rfl (.cons (.refl _) rfl .nil))))) ?_⟩
  rintro ⟨k, n⟩ ⟨hk, hn1, hn2, hI⟩
  dsimp only at hk hn1 hn2 hI
  refine fx_sound TTok mixed ?_
  conv => whnf
  refine bsel_intro (fun hlt => ?_) (fun hlt => ?_)
  · have hlt : k < t.arrays.length := by simpa using hlt
    rw [List.drop_eq_getElem_cons hlt, Ar.ptL] at hI
    conv => whnf
    refine bsel_intro (fun hle => ?_) (fun hle => ?_)
    · have hle := dle hle
      rw [if_pos hle, Ar.pt_eq] at hI
      have hp := pt_ok _ (deep_arr hd (List.getElem_mem hlt)) (m - n) (by omega) (by omega)
      have p1 := hp.one
      have p2 := hp.cap
      simp only [capB] at p2 hn2
      conv => whnf
      refine idxAr hlt rfl ?_
      conv => whnf
      refine (iha _ (List.getElem_mem hlt) (deep_arr hd (List.getElem_mem hlt)) (m - n) (by omega) (by omega)).use (.cons (.refl _) (.cons (.of_eq (vInt_wrap (by omega) (by omega) rfl)) .nil)) ?_
      conv => whnf
      exact ⟨(k + 1, n + t.arrays[k].item.pt (m - n)), ⟨hlt, by dsimp only; omega, by simp only [capB]; omega, hI⟩, by dsimp only; omega, St.subD_of rfl _ rfl rfl (.cons (.of_eq (vInt_succ k (by omega))) rfl (.cons (.of_eq (vInt_wrap (by omega) (by omega) rfl)) rfl (.cons (.refl _) rfl (.cons (.refl _) rfl .nil))))⟩
    · have hgt := dgt hle
      rw [if_neg (by omega)] at hI
      subst hI
      conv => whnf
      refine ⟨SExec.loop_i (fun i : Nat × Int => ⟨113, [(7, vInt i.1), (5, vInt i.2), (2, .bx 0 0), (1, vInt m)], [.row 27 (cellsV (vTy t))]⟩) (fun i => i.1 ≤ t.objects.length ∧ 1 ≤ i.2 ∧ i.2 ≤ capB m ∧ Ob.ptL (t.objects.drop i.1) i.2 m = N2) (fun i => t.objects.length - i.1)
        (0, n) ⟨by omega, hn1, hn2, by simpa using hN2⟩
        (fun k => Nat.le_refl _) (St.subD_of rfl [] rfl rfl (.cons (.refl _) rfl (.cons (.refl _) rfl (.cons (.refl _) rfl (.cons (.refl _) rfl .nil))))) ?_⟩
      rintro ⟨k, n⟩ ⟨hk, hn1, hn2, hI⟩
      dsimp only at hk hn1 hn2 hI
      refine fx_sound TTok mixed ?_
      conv => whnf
      refine bsel_intro (fun hlt => ?_) (fun hlt => ?_)
      · have hlt : k < t.objects.length := by simpa using hlt
        have hmem := List.getElem_mem hlt
        rw [List.drop_eq_getElem_cons hlt, Ob.ptL] at hI
        conv => whnf
        refine bsel_intro (fun hle => ?_) (fun hle => ?_)
        · have hle := dle hle
          rw [if_pos hle] at hI
          have hob := hOb _ hmem
          have hp1 := ptOb1 h0 hm hob hn1 hle
          have hp := hob.rest (m - n) (by omega) (by omega)
          have p1 := hp.one
          have p2 := hp.cap
          have p3 := hob.names
          have p4 := hob.must
          have p5 := (ob_bd (deep_obj hd hmem)).fields
          simp only [maxRows] at p5
          simp only [capB] at p2 hn2
          conv => whnf
          (refine ⟨by decide +kernel, ?_⟩; conv => whnf)
          refine idxOb hlt rfl ?_
          conv => whnf
          refine idxOb hlt rfl ?_
          conv => whnf
          refine idxOb hlt rfl ?_
          conv => whnf
          refine ((iho _ hmem).1 (deep_rest (deep_obj hd hmem)) (m - n) (by omega) (by omega)).useQ (.cons (.refl _) (.cons (.of_eq (vInt_wrap (by omega) (by omega) rfl)) .nil)) ?_
          conv => whnf
          have u1 : IntKind.i64.wrap (n + (t.objects[k].names.length : Int)) = n + t.objects[k].names.length := wrap_id (by omega) (by omega)
          have u2 : IntKind.i64.wrap (n + (t.objects[k].names.length : Int) + (t.objects[k].must.length : Int)) = n + t.objects[k].names.length + t.objects[k].must.length := wrap_id (by omega) (by omega)
          have u3 : IntKind.i64.wrap (n + (t.objects[k].names.length : Int) + (t.objects[k].must.length : Int) + t.objects[k].rest.pt (m - n)) = n + t.objects[k].names.length + t.objects[k].must.length + t.objects[k].rest.pt (m - n) := wrap_id (by omega) (by omega)
          have hF := ptTy h0 hm t.objects[k].fields (n + t.objects[k].names.length + t.objects[k].must.length + t.objects[k].rest.pt (m - n)) hob.fields (by omega) (by simp only [capB]; omega)
          generalize hM : t.objects[k].pt n m = M at hI hp1
          rw [Ob.pt_eq] at hM
          refine ⟨SExec.loop_i (fun i : Nat × Int => ⟨113, [(8, vInt i.1), (5, vInt i.2), (7, vInt k), (2, .bx 0 0), (1, vInt m)], [.row 27 (cellsV (vTy t))]⟩) (fun i => i.1 ≤ t.objects[k].fields.length ∧ 1 ≤ i.2 ∧ i.2 ≤ capB m ∧ Ty.ptL (t.objects[k].fields.drop i.1) i.2 m = M) (fun i => t.objects[k].fields.length - i.1)
            (0, n + t.objects[k].names.length + t.objects[k].must.length + t.objects[k].rest.pt (m - n)) ⟨by omega, by dsimp only; omega, by simp only [capB]; omega, by simpa using hM⟩
            (fun k => Nat.le_refl _) (St.subD_of rfl [] rfl rfl (.cons (.refl _) rfl (.cons (.of_eq (show V.d (D.lit (.int .i64 (IntKind.i64.wrap (IntKind.i64.wrap (IntKind.i64.wrap (n + ((t.objects[k].names.map strC).length : Int)) + ((t.objects[k].must.map boolC).length : Int)) + t.objects[k].rest.pt (m - n))))) = _ by simp only [List.length_map]; rw [u1, u2, u3]; rfl)) rfl (.cons (.refl _) rfl (.cons (.refl _) rfl (.cons (.refl _) rfl .nil)))))) ?_⟩
          rintro ⟨j, n2⟩ ⟨hj, hj1, hj2, hJ⟩
          dsimp only at hj hj1 hj2 hJ
          refine fx_sound TTok mixed ?_
          conv => whnf
          refine idxOb hlt rfl ?_
          conv => whnf
          refine bsel_intro (fun hltj => ?_) (fun hltj => ?_)
          · have hltj : j < t.objects[k].fields.length := by simpa using hltj
            have hmj := List.getElem_mem hltj
            rw [List.drop_eq_getElem_cons hltj, Ty.ptL] at hJ
            conv => whnf
            refine bsel_intro (fun hlej => ?_) (fun hlej => ?_)
            · have hlej := dle hlej
              rw [if_pos hlej] at hJ
              have hq := hob.fields _ hmj (m - n2) (by omega) (by omega)
              have q1 := hq.one
              have q2 := hq.cap
              simp only [capB] at q2 hj2
              conv => whnf
              refine idxOb hlt rfl ?_
              conv => whnf
              refine idxTy hltj rfl ?_
              conv => whnf
              refine ((iho _ hmem).2 _ hmj (deep_field (deep_obj hd hmem) hmj) (m - n2) (by omega) (by omega)).use (.cons (.refl _) (.cons (.of_eq (vInt_wrap (by omega) (by omega) rfl)) .nil)) ?_
              conv => whnf
              exact ⟨(j + 1, n2 + t.objects[k].fields[j].pt (m - n2)), ⟨hltj, by dsimp only; omega, by simp only [capB]; omega, hJ⟩, by dsimp only; omega, St.subD_of rfl _ rfl rfl (.cons (.of_eq (vInt_succ j (by omega))) rfl (.cons (.of_eq (vInt_wrap (by omega) (by omega) rfl)) rfl (.cons (.refl _) rfl (.cons (.refl _) rfl (.cons (.refl _) rfl .nil)))))⟩
            · have hgt := dgt hlej
              rw [if_neg (by omega)] at hJ
              subst hJ
              conv => whnf
              exact ⟨(k + 1, n2), ⟨hlt, hj1, hj2, hI⟩, by dsimp only; omega, St.subD_of rfl _ rfl rfl (.cons (.of_eq (vInt_succ k (by omega))) rfl (.cons (.refl _) rfl (.cons (.refl _) rfl (.cons (.refl _) rfl .nil))))⟩
          · have hgej : t.objects[k].fields.length ≤ j := by simpa using hltj
            rw [List.drop_eq_nil_of_le hgej, Ty.ptL] at hJ
            subst hJ
            conv => whnf
            exact ⟨(k + 1, n2), ⟨hlt, hj1, hj2, hI⟩, by dsimp only; omega, St.subD_of rfl _ rfl rfl (.cons (.of_eq (vInt_succ k (by omega))) rfl (.cons (.refl _) rfl (.cons (.refl _) rfl (.cons (.refl _) rfl .nil))))⟩
        · have hgt := dgt hle
          rw [if_neg (by omega)] at hI
          subst hI
          conv => whnf
          exact retI TTok rfl rfl
      · have hge : t.objects.length ≤ k := by simpa using hlt
        rw [List.drop_eq_nil_of_le hge, Ob.ptL] at hI
        subst hI
        conv => whnf
        exact retI TTok rfl rfl
  · have hge : t.arrays.length ≤ k := by simpa using hlt
    rw [List.drop_eq_nil_of_le hge, Ar.ptL] at hI
    subst hI
    conv => whnf
    refine ⟨SExec.loop_i (fun i : Nat × Int => ⟨113, [(7, vInt i.1), (5, vInt i.2), (2, .bx 0 0), (1, vInt m)], [.row 27 (cellsV (vTy t))]⟩) (fun i => i.1 ≤ t.objects.length ∧ 1 ≤ i.2 ∧ i.2 ≤ capB m ∧ Ob.ptL (t.objects.drop i.1) i.2 m = N2) (fun i => t.objects.length - i.1)
      (0, n) ⟨by omega, hn1, hn2, by simpa using hN2⟩
      (fun k => Nat.le_refl _) (St.subD_of rfl [] rfl rfl (.cons (.refl _) rfl (.cons (.refl _) rfl (.cons (.refl _) rfl (.cons (.refl _) rfl .nil))))) ?_⟩
    rintro ⟨k, n⟩ ⟨hk, hn1, hn2, hI⟩
    dsimp only at hk hn1 hn2 hI
    refine fx_sound TTok mixed ?_
    conv => whnf
    refine bsel_intro (fun hlt => ?_) (fun hlt => ?_)
    · have hlt : k < t.objects.length := by simpa using hlt
      have hmem := List.getElem_mem hlt
      rw [List.drop_eq_getElem_cons hlt, Ob.ptL] at hI
      conv => whnf
      refine bsel_intro (fun hle => ?_) (fun hle => ?_)
      · have hle := dle hle
        rw [if_pos hle] at hI
        have hob := hOb _ hmem
        have hp1 := ptOb1 h0 hm hob hn1 hle
        have hp := hob.rest (m - n) (by omega) (by omega)
        have p1 := hp.one
        have p2 := hp.cap
        have p3 := hob.names
        have p4 := hob.must
        have p5 := (ob_bd (deep_obj hd hmem)).fields
        simp only [maxRows] at p5
        simp only [capB] at p2 hn2
        conv => whnf
        (refine ⟨by decide +kernel, ?_⟩; conv => whnf)
        refine idxOb hlt rfl ?_
        conv => whnf
        refine idxOb hlt rfl ?_
        conv => whnf
        refine idxOb hlt rfl ?_
        conv => whnf
        refine ((iho _ hmem).1 (deep_rest (deep_obj hd hmem)) (m - n) (by omega) (by omega)).useQ (.cons (.refl _) (.cons (.of_eq (vInt_wrap (by omega) (by omega) rfl)) .nil)) ?_
        conv => whnf
        have u1 : IntKind.i64.wrap (n + (t.objects[k].names.length : Int)) = n + t.objects[k].names.length := wrap_id (by omega) (by omega)
        have u2 : IntKind.i64.wrap (n + (t.objects[k].names.length : Int) + (t.objects[k].must.length : Int)) = n + t.objects[k].names.length + t.objects[k].must.length := wrap_id (by omega) (by omega)
        have u3 : IntKind.i64.wrap (n + (t.objects[k].names.length : Int) + (t.objects[k].must.length : Int) + t.objects[k].rest.pt (m - n)) = n + t.objects[k].names.length + t.objects[k].must.length + t.objects[k].rest.pt (m - n) := wrap_id (by omega) (by omega)
        have hF := ptTy h0 hm t.objects[k].fields (n + t.objects[k].names.length + t.objects[k].must.length + t.objects[k].rest.pt (m - n)) hob.fields (by omega) (by simp only [capB]; omega)
        generalize hM : t.objects[k].pt n m = M at hI hp1
        rw [Ob.pt_eq] at hM
        refine ⟨SExec.loop_i (fun i : Nat × Int => ⟨113, [(8, vInt i.1), (5, vInt i.2), (7, vInt k), (2, .bx 0 0), (1, vInt m)], [.row 27 (cellsV (vTy t))]⟩) (fun i => i.1 ≤ t.objects[k].fields.length ∧ 1 ≤ i.2 ∧ i.2 ≤ capB m ∧ Ty.ptL (t.objects[k].fields.drop i.1) i.2 m = M) (fun i => t.objects[k].fields.length - i.1)
          (0, n + t.objects[k].names.length + t.objects[k].must.length + t.objects[k].rest.pt (m - n)) ⟨by omega, by dsimp only; omega, by simp only [capB]; omega, by simpa using hM⟩
          (fun k => Nat.le_refl _) (St.subD_of rfl [] rfl rfl (.cons (.refl _) rfl (.cons (.of_eq (show V.d (D.lit (.int .i64 (IntKind.i64.wrap (IntKind.i64.wrap (IntKind.i64.wrap (n + ((t.objects[k].names.map strC).length : Int)) + ((t.objects[k].must.map boolC).length : Int)) + t.objects[k].rest.pt (m - n))))) = _ by simp only [List.length_map]; rw [u1, u2, u3]; rfl)) rfl (.cons (.refl _) rfl (.cons (.refl _) rfl (.cons (.refl _) rfl .nil)))))) ?_⟩
        rintro ⟨j, n2⟩ ⟨hj, hj1, hj2, hJ⟩
        dsimp only at hj hj1 hj2 hJ
        refine fx_sound TTok mixed ?_
        conv => whnf
        refine idxOb hlt rfl ?_
        conv => whnf
        refine bsel_intro (fun hltj => ?_) (fun hltj => ?_)
        · have hltj : j < t.objects[k].fields.length := by simpa using hltj
          have hmj := List.getElem_mem hltj
          rw [List.drop_eq_getElem_cons hltj, Ty.ptL] at hJ
          conv => whnf
          refine bsel_intro (fun hlej => ?_) (fun hlej => ?_)
          · have hlej := dle hlej
            rw [if_pos hlej] at hJ
            have hq := hob.fields _ hmj (m - n2) (by omega) (by omega)
            have q1 := hq.one
            have q2 := hq.cap
            simp only [capB] at q2 hj2
            conv => whnf
            refine idxOb hlt rfl ?_
            conv => whnf
            refine idxTy hltj rfl ?_
            conv => whnf
            refine ((iho _ hmem).2 _ hmj (deep_field (deep_obj hd hmem) hmj) (m - n2) (by omega) (by omega)).use (.cons (.refl _) (.cons (.of_eq (vInt_wrap (by omega) (by omega) rfl)) .nil)) ?_
            conv => whnf
            exact ⟨(j + 1, n2 + t.objects[k].fields[j].pt (m - n2)), ⟨hltj, by dsimp only; omega, by simp only [capB]; omega, hJ⟩, by dsimp only; omega, St.subD_of rfl _ rfl rfl (.cons (.of_eq (vInt_succ j (by omega))) rfl (.cons (.of_eq (vInt_wrap (by omega) (by omega) rfl)) rfl (.cons (.refl _) rfl (.cons (.refl _) rfl (.cons (.refl _) rfl .nil)))))⟩
          · have hgt := dgt hlej
            rw [if_neg (by omega)] at hJ
            subst hJ
            conv => whnf
            exact ⟨(k + 1, n2), ⟨hlt, hj1, hj2, hI⟩, by dsimp only; omega, St.subD_of rfl _ rfl rfl (.cons (.of_eq (vInt_succ k (by omega))) rfl (.cons (.refl _) rfl (.cons (.refl _) rfl (.cons (.refl _) rfl .nil))))⟩
        · have hgej : t.objects[k].fields.length ≤ j := by simpa using hltj
          rw [List.drop_eq_nil_of_le hgej, Ty.ptL] at hJ
          subst hJ
          conv => whnf
          exact ⟨(k + 1, n2), ⟨hlt, hj1, hj2, hI⟩, by dsimp only; omega, St.subD_of rfl _ rfl rfl (.cons (.of_eq (vInt_succ k (by omega))) rfl (.cons (.refl _) rfl (.cons (.refl _) rfl (.cons (.refl _) rfl .nil))))⟩
      · have hgt := dgt hle
        rw [if_neg (by omega)] at hI
        subst hI
        conv => whnf
        exact retI TTok rfl rfl
    · have hge : t.objects.length ≤ k := by simpa using hlt
      rw [List.drop_eq_nil_of_le hge, Ob.ptL] at hI
      subst hI
      conv => whnf
      exact retI TTok rfl rfl

theorem fit_ok (t : Ty) : PCall Tryz.prog 16 [vTy t] (vBool (decide (t.pt 2000 ≤ 2000))) := by
  refine PCall.bd Tryz.func16 rfl (by decide) rfl rfl (fun hbd => ?_)
  have hd : Deep t := deep_of (hbd 0 (by simp))
  refine PCall.of_fx TTok mixed Tryz.func16 rfl (by decide) rfl rfl ?_
  conv => whnf
  refine (typeParts_ok t hd 2000 (by omega) (by omega)).use (.refl _) ?_
  conv => whnf
  exact retB TTok rfl rfl
end Go.Ab
