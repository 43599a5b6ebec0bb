/-
  The syndromes of a sum are the sums of the syndromes.
-/
import Derived.Test.YtnhpdenneplapaaDecP
import Derived.Test.YtnhpdenneplapaaAddWords
import Derived.Test.YtnhpdenneplapaaSyndOf
namespace Go.Proofs.Ytnhpdenneplapaa
open Go.RowKit
set_option linter.unusedVariables false

theorem codeC_oneS {p pw g l c : Int} {W : List Int} (hv : validC p pw g l c = true) (hl : (W.length : Int) = l) (hw : ∀ z ∈ W, (ffOf p pw g).el z) : codeC p pw g l c [W] = 0 := by
  unfold codeC
  rw [if_pos hv, if_pos]
  unfold wordsB wordB
  simp only [List.all_cons, List.all_nil, Bool.and_true, Bool.and_eq_true, decide_eq_true_eq]
  exact ⟨hl, allB_iff.2 hw⟩
theorem codeE_two {p pw g x y : Int} (hv : validB p pw g = true) (hx : (ffOf p pw g).el x) (hy : (ffOf p pw g).el y) : codeE p pw g [x, y] = 0 := by
  unfold codeE; rw [if_pos hv, if_pos (allB_iff.2 (by simp; exact ⟨hx, hy⟩))]
theorem sums_plain {p pw g l c : Int} {P Q : List Int} (h : codeC p pw g l c [P, Q] = 0) :
    codeC p pw g l c [P] = 0 ∧ codeC p pw g l c [Q] = 0 ∧ codeC p pw g l c [awR p pw g l c P Q] = 0 ∧
    (soR p pw g l c P).length = c.toNat ∧ (soR p pw g l c Q).length = c.toNat ∧ (soR p pw g l c (awR p pw g l c P Q)).length = c.toNat ∧
    (∀ k, k < c.toNat → codeE p pw g [gi (soR p pw g l c P) k, gi (soR p pw g l c Q) k] = 0 ∧ faddR p pw g (gi (soR p pw g l c P) k) (gi (soR p pw g l c Q) k) = gi (soR p pw g l c (awR p pw g l c P Q)) k) ∧
    (icwB p pw g l c P = true → icwB p pw g l c Q = true → icwB p pw g l c (awR p pw g l c P Q) = true) := by
  obtain ⟨hv, hw⟩ := codeC_zero h
  obtain ⟨hpl, hpe⟩ := wordB_iff (hw P (by simp))
  obtain ⟨hql, hqe⟩ := wordB_iff (hw Q (by simp))
  obtain ⟨hvB, hc1, hc2, hcl, hl1, hlz⟩ := validC_iff hv
  obtain ⟨V, hs, hon⟩ := validC_V hv
  have hF := hs.sf.hV
  have eW : awR p pw g l c P Q = addL (ffOf p pw g) P Q := by unfold awR; rw [if_pos h]
  rw [eW]
  have hWl : (addL (ffOf p pw g) P Q).length = P.length := by rw [addL_length]; omega
  have hP : VF.els V P := fun z hz => by rw [hF]; exact hpe z hz
  have hQ : VF.els V Q := fun z hz => by rw [hF]; exact hqe z hz
  have hgi : ∀ i, i < P.length → gi (addL (ffOf p pw g) P Q) i = V.F.add (gi P i) (gi Q i) := fun i hi => by rw [addL_gi _ hi (by omega), hF]
  have hW : VF.els V (addL (ffOf p pw g) P Q) := fun z hz => by
    obtain ⟨k, hk, rfl⟩ := mem_gi hz
    rw [hgi k (by omega)]
    exact FF.add_el V.ok (show V.F.el (gi P k) from hP.getD k) (show V.F.el (gi Q k) from hQ.getD k)
  have hW' : ∀ z ∈ addL (ffOf p pw g) P Q, (ffOf p pw g).el z := fun z hz => by rw [← hF]; exact hW z hz
  have c1 := codeC_oneS hv hpl hpe
  have c2 := codeC_oneS hv hql hqe
  have c3 := codeC_oneS hv (by rw [hWl]; exact hpl) hW'
  have sv : ∀ {zs : List Int}, codeC p pw g l c [zs] = 0 → soR p pw g l c zs = syn (ffOf p pw g) zs c.toNat := fun h => by unfold soR; rw [if_pos h]
  rw [sv c1, sv c2, sv c3, syn_length, syn_length, syn_length]
  have key : ∀ k, k < c.toNat → (ffOf p pw g).add (gi (syn (ffOf p pw g) P c.toNat) k) (gi (syn (ffOf p pw g) Q c.toNat) k) = gi (syn (ffOf p pw g) (addL (ffOf p pw g) P Q) c.toNat) k := fun k hk => by
    rw [syn_gi _ _ hk, syn_gi _ _ hk, syn_gi _ _ hk, hWl, show Q.length = P.length by omega]
    rw [← hF]
    have hx : V.F.el (V.F.exp (k + 1)) := FF.exp_el V.ok _
    have e1 := svTo_el V.ok hP (V.F.exp (k + 1)) P.length
    have e2 := svTo_el V.ok hQ (V.F.exp (k + 1)) P.length
    have hW2 : VF.els V (addL V.F P Q) := by rw [hF]; exact hW
    have hgi2 : ∀ i, i < P.length → gi (addL V.F P Q) i = V.F.add (gi P i) (gi Q i) := fun i hi => by have := hgi i hi; rw [← hF] at this; exact this
    refine VF.of_inj (FF.add_el V.ok e1 e2) (svTo_el V.ok hW2 _ _) ?_
    rw [VF.of_add e1 e2]
    exact (svTo_add hW2 hP hQ hx P.length (fun i hi => by
      rw [hgi2 i hi]; exact VF.of_add (show V.F.el (gi P i) from hP.getD i) (show V.F.el (gi Q i) from hQ.getD i))).symm
  have hel : ∀ (zs : List Int), (∀ z ∈ zs, (ffOf p pw g).el z) → ∀ k, k < c.toNat → (ffOf p pw g).el (gi (syn (ffOf p pw g) zs c.toNat) k) := fun zs hz k hk => by
    rw [syn_gi _ _ hk]; exact svTo_el (ffOf_ok hvB) hz _ _
  have zero_iff : ∀ {zs : List Int}, zeroB (syn (ffOf p pw g) zs c.toNat) = true ↔ ∀ k, k < c.toNat → gi (syn (ffOf p pw g) zs c.toNat) k = 0 := fun {zs} => by
    unfold zeroB
    rw [List.all_eq_true]
    constructor
    · intro hz k hk
      have := hz _ (gi_mem (l := syn (ffOf p pw g) zs c.toNat) (k := k) (by rw [syn_length]; exact hk))
      simpa using this
    · intro hz z hz2
      obtain ⟨k, hk, rfl⟩ := mem_gi hz2
      rw [syn_length] at hk
      simp [hz k hk]
  refine ⟨c1, c2, c3, rfl, rfl, rfl, fun k hk => ?_, fun h1 h2 => ?_⟩
  · have ce := codeE_two hvB (hel P hpe k hk) (hel Q hqe k hk)
    exact ⟨ce, by unfold faddR; rw [if_pos ce]; exact key k hk⟩
  · unfold icwB at h1 h2 ⊢
    simp only [Bool.and_eq_true] at h1 h2 ⊢
    refine ⟨decide_eq_true c3, zero_iff.2 fun k hk => ?_⟩
    rw [← key k hk, zero_iff.1 h1.2 k hk, zero_iff.1 h2.2 k hk]
    exact FF.add_zero' (FF.zero_el (ffOf_ok hvB))
end Go.Proofs.Ytnhpdenneplapaa
