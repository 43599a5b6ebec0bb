/-
  A fitted polynomial has the given values.
-/
import Derived.Test.YtnhpdenneplapaaPolyLaws
import Derived.Test.YtnhpdenneplapaaFits
namespace Go.Proofs.Ytnhpdenneplapaa
open Go.RowKit
set_option linter.unusedVariables false

theorem fit_exists {V : VF} {xs ys : List Int} (hx : VF.els V xs) (ha : Apart xs xs.length) : ∀ m, m ≤ xs.length → ∃ z f, Newt V xs m z ∧ FitAt V xs ys m f
  | 0, _ => ⟨1, 0, Newt.start xs, ⟨PS.dlt_zero 0, fun i h => by omega⟩⟩
  | m + 1, hm => by
    obtain ⟨z, f, hz, hf⟩ := fit_exists hx ha m (by omega)
    have h0 : PS.ev z (pt V xs m) ≠ 0 := fun h => by
      obtain ⟨i, hi, e⟩ := hz.old hx h
      have := ha i m (by omega) (by omega) e
      omega
    obtain ⟨b, hb⟩ := Fld.inv _ h0
    exact ⟨_, _, hz.step, hz.fit hf (b := (pt V ys m - PS.ev f (pt V xs m)) * b) (by
      have : (pt V ys m - PS.ev f (pt V xs m)) * b * PS.ev z (pt V xs m) = (pt V ys m - PS.ev f (pt V xs m)) * (PS.ev z (pt V xs m) * b) := by grind
      rw [this, hb]; grind)⟩
theorem fit_plain {p pw g : Int} {P Q : List Int} (h : fitC p pw g P Q = 0) :
    (∀ k, k < P.length → pevC p pw g (fitR p pw g P Q) (gi P k) = 0 ∧ pevR p pw g (fitR p pw g P Q) (gi P k) = gi Q k) ∧ (fitR p pw g P Q).length ≤ P.length ∧ Q.length = P.length := by
  have hv : validB p pw g = true := by
    cases hv : validB p pw g
    · rw [(fit_inv hv).1] at h; cases h
    · rfl
  have h2 : ¬ 64 < P.length := fun h2 => by rw [(fit_long hv h2).1] at h; cases h
  have h3 : allB (ffOf p pw g) P = true ∧ allB (ffOf p pw g) Q = true := by
    apply Classical.byContradiction; intro h3; rw [(fit_range hv h2 h3).1] at h; cases h
  have h4 : P.length = Q.length ∧ Apart P P.length := by
    apply Classical.byContradiction; intro h4; rw [(fit_state hv h2 h3 h4).1] at h; cases h
  have e := (fit_ok hv h2 h3 h4.1 h4.2).2
  have hSF := SF.vf hv
  rw [e]
  generalize vfOf p pw g hv = V at *
  have hP : VF.els V P := fun z hz => by rw [hSF.hV]; exact allB_iff.1 h3.1 z hz
  have hQ : VF.els V Q := fun z hz => by rw [hSF.hV]; exact allB_iff.1 h3.2 z hz
  obtain ⟨z, f, hz, hf⟩ := fit_exists (ys := Q) hP h4.2 P.length (Nat.le_refl _)
  have ef := fitL_of hP h4.2 hf
  have hpoly : f.IsPoly := ⟨_, hf.dlt⟩
  have hl := fitL_len V P Q
  rw [ef] at hl ⊢
  refine ⟨fun k hk => ?_, hl, h4.1.symm⟩
  have hx : V.F.el (gi P k) := hP.getD k
  have hy : V.F.el (gi Q k) := hQ.getD k
  obtain ⟨c1, c2⟩ := pev_of hSF (VF.lst_isP hpoly) (by omega) hx
  refine ⟨c1, ?_⟩
  rw [c2]
  refine VF.of_inj (evI_el V.ok (VF.lst_isP hpoly).els _) hy ?_
  rw [evI_ofL (VF.lst_isP hpoly).els hx, VF.lst_eq hpoly]
  exact hf.val k hk
end Go.Proofs.Ytnhpdenneplapaa
