/-
  The parts Fit, SpecFit.
-/
import Derived.Test.YtfhkkpfiflgofaaMath
import Derived.Test.YtfhkkpfiflgofaaGens
import Derived.Test.YtfhkkpfiflgofaaGcds
import Derived.Test.YtfhkkpfiflgofaaSFs
/-
  The walk of the program's PolyFit.
-/
namespace Go.Proofs.Ytfhkkpfiflgofaa
open Go.RowKit
set_option linter.unusedVariables false

theorem gz_gi (l : List Int) (k : Nat) : gz l k = gi l k := rfl
/-- A value as the program reckons it. -/
theorem evI_of {V : VF} {l : List Int} (hl : VF.els V l) {x : Int} (hx : V.F.el x) : VF.of V (evI V.F l x) = PS.ev (VF.ps V l) (VF.of V x) := by
  show _ = VF.evl V l x
  induction l with
  | nil => rw [VF.evl_nil]; exact VF.of_zero
  | cons a l ih =>
    have h := VF.els_cons.1 hl
    rw [VF.evl_cons, ← ih h.2]
    show VF.of V (V.F.add (V.F.mul (evI V.F l x) x) a) = _
    rw [VF.of_add (FF.mul_el V.ok _ _) h.1, VF.of_mul (evI_el V.ok h.2 x) hx]; grind
theorem evI_lst {V : VF} {f : PS (El V)} (hf : f.IsPoly) {x : Int} (hx : V.F.el x) : VF.of V (evI V.F (VF.lst V f) x) = PS.ev f (VF.of V x) := by
  rw [evI_of (VF.lst_isP hf).els hx, VF.lst_eq hf]
open Classical in
noncomputable def fitC (p pw g : Int) (xs ys : List Int) : Int :=
  if validB p pw g = true then (if 64 < xs.length then 3 else if allB (ffOf p pw g) xs = true ∧ allB (ffOf p pw g) ys = true then (if xs.length = ys.length ∧ Apart xs xs.length then 0 else 5) else 2) else 1
open Classical in
/-- The polynomial through the points. -/
noncomputable def fitR (p pw g : Int) (xs ys : List Int) : List Int := if h : fitC p pw g xs ys = 0 ∧ validB p pw g = true then fitL (vfOf p pw g h.2) xs ys else []
theorem fitR_no {p pw g : Int} {xs ys : List Int} (h : ¬ fitC p pw g xs ys = 0) : fitR p pw g xs ys = [] := by unfold fitR; rw [dif_neg (fun x => h x.1)]
theorem fit_inv {p pw g : Int} {xs ys : List Int} (h : validB p pw g = false) : fitC p pw g xs ys = 1 ∧ fitR p pw g xs ys = [] := by
  have : fitC p pw g xs ys = 1 := by unfold fitC; rw [if_neg (by simp [h])]
  exact ⟨this, fitR_no (by omega)⟩
theorem fit_long {p pw g : Int} {xs ys : List Int} (h : validB p pw g = true) (h2 : 64 < xs.length) : fitC p pw g xs ys = 3 ∧ fitR p pw g xs ys = [] := by
  have : fitC p pw g xs ys = 3 := by unfold fitC; rw [if_pos h, if_pos h2]
  exact ⟨this, fitR_no (by omega)⟩
theorem fit_range {p pw g : Int} {xs ys : List Int} (h : validB p pw g = true) (h2 : ¬ 64 < xs.length) (h3 : ¬ (allB (ffOf p pw g) xs = true ∧ allB (ffOf p pw g) ys = true)) : fitC p pw g xs ys = 2 ∧ fitR p pw g xs ys = [] := by
  have : fitC p pw g xs ys = 2 := by unfold fitC; rw [if_pos h, if_neg h2, if_neg h3]
  exact ⟨this, fitR_no (by omega)⟩
theorem fit_state {p pw g : Int} {xs ys : List Int} (h : validB p pw g = true) (h2 : ¬ 64 < xs.length) (h3 : allB (ffOf p pw g) xs = true ∧ allB (ffOf p pw g) ys = true) (h4 : ¬ (xs.length = ys.length ∧ Apart xs xs.length)) : fitC p pw g xs ys = 5 ∧ fitR p pw g xs ys = [] := by
  have : fitC p pw g xs ys = 5 := by unfold fitC; rw [if_pos h, if_neg h2, if_pos h3, if_neg h4]
  exact ⟨this, fitR_no (by omega)⟩
theorem fit_ok {p pw g : Int} {xs ys : List Int} (h : validB p pw g = true) (h2 : ¬ 64 < xs.length) (h3 : allB (ffOf p pw g) xs = true ∧ allB (ffOf p pw g) ys = true) (h4 : xs.length = ys.length) (h5 : Apart xs xs.length) : fitC p pw g xs ys = 0 ∧ fitR p pw g xs ys = fitL (vfOf p pw g h) xs ys := by
  have : fitC p pw g xs ys = 0 := by unfold fitC; rw [if_pos h, if_neg h2, if_pos h3, if_pos ⟨h4, h5⟩]
  exact ⟨this, by unfold fitR; rw [dif_pos ⟨this, h⟩]⟩
theorem fitR_len (p pw g : Int) (xs ys : List Int) : (fitR p pw g xs ys).length ≤ 1048576 := by
  unfold fitR
  split
  · rename_i h
    have h1 := fitL_len (vfOf p pw g h.2) xs ys
    have h2 : xs.length ≤ 64 := by
      apply Classical.byContradiction; intro h3
      have := (fit_long (ys := ys) h.2 (Nat.lt_of_not_le h3)).1
      omega
    omega
  · simp
theorem fit_poly {V : VF} {xs ys : List Int} {k : Nat} {f : PS (El V)} (h : FitAt V xs ys k f) : f.IsPoly := ⟨_, h.dlt⟩
theorem newt_poly {V : VF} {xs : List Int} {k : Nat} {f : PS (El V)} (h : Newt V xs k f) : f.IsPoly := ⟨_, h.dlt⟩
theorem newt_next {V : VF} {xs : List Int} (hx : VF.els V xs) {k : Nat} {z : PS (El V)} (h : Newt V xs k z) : VF.lst V (VF.ps V (VF.lst V z) * VF.ps V [V.F.neg (gi xs k), 1]) = VF.lst V (z * (PS.X - PS.C (pt V xs k))) := by
  rw [VF.lst_eq (newt_poly h), ps_lin V (show V.F.el (gi xs k) from hx.getD k)]; rfl
theorem fit_next {V : VF} {f z : PS (El V)} (hf : f.IsPoly) (hz : z.IsPoly) (b : Int) :
    VF.lst V (VF.ps V (VF.lst V f) + VF.ps V (VF.lst V (VF.xp V 0 * (PS.C (VF.of V b) * VF.ps V (VF.lst V z))))) = VF.lst V (f + PS.C (VF.of V b) * z) := by
  rw [VF.lst_eq hf, VF.lst_eq hz, xp_zero]
  have e : (1 : PS (El V)) * (PS.C (VF.of V b) * z) = PS.C (VF.of V b) * z := by grind
  rw [e, VF.lst_eq ((PS.isPoly_C _).mul hz)]
end Go.Proofs.Ytfhkkpfiflgofaa
/-
  The walk of the reference's PolyFit.
-/
namespace Go.Proofs.Ytfhkkpfiflgofaa
open Go.RowKit
set_option linter.unusedVariables false

theorem trim_one {V : VF} {s : Int} (hs : V.F.el s) : VF.trim [s] = VF.lst V (PS.C (VF.of V s)) := by
  rw [VF.trim_lst (V := V) (fun z h => by simp at h; subst h; exact hs), VF.ps_single]
theorem lagr_next {V : VF} {xs : List Int} (hx : VF.els V xs) {i k : Nat} {t : PS (El V)} {u : El V} (h : Lagr V xs i k t u) : VF.lst V (VF.ps V (VF.lst V t) * VF.ps V [V.F.neg (gi xs k), 1]) = VF.lst V (t * (PS.X - PS.C (pt V xs k))) := by
  rw [VF.lst_eq h.poly, ps_lin V (show V.F.el (gi xs k) from hx.getD k)]; rfl
theorem lag_next {V : VF} {f t : PS (El V)} (hf : f.IsPoly) (ht : t.IsPoly) (s : El V) :
    VF.lst V (VF.ps V (VF.lst V f) + VF.ps V (VF.lst V (VF.ps V (VF.lst V t) * VF.ps V (VF.lst V (PS.C s))))) = VF.lst V (f + t * PS.C s) := by
  rw [VF.lst_eq hf, VF.lst_eq ht, VF.lst_eq (PS.isPoly_C s), VF.lst_eq (ht.mul (PS.isPoly_C s))]
end Go.Proofs.Ytfhkkpfiflgofaa
