/-
  Long division of lists of coefficients, step by step. Plain mathematics.
-/
import Derived.Test.YtenlaoadclfmaaaCanon
namespace Go.Proofs.Ytenlaoadclfmaaa

/-- What holds when the coefficients of the quotient from k on are known. -/
structure DivInv (V : VF) (p q : List Int) (k : Nat) (fO fR : PS (El V)) : Prop where
  eq : VF.ps V p = fO * VF.ps V q + fR
  low : fR.dlt (k + (q.length - 1))
  zero : ∀ i, i < k → fO.c i = 0
  poly : fO.IsPoly
theorem DivInv.start {V : VF} {p q : List Int} {k : Nat} (hk : k + (q.length - 1) = p.length) : DivInv V p q k 0 (VF.ps V p) :=
  ⟨by grind, by rw [hk]; exact VF.ps_dlt p, fun _ _ => rfl, PS.isPoly_zero⟩
theorem xpC_c {V : VF} (k i : Nat) (a : El V) : (VF.xp V k * PS.C a).c i = if i = k then a else 0 := by
  unfold VF.xp
  rw [VF.X_pow_mul_c]
  by_cases h : i = k
  · subst h; rw [if_pos (Nat.le_refl _), if_pos rfl, Nat.sub_self]; exact PS.C_c_zero a
  · rw [if_neg h]
    split
    · obtain ⟨j, hj⟩ : ∃ j, i - k = j + 1 := ⟨i - k - 1, by omega⟩
      rw [hj]; exact PS.C_c_succ a j
    · rfl
theorem xp_poly {V : VF} (k : Nat) : PS.IsPoly (VF.xp V k) := by
  unfold VF.xp
  induction k with
  | zero => have : (PS.X : PS (El V)) ^ 0 = 1 := by grind
            rw [this]; exact PS.isPoly_one
  | succ k ih => have : (PS.X : PS (El V)) ^ (k + 1) = (PS.X : PS (El V)) ^ k * (PS.X : PS (El V)) := by grind
                 rw [this]; exact ih.mul PS.isPoly_X
theorem DivInv.step {V : VF} {p q : List Int} {k : Nat} {fO fR : PS (El V)} (h : DivInv V p q (k + 1) fO fR) (hq : 0 < q.length) {y : El V} (hy : y * (VF.ps V q).c (q.length - 1) = fR.c (k + (q.length - 1))) :
    DivInv V p q k (fO + VF.xp V k * PS.C y) (fR - VF.xp V k * PS.C y * VF.ps V q) := by
  refine ⟨?_, fun i hi => ?_, fun i hi => ?_, h.poly.add ((xp_poly k).mul (PS.isPoly_C _))⟩
  · rw [h.eq]; grind
  · have e : VF.xp V k * PS.C y * VF.ps V q = VF.xp V k * (PS.C y * VF.ps V q) := by grind
    rw [PS.sub_c, e]
    unfold VF.xp
    rw [VF.X_pow_mul_c, if_pos (by omega), PS.C_mul_c]
    by_cases hi2 : i = k + (q.length - 1)
    · subst hi2
      rw [show k + (q.length - 1) - k = q.length - 1 by omega, hy]; grind
    · rw [h.low i (by omega), VF.ps_dlt q (i - k) (by omega)]; grind
  · rw [PS.add_c, h.zero i (by omega), xpC_c, if_neg (by omega)]; grind
theorem DivInv.done {V : VF} {p q : List Int} {fO fR : PS (El V)} (h : DivInv V p q 0 fO fR) (hq : 0 < q.length) : VF.DivOf V p q (VF.lst V fO) (VF.lst V fR) := by
  have hR : fR.IsPoly := ⟨_, h.low⟩
  refine ⟨VF.lst_isP h.poly, VF.lst_isP hR, ?_, ?_⟩
  · rw [VF.lst_eq h.poly, VF.lst_eq hR]; exact h.eq
  · have := VF.lst_len h.low; omega
theorem divT_inner {V : VF} (f : PS (El V)) (q : List Int) (k : Nat) (y : El V) : f = f - VF.xp V k * PS.C y * VF.ps V (q.take 0) := by
  rw [List.take_zero, VF.ps_nil]; grind
theorem divT_next {V : VF} (f : PS (El V)) (q : List Int) (k i : Nat) (hi : i < q.length) {x y z : Int} (hx : V.F.el x) (hy : V.F.el y) (hq : V.F.el (q.getD i 0)) (hz : z = V.F.add x (V.F.neg (V.F.mul y (q.getD i 0)))) :
    (f - VF.xp V k * PS.C (VF.of V y) * VF.ps V (q.take i)) + VF.xp V (k + i) * PS.C (VF.of V z - VF.of V x) = f - VF.xp V k * PS.C (VF.of V y) * VF.ps V (q.take (i + 1)) := by
  have hm := FF.mul_el V.ok y (q.getD i 0)
  rw [hz, VF.of_add hx (FF.neg_el hm), VF.of_neg hm, VF.of_mul hy hq, VF.ps_take_succ q i hi]
  have e : VF.of V x + -(VF.of V y * VF.of V (q.getD i 0)) - VF.of V x = -(VF.of V y * VF.of V (q.getD i 0)) := by grind
  have e2 : VF.xp V (k + i) = VF.xp V k * VF.xp V i := by unfold VF.xp; grind
  rw [e, PS.C_neg, PS.C_mul, e2]
  grind
theorem divT_end {V : VF} (f : PS (El V)) (q : List Int) (k : Nat) (y : El V) : f - VF.xp V k * PS.C y * VF.ps V (q.take q.length) = f - VF.xp V k * PS.C y * VF.ps V q := by rw [List.take_length]
theorem divT_skip {V : VF} (f g : PS (El V)) (k : Nat) : f - VF.xp V k * PS.C (VF.of V 0) * g = f := by rw [VF.of_zero, PS.C_zero]; grind
/-- The factor of one step. -/
theorem div_factor {V : VF} {q : List Int} (hq : VF.isP V q) (h0 : 0 < q.length) {r : Int} (hr : V.F.el r) :
    VF.of V (V.F.mul r (V.F.inv (q.getD (q.length - 1) 0))) * (VF.ps V q).c (q.length - 1) = VF.of V r := by
  have hl := hq.els.getD (q.length - 1)
  have := VF.of_inv hl (hq.tight h0)
  rw [VF.of_mul hr (FF.inv_el V.ok _), VF.ps_c]
  grind
end Go.Proofs.Ytenlaoadclfmaaa
