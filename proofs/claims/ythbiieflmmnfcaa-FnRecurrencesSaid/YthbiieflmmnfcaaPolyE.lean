/-
  Plain facts on the results of polynomial functions; the walk of IsPolynomial.
-/
import Derived.Test.YthbiieflmmnfcaaGcds
import Derived.Test.YthbiieflmmnfcaaPolyMul
namespace Go.Proofs.Ythbiieflmmnfcaa
open Go.RowKit
set_option linter.unusedVariables false

theorem VF.exists_div {V : VF} {p d : List Int} (hp : VF.isP V p) (hd : VF.isP V d) (h0 : d ≠ []) : ∃ q r, VF.DivOf V p d q r := by
  have hl : 0 < d.length := List.length_pos_iff.2 h0
  by_cases h : p.length < d.length
  · exact ⟨_, _, VF.DivOf.small hp h⟩
  obtain ⟨k, hk⟩ : ∃ k, k + (d.length - 1) = p.length := ⟨p.length - (d.length - 1), by omega⟩
  have key : ∀ k (fO fR : PS (El V)), DivInv V p d k fO fR → ∃ q r, VF.DivOf V p d q r := by
    intro k
    induction k with
    | zero => intro fO fR h; exact ⟨_, _, h.done hl⟩
    | succ k ih =>
      intro fO fR h
      obtain ⟨b, hb⟩ := Fld.inv ((VF.ps V d).c (d.length - 1)) (hd.top hl)
      exact ih _ _ (h.step hl (y := fR.c (k + (d.length - 1)) * b) (by
        have : fR.c (k + (d.length - 1)) * b * (VF.ps V d).c (d.length - 1) = fR.c (k + (d.length - 1)) * ((VF.ps V d).c (d.length - 1) * b) := by grind
        rw [this, hb]; grind))
  exact key k _ _ (DivInv.start hk)
theorem VF.dqr_spec {V : VF} {p d : List Int} (hp : VF.isP V p) (hd : VF.isP V d) (h0 : d ≠ []) : VF.DivOf V p d (VF.dqr V p d).1 (VF.dqr V p d).2 := by
  obtain ⟨q, r, h⟩ := VF.exists_div hp hd h0
  rw [VF.dqr_of hd h]; exact h
theorem VF.DivOf.qlen' {V : VF} {p d q r : List Int} (hd : VF.isP V d) (h : VF.DivOf V p d q r) (h0 : q ≠ []) : q.length + d.length ≤ p.length + 1 := by
  have hl := h.len
  obtain ⟨m, hm⟩ : ∃ m, d.length = m + 1 := ⟨d.length - 1, by omega⟩
  have hql : 0 < q.length := List.length_pos_iff.2 h0
  obtain ⟨n, hn⟩ : ∃ n, q.length = n + 1 := ⟨q.length - 1, by omega⟩
  have h1 : (VF.ps V d).dlt (m + 1) := by rw [← hm]; exact VF.ps_dlt d
  have h2 : (VF.ps V d).c m ≠ 0 := by have := hd.top (by omega); rw [hm] at this; exact this
  have h3 : (VF.ps V q).dlt (n + 1) := by rw [← hn]; exact VF.ps_dlt q
  have h4 : (VF.ps V q).c n ≠ 0 := by have := h.hq.top hql; rw [hn] at this; exact this
  by_cases hlt : p.length < n + m + 1
  · exfalso
    have e := h.eq
    have h5 : (VF.ps V p).c (n + m) = 0 := VF.ps_dlt p _ (by omega)
    have h6 : (VF.ps V r).c (n + m) = 0 := VF.ps_dlt r _ (by omega)
    have h7 : (VF.ps V q * VF.ps V d).c (n + m) = (VF.ps V q).c n * (VF.ps V d).c m := PS.mul_top h1 n (VF.ps V q) h3
    rw [e, PS.add_c, h6, h7] at h5
    have h8 : (VF.ps V q).c n * (VF.ps V d).c m = 0 := by grind
    exact mul_ne h4 h2 h8
  · omega
theorem polyB_of {V : VF} {p pw g : Int} (h : SF V p pw g) {zs : List Int} (hp : VF.isP V zs) (hl : zs.length ≤ 512) : polyB (ffOf p pw g) zs = true := by
  rw [← h.hV]
  unfold polyB
  simp only [Bool.and_eq_true, decide_eq_true_eq]
  refine ⟨hl, allB_iff.2 hp.1, ?_⟩
  by_cases h0 : zs.length = 0
  · exact tightB_nil h0
  · rw [tightB_last rfl (by omega)]
    have := hp.tight (by omega)
    unfold gi
    simpa using this
theorem codeP_of {V : VF} {p pw g : Int} (h : SF V p pw g) {L : List (List Int)} (hL : ∀ zs ∈ L, VF.isP V zs ∧ zs.length ≤ 512) : codeP p pw g L = 0 := by
  unfold codeP
  rw [if_pos h.hv, if_pos]
  unfold polysB
  simp only [List.all_eq_true]
  exact fun zs hz => polyB_of h (hL zs hz).1 (hL zs hz).2
theorem onP_of {V : VF} {p pw g : Int} (h : SF V p pw g) {L : List (List Int)} (hc : codeP p pw g L = 0) (f : VF → List Int) : onP p pw g L f = f V := by
  rw [onP_yes hc]
  have : vfOf p pw g (codeP_zero hc).1 = V := by
    have e := h.hV
    cases V with
    | mk F ok => subst e; rfl
  rw [this]
/-- The product of two polynomials that is not too long. -/
theorem mul_code {V : VF} {p pw g : Int} (h : SF V p pw g) {x y : List Int} (hx : VF.isP V x) (hxl : x.length ≤ 512) (hy : VF.isP V y) (hyl : y.length ≤ 512) (hs : x = [] ∨ x.length + y.length ≤ 513) :
    mulC p pw g x y = 0 ∧ VF.isP V (mulR p pw g x y) ∧ VF.ps V (mulR p pw g x y) = VF.ps V x * VF.ps V y ∧ (mulR p pw g x y).length ≤ 512 := by
  have hlong : ¬ longB x y = true := by
    unfold longB; simp only [decide_eq_true_eq]
    rcases hs with rfl | hs
    · simp
    · omega
  have hc : codeP p pw g [x, y] = 0 := codeP_of h (fun zs hz => by
    rcases List.mem_cons.1 hz with rfl | hz
    · exact ⟨hx, hxl⟩
    · rcases List.mem_cons.1 hz with rfl | hz
      · exact ⟨hy, hyl⟩
      · cases hz)
  have e : mulR p pw g x y = VF.lst V (VF.ps V x * VF.ps V y) := by unfold mulR; rw [if_neg hlong]; exact onP_of h hc _
  have hpoly := (VF.ps_poly (V := V) x).mul (VF.ps_poly (V := V) y)
  refine ⟨by unfold mulC; rw [if_pos hc, if_neg hlong], by rw [e]; exact VF.lst_isP hpoly, by rw [e]; exact VF.lst_eq hpoly, ?_⟩
  rw [e]
  by_cases hx0 : x = []
  · subst hx0
    have : VF.ps V [] * VF.ps V y = 0 := by rw [VF.ps_nil]; grind
    rw [this]
    have := VF.lst_len (V := V) (f := 0) (n := 0) (fun i hi => rfl)
    omega
  · by_cases hy0 : y = []
    · subst hy0
      have : VF.ps V x * VF.ps V [] = 0 := by rw [VF.ps_nil]; grind
      rw [this]
      have := VF.lst_len (V := V) (f := 0) (n := 0) (fun i hi => rfl)
      omega
    · have h1 := List.length_pos_iff.2 hx0
      have h2 := List.length_pos_iff.2 hy0
      have hs' : x.length + y.length ≤ 513 := hs.resolve_left hx0
      obtain ⟨n, hn⟩ : ∃ n, x.length = n + 1 := ⟨x.length - 1, by omega⟩
      obtain ⟨m, hm⟩ : ∃ m, y.length = m + 1 := ⟨y.length - 1, by omega⟩
      have hd : (VF.ps V x * VF.ps V y).dlt (n + m + 1) := PS.dlt_mul (by rw [← hm]; exact VF.ps_dlt y) n (VF.ps V x) (by rw [← hn]; exact VF.ps_dlt x)
      have := VF.lst_len hd
      omega
theorem add_code {V : VF} {p pw g : Int} (h : SF V p pw g) {x y : List Int} (hx : VF.isP V x) (hxl : x.length ≤ 512) (hy : VF.isP V y) (hyl : y.length ≤ 512) :
    codeP p pw g [x, y] = 0 ∧ VF.isP V (addR p pw g x y) ∧ VF.ps V (addR p pw g x y) = VF.ps V x + VF.ps V y ∧ (addR p pw g x y).length ≤ 512 := by
  have hc : codeP p pw g [x, y] = 0 := codeP_of h (fun zs hz => by
    rcases List.mem_cons.1 hz with rfl | hz
    · exact ⟨hx, hxl⟩
    · rcases List.mem_cons.1 hz with rfl | hz
      · exact ⟨hy, hyl⟩
      · cases hz)
  have e : addR p pw g x y = VF.lst V (VF.ps V x + VF.ps V y) := by unfold addR; exact onP_of h hc _
  have hpoly := (VF.ps_poly (V := V) x).add (VF.ps_poly (V := V) y)
  refine ⟨hc, by rw [e]; exact VF.lst_isP hpoly, by rw [e]; exact VF.lst_eq hpoly, ?_⟩
  rw [e]
  have : (VF.ps V x + VF.ps V y).dlt 512 := fun i hi => by
    rw [PS.add_c, VF.ps_dlt x i (by omega), VF.ps_dlt y i (by omega)]; grind
  exact VF.lst_len this
end Go.Proofs.Ythbiieflmmnfcaa
