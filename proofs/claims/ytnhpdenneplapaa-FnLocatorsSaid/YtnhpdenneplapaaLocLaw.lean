/-
  Indices come back from their locator polynomial.
-/
import Derived.Test.YtnhpdenneplapaaDecP
import Derived.Test.YtnhpdenneplapaaIndices
namespace Go.Proofs.Ytnhpdenneplapaa
open Go.RowKit
set_option linter.unusedVariables false

section
variable {V : VF}
theorem roots_ofL {L : Nat} (hL : (L : Int) < V.F.size) {zs F : List Int} (hz : VF.els V zs) {k : El V} (hk : k ≠ 0) (e : VF.ps V zs = PS.C k * locP V L F) (hF : RisTo 0 ((L : Int) - 1) F F.length) : rootTo V.F L zs L = F := by
  refine ris_ext (k := L) (rootTo_ris V.F (L : Int) zs ((L : Int) - 1) L (by omega)) hF fun z => ?_
  have key : ∀ i : Nat, i < L → (rootV V.F L zs i = 0 ↔ (i : Int) ∈ F) := fun i hi => by
    have h1 : rootV V.F L zs i = 0 ↔ VF.of V (rootV V.F L zs i) = 0 := (VF.of_eq_zero (rootV_el hz i)).symm
    rw [h1, rootV_ev hz i, e, PS.ev_C_mul (locP_poly V _ _)]
    have h2 := PS.ev_lam_zero (F.map fun i => VF.of V (locI V.F L i)) (loc_inv (V := V) L (i : Int))
    constructor
    · intro h3
      have h4 : PS.ev (locP V L F) (VF.of V (V.F.inv (locI V.F L (i : Int)))) = 0 := Classical.byContradiction fun h5 => mul_ne hk h5 h3
      obtain ⟨z, hz1, hz2⟩ := List.mem_map.1 (h2.1 h4)
      have h6 := VF.of_inj (V := V) (locI_el V L z) (locI_el V L (i : Int)) hz2
      obtain ⟨a1, a2⟩ := ris_mem hF hz1
      rw [locI_inj hL a1 a2 (by omega) (by omega) h6] at hz1; exact hz1
    · intro h3
      have h4 : PS.ev (locP V L F) (VF.of V (V.F.inv (locI V.F L (i : Int)))) = 0 := h2.2 (List.mem_map.2 ⟨_, h3, rfl⟩)
      rw [h4]; grind
  constructor
  · intro h
    obtain ⟨i, hi, rfl, h1⟩ := rootTo_mem.1 h
    exact (key i hi).1 h1
  · intro h
    obtain ⟨a1, a2⟩ := ris_mem hF h
    have e2 : ((z.toNat : Nat) : Int) = z := by omega
    exact rootTo_mem.2 ⟨z.toNat, by omega, e2.symm, (key z.toNat (by omega)).2 (by rw [e2]; exact h)⟩
end
/-- The plain law. -/
theorem locators_plain {p pw g l c : Int} {P : List Int} (h : locC p pw g l c P = 0) :
    idxC p pw g l c (locR p pw g l c P) = 0 ∧ idxR p pw g l c (locR p pw g l c P) = P ∧ (locR p pw g l c P).length = P.length + 1 := by
  have hv : validC p pw g l c = true := by
    cases hv : validC p pw g l c
    · rw [(loc_bad hv).1] at h; cases h
    · rfl
  have hr : risB 0 (l - 1) P = true := by
    unfold locC at h
    rw [if_pos hv] at h
    split at h
    · assumption
    · cases h
  have hris := risB_iff hr
  obtain ⟨hvB, hc1, hc2, hcl, hl1, hlz⟩ := validC_iff hv
  obtain ⟨V, hs, hon⟩ := validC_V hv
  obtain ⟨L, rfl⟩ : ∃ L : Nat, l = (L : Int) := ⟨l.toNat, by omega⟩
  have hLV : (L : Int) < V.F.size := by rw [hs.sf.hV]; exact hlz
  have hR : locR p pw g L c P = VF.lst V (locP V L P) := by unfold locR; rw [if_pos hr, hon]
  have hpoly := locP_poly V L P
  have hP : VF.isP V (VF.lst V (locP V L P)) := VF.lst_isP hpoly
  have hps : VF.ps V (VF.lst V (locP V L P)) = locP V L P := VF.lst_eq hpoly
  have h00 : VF.of V (gi (VF.lst V (locP V L P)) 0) = 1 := by
    have e : VF.of V (gi (VF.lst V (locP V L P)) 0) = (VF.ps V (VF.lst V (locP V L P))).c 0 := (VF.ps_c _ 0).symm
    rw [e, hps]; exact PS.lam_c_zero _
  have hne : VF.lst V (locP V L P) ≠ [] := fun e => by
    rw [e] at h00
    have e2 : gi ([] : List Int) 0 = 0 := rfl
    rw [e2, VF.of_zero] at h00
    exact Fld.one_ne h00.symm
  have hroots : rootTo V.F L (VF.lst V (locP V L P)) L = P := roots_ofL hLV hP.els (k := 1) Fld.one_ne (by rw [hps, PS.C_one]; grind) hris
  obtain ⟨g1, g2⟩ := (roots_loc (V := V) (l := (L : Int)) (L := L) rfl hLV hP hne).2 (by rw [hroots])
  rw [hroots] at g2
  have hlen : (VF.lst V (locP V L P)).length = P.length + 1 := by
    have := List.length_pos_iff.2 hne; omega
  have hPl : P.length ≤ L := by
    by_cases h0 : P.length = 0
    · omega
    · have h1 := ris_ge hris (P.length - 1) (by omega)
      have h2 := (hris (P.length - 1) (by omega)).2.1
      omega
  rw [hR]
  have hpb : polyB (ffOf p pw g) (VF.lst V (locP V L P)) = true := by
    rw [← hs.sf.hV]
    unfold polyB
    simp only [Bool.and_eq_true, decide_eq_true_eq]
    refine ⟨by omega, allB_iff.2 hP.els, ?_⟩
    rw [tightB_last rfl (by omega)]
    have := hP.tight (by omega)
    unfold gi
    simpa using this
  have hb : idxB p pw g L c (VF.lst V (locP V L P)) = true := by
    unfold idxB
    rw [hon]
    have hrb : rootB V L (VF.lst V (locP V L P)) = true := by
      obtain ⟨e1, -⟩ := root_yes (V := V) (l := (L : Int)) ⟨hne, g1⟩
      rw [e1, Int.toNat_natCast, hroots]
      exact decide_eq_true g2
    rw [hrb]; simp
  have hi0 : idxC p pw g L c (VF.lst V (locP V L P)) = 0 := by unfold idxC; rw [if_pos hv, if_pos hpb, if_pos hb]
  refine ⟨hi0, ?_, hlen⟩
  unfold idxR
  rw [if_pos hi0, hon]
  obtain ⟨-, e2⟩ := root_yes (V := V) (l := (L : Int)) ⟨hne, g1⟩
  rw [e2, Int.toNat_natCast, hroots]
end Go.Proofs.Ytnhpdenneplapaa
