/-
  The generator divides the polynomial of every code word.
-/
import Derived.Test.YthbiieflmmnfcaaEncLaw
import Derived.Test.YthbiieflmmnfcaaGcds
namespace Go.Proofs.Ythbiieflmmnfcaa
open Go.RowKit
set_option linter.unusedVariables false

theorem gi_inG {l : List Int} {k : Nat} (h : k < l.length) : gi l k ∈ l := by
  unfold gi; rw [List.getD_eq_getElem?_getD, List.getElem?_eq_getElem h]; exact List.getElem_mem h
theorem nodup_mapG {α β : Type} {f : α → β} : ∀ {l : List α}, (∀ a ∈ l, ∀ b ∈ l, f a = f b → a = b) → l.Nodup → (l.map f).Nodup
  | [], _, _ => List.nodup_nil
  | x :: l, h, hn => by
    rw [List.map_cons, List.nodup_cons]
    rw [List.nodup_cons] at hn
    refine ⟨fun hm => ?_, nodup_mapG (fun a ha b hb => h a (List.mem_cons_of_mem _ ha) b (List.mem_cons_of_mem _ hb)) hn.2⟩
    obtain ⟨y, hy, e⟩ := List.mem_map.1 hm
    have := h y (List.mem_cons_of_mem _ hy) x (by simp) e
    exact hn.1 (this ▸ hy)
/-- A word, the other way round. -/
def revW (W : List Int) (k : Nat) : List Int := (List.range k).map fun j => gi W (W.length - 1 - j)
theorem revW_length (W : List Int) (k : Nat) : (revW W k).length = k := by unfold revW; simp
theorem revW_succ (W : List Int) (k : Nat) : revW W (k + 1) = revW W k ++ [gi W (W.length - 1 - k)] := by unfold revW; rw [List.range_succ, List.map_append]; rfl
theorem revW_gi (W : List Int) {k j : Nat} (h : j < k) : gi (revW W k) j = gi W (W.length - 1 - j) := by
  unfold revW
  show ((List.range k).map _).getD j 0 = _
  rw [List.getD_eq_getElem?_getD]; simp [h]
theorem generator_plain {p pw g l c : Int} {W : List Int} (h : icwB p pw g l c W = true) :
    divC p pw g (VF.trim (revW W W.length)) (genR p pw g l c) = 0 ∧ divR p pw g (VF.trim (revW W W.length)) (genR p pw g l c) = [] ∧ ((genR p pw g l c).length : Int) = c + 1 ∧ validI p pw g l c = 0 ∧ (W.length : Int) = l ∧ W.length ≤ 255 := by
  unfold icwB at h
  simp only [Bool.and_eq_true, decide_eq_true_eq] at h
  obtain ⟨h0, hz⟩ := h
  obtain ⟨hv, hw⟩ := codeC_zero h0
  obtain ⟨hwl, hel⟩ := wordB_iff (hw W (by simp))
  obtain ⟨hvB, hc1, hc2, hcl, hl1, hlz⟩ := validC_iff hv
  obtain ⟨V, hs, hon⟩ := validC_V hv
  have hF := hs.sf.hV
  have eg : genR p pw g l c = VF.lst V (genF V c.toNat) := hon _
  rw [eg]
  have hG := VF.lst_isP (genF_poly V c.toNat)
  have hGl := genF_length V c.toNat
  have hG0 : VF.lst V (genF V c.toNat) ≠ [] := fun e => by rw [e] at hGl; simp at hGl
  have hW : VF.els V W := fun z hz => by rw [hF]; exact hel z hz
  have hR : VF.els V (revW W W.length) := fun z hz => by
    unfold revW at hz
    obtain ⟨j, _, rfl⟩ := List.mem_map.1 hz
    exact hW.getD _
  have hps : VF.ps V (revW W W.length) = hiF V W.length W W.length := PS.ext' fun i => by
    rw [hiF_c _ _ _ (Nat.le_refl _), VF.ps_c]
    by_cases hi : i < W.length
    · rw [if_pos (by omega)]
      show VF.of V (gi (revW W W.length) i) = _
      rw [revW_gi W hi]
    · rw [if_neg (by omega)]
      have : (revW W W.length).getD i 0 = 0 := by rw [List.getD_eq_getElem?_getD, List.getElem?_eq_none (by rw [revW_length]; omega)]; rfl
      rw [this]; exact VF.of_zero
  have hP : VF.isP V (VF.trim (revW W W.length)) := VF.isP_trim hR
  have hpt : VF.ps V (VF.trim (revW W W.length)) = hiF V W.length W W.length := by rw [VF.ps_trim]; exact hps
  have hpl : (VF.trim (revW W W.length)).length ≤ W.length := by
    rw [VF.trim_length]; have := VF.tlen_le (revW W W.length) (revW W W.length).length; rw [revW_length] at this ⊢; exact this
  generalize VF.trim (revW W W.length) = P at *
  have hroot : ∀ j, j < c.toNat → PS.ev (VF.ps V P) (VF.of V (V.F.exp (j + 1))) = 0 := fun j hj => by
    have hx : V.F.el (V.F.exp (j + 1)) := FF.exp_el V.ok _
    have h1 := sv_hi (V := V) (L := W.length) hW hx W.length (Nat.le_refl _)
    have h2 : svTo V.F W (V.F.exp (j + 1)) W.length = 0 := by
      unfold zeroB at hz
      rw [List.all_eq_true] at hz
      have := hz _ (gi_inG (l := syn (ffOf p pw g) W c.toNat) (k := j) (by rw [syn_length]; exact hj))
      rw [syn_gi _ _ hj, ← hF] at this
      simpa using this
    rw [hpt, ← h1, h2, VF.of_zero]; grind
  have hD := VF.dqr_specE hP hG hG0
  have hrl : (VF.dqr V P (VF.lst V (genF V c.toNat))).2.length ≤ c.toNat := by have := hD.len; omega
  have hr0 : VF.ps V (VF.dqr V P (VF.lst V (genF V c.toNat))).2 = 0 := by
    refine PS.roots_zero ((List.range c.toNat).map fun j => VF.of V (V.F.exp (j + 1))) _ c.toNat ((VF.ps_dlt _).mono hrl) ?_ ?_ (by simp)
    · refine nodup_mapG (fun a ha b hb e => ?_) List.nodup_range
      have ha := List.mem_range.1 ha
      have hb := List.mem_range.1 hb
      have hN : ((V.F.N : Nat) : Int) = V.F.size - 1 := by have := FF.N_size V.ok; omega
      have e2 := VF.of_inj (FF.exp_el V.ok _) (FF.exp_el V.ok _) e
      have hz2 : l < V.F.size := by rw [hF]; exact hlz
      have := FF.exp_inj V.ok (a + 1) (b + 1) (by omega) (by omega) e2
      omega
    · intro x hx
      obtain ⟨j, hj, rfl⟩ := List.mem_map.1 hx
      have hj := List.mem_range.1 hj
      have e := hD.eq
      rw [VF.lst_eq (genF_poly V c.toNat)] at e
      have h1 := hroot j hj
      rw [e, PS.ev_add ((VF.ps_poly _).mul (genF_poly V _)) (VF.ps_poly _), PS.ev_mul (VF.ps_poly _) (genF_poly V _), genF_ev _ j hj] at h1
      grind
  have hrn : (VF.dqr V P (VF.lst V (genF V c.toNat))).2 = [] := VF.isP_inj hD.hr VF.isP_nil (by rw [hr0, VF.ps_nil])
  have hcp : codeP p pw g [P, VF.lst V (genF V c.toNat)] = 0 := by
    unfold codeP
    rw [if_pos hvB, if_pos]
    unfold polysB
    rw [List.all_eq_true]
    have pb : ∀ zs, VF.isP V zs → zs.length ≤ 512 → polyB (ffOf p pw g) zs = true := fun zs hp hl => by
      rw [← hF]; unfold polyB
      simp only [Bool.and_eq_true, decide_eq_true_eq]
      refine ⟨hl, allB_iff.2 hp.els, ?_⟩
      by_cases h0 : zs.length = 0
      · exact tightB_nil h0
      · rw [tightB_last rfl (by omega)]
        have := hp.tight (by omega)
        unfold gi
        simpa using this
    intro zs hz
    rcases List.mem_cons.1 hz with rfl | hz
    · exact pb _ hP (by omega)
    · rcases List.mem_cons.1 hz with rfl | hz
      · exact pb _ hG (by omega)
      · cases hz
  have hvf : ∀ f : VF → List Int, onP p pw g [P, VF.lst V (genF V c.toNat)] f = f V := fun f => by
    rw [onP_yes hcp]
    have : vfOf p pw g (codeP_zero hcp).1 = V := by
      cases V with
      | mk F ok => have e := hF; subst e; rfl
    rw [this]
  refine ⟨by unfold divC; rw [if_pos hcp, if_neg hG0], by unfold divR; rw [if_neg hG0, hvf]; exact hrn, by rw [hGl]; omega, by unfold validI; rw [hv]; rfl, hwl, by omega⟩
end Go.Proofs.Ythbiieflmmnfcaa
