/-
  The error locator of a correctable word is the recurrence of its syndromes. Plain mathematics.
-/
import Derived.Test.YtcjkmfhnlggohaaCorW
import Derived.Test.YtcjkmfhnlggohaaSeqLen
namespace Go.Proofs.Ytcjkmfhnlggohaa
set_option linter.unusedVariables false
variable {V : VF}

theorem VF_eq {V V' : VF} (h : V.F = V'.F) : V = V' := by
  cases V with
  | mk F ok => cases V' with
    | mk F' ok' =>
      have : F = F' := h
      subst this; rfl
theorem errs_difL (n : Nat) (W o : List Int) : errs n W [] o = difL W o n := by
  unfold errs difL
  refine filtL_congr fun i _ => ?_
  have h3 : (gi W i == gi o i) = (gi o i == gi W i) := by rw [Bool.eq_iff_iff, beq_iff_eq, beq_iff_eq]; exact eq_comm
  show (!([] : List Int).contains (i : Int) && !(gi W i == gi o i)) = _
  rw [h3]; rfl
theorem berL_nil {L c : Nat} {S : List Int} (hS : VF.els V S) (hl : S.length = c) : berL V L c S [] = S := by
  have hlo : locP V L [] = 1 := rfl
  have hps : VF.ps V (omL V L c S []) = VF.ps V S := by
    unfold omL
    rw [hlo, show VF.ps V (VF.trim S) * (1 : PS (El V)) = VF.ps V (VF.trim S) by grind, VF.lst_ps (VF.isP_trim hS), VF.ps_trim]
    rw [List.take_of_length_le (by rw [VF.trim_length]; have := VF.tlen_le S S.length; omega), VF.ps_trim]
  have hbl : (berL V L c S []).length = S.length := by rw [berL_length, hl]; simp
  refine VF.ps_inj (V := V) berL_els hS hbl (PS.ext' fun i => ?_)
  rw [berL_c, hps]
  simp
theorem loc_len {L : Nat} (hLV : (L : Int) < V.F.size) {F : List Int} (hris : RisTo 0 ((L : Int) - 1) F F.length) : (VF.lst V (locP V (L : Int) F)).length = F.length + 1 := by
  have hpoly := locP_poly V (L : Int) F
  have hP : VF.isP V (VF.lst V (locP V (L : Int) F)) := VF.lst_isP hpoly
  have hps : VF.ps V (VF.lst V (locP V (L : Int) F)) = locP V (L : Int) F := VF.lst_eq hpoly
  have h00 : VF.of V (gi (VF.lst V (locP V (L : Int) F)) 0) = 1 := by
    have e : VF.of V (gi (VF.lst V (locP V (L : Int) F)) 0) = (VF.ps V (VF.lst V (locP V (L : Int) F))).c 0 := (VF.ps_c _ 0).symm
    rw [e, hps]; exact PS.lam_c_zero _
  have hne : VF.lst V (locP V (L : Int) F) ≠ [] := fun e => by
    rw [e] at h00
    have e2 : gi ([] : List Int) 0 = 0 := rfl
    rw [e2, VF.of_zero] at h00
    exact Fld.one_ne h00.symm
  have hroots : rootTo V.F (L : Int) (VF.lst V (locP V (L : Int) F)) L = F := roots_of hLV hP.els (k := 1) Fld.one_ne (by rw [hps, PS.C_one]; grind) hris
  obtain ⟨g1, g2⟩ := (roots_loc (V := V) (l := (L : Int)) (L := L) rfl hLV hP hne).2 (by rw [hroots])
  rw [hroots] at g2
  have := List.length_pos_iff.2 hne; omega
theorem errrec_plain {p pw g l c : Int} {W : List Int} (h : crC p pw g l c W [] = 0) :
    codeC p pw g l c [W] = 0 ∧ recC p pw g (soR p pw g l c W) = 0 ∧ recR p pw g (soR p pw g l c W) = elR p pw g l c W ∧ seqC p pw g (soR p pw g l c W) = 0 ∧ seqL p pw g (soR p pw g l c W) = ((elR p pw g l c W).length : Int) - 1 := by
  have h0 : dmC p pw g l c [W] [] = 0 := Classical.byContradiction fun hn => hn ((cr_bad hn).1.symm.trans h)
  have hcc := (dmC_zero h0).1
  obtain ⟨V, n, hs, rfl, hz, hwl, hris, hy, hno⟩ := cr_V h0
  obtain ⟨hvB, hc1, hc2, hcl, hl1, hlz⟩ := validC_iff hs.valid
  obtain ⟨C, rfl⟩ : ∃ C : Nat, c = (C : Int) := ⟨c.toNat, by omega⟩
  simp only [Int.toNat_natCast] at hy hno
  have hf : fixB V n C W [] = true := by
    cases hf : fixB V n C W []
    · have := (hno hf).1; omega
    · rfl
  have hd := fix_spec hf
  have hLV : (n : Int) < V.F.size := by rw [hs.sf.hV]; exact hlz
  have hso : soR p pw g (n : Int) (C : Int) W = syn V.F W C := by unfold soR; rw [if_pos hcc, hs.sf.hV, Int.toNat_natCast]
  have hSl := syn_length V.F W C
  have hSe : VF.els V (syn V.F W C) := fun z hz' => by
    obtain ⟨j, hj, rfl⟩ := mem_gi hz'
    rw [syn_length] at hj
    rw [syn_gi _ _ hj]
    exact svTo_el V.ok hz _ _
  have hseq : seqC p pw g (syn V.F W C) = 0 := by
    unfold seqC
    rw [if_pos hvB, if_pos ⟨by omega, allB_iff.2 (by rw [← hs.sf.hV]; exact hSe)⟩]
  obtain ⟨V2, hv⟩ := seqV hseq
  obtain rfl : V2 = V := VF_eq (hv.sf.hV.trans hs.sf.hV.symm)
  obtain ⟨O, w, hSt⟩ := hd.start hLV hz hwl hris
  have hk := ber_key hLV hd hSt (Nat.zero_le _)
  rw [berL_nil hSe hSl] at hk
  rw [List.length_nil, Nat.sub_zero, errs_difL] at hk
  have hL := hv.L
  rw [hSl] at hL
  have hdm := hd.dmg
  rw [errs_difL, List.length_nil] at hdm
  have he : elR p pw g (n : Int) (C : Int) W = VF.lst V2 (locP V2 (n : Int) (difL W (fixO V2 n C W []) n)) := by
    obtain ⟨V3, hs3, hon⟩ := validC_V hs.valid
    obtain rfl : V3 = V2 := VF_eq (hs3.sf.hV.trans hs.sf.hV.symm)
    unfold elR
    rw [if_pos h, hon, (hy hf).2.2]
  have hlt : ¬ 2 * seqL p pw g (syn V2.F W C) > ((syn V2.F W C).length : Int) := by rw [← hL, hk.2, hSl]; omega
  have hrc := recC_ok hseq hlt
  rw [hso, he]
  refine ⟨hcc, hrc, ?_, hseq, ?_⟩
  · rw [hv.rec' hrc, hSl, hk.1]
  · have hll := loc_len (V := V2) hLV (show RisTo 0 ((n : Int) - 1) (difL W (fixO V2 n C W []) n) (difL W (fixO V2 n C W []) n).length from filtL_ris _ _ _ (by omega))
    rw [← hL, hk.2, hll]; omega
end Go.Proofs.Ytcjkmfhnlggohaa
