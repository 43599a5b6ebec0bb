/-
  Correction: IsCorrectable, ErrorLocator, the reference's CorrectByRegister.
-/
import Derived.Test.YthbiieflmmnfcaaCorX
namespace Go.Proofs.Ythbiieflmmnfcaa
open Go.RowKit
set_option linter.unusedVariables false

theorem specCorrectByRegister_any (p pw g l c : Int) (w : World) {a : Option Addr} {n cap : Nat} {zs : List Int} (hr : RowAt w a n zs) (hcap : n ≤ cap) (hca : a = none → cap = 0) {a' : Option Addr} {n' cap' : Nat} {E : List Int} (hr' : RowAt w a' n' E) (hcap' : n' ≤ cap') :
    Calls Try.prog 62 #[cV p pw g l c, .slice a n cap, .slice a' n' cap'] w fun e w' => ∃ v v2, e = .returned (.tuple #[v, v2, .int .i64 (crC p pw g l c zs E)]) ∧ Below w.heap.size w w' ∧ OwnL w' w.heap.size v (crO p pw g l c zs E) ∧ OwnL w' w.heap.size v2 (crD p pw g l c zs E) := by
  have HB0 := Lib.hid (below1 w (.cells #[.int .i64 p, .int .i64 pw, .int .i64 g, .int .i64 l, .int .i64 c] CT))
  have HC := Lib.hid (specCorrectWord_any p pw g l c _ (hr.below' HB0.out) hcap hca (hr'.below' HB0.out) hcap')
  clear hr hr' hca
  go_enter Try.func62, Try.ntmps62
  go_wp2_with fail
  refine HC.out.mono ?_
  rintro e w1 ⟨v, v2, rfl, hb1, h1, h2⟩
  have HB := Lib.hid (HB0.out.trans (hb1.mono HB0.out.size))
  have H12 := Lib.hid (And.intro (h1.lower HB0.out.size) (h2.lower HB0.out.size))
  clear hb1 h1 h2
  go_wp2_with fail
  go_ret3
  exact ⟨_, _, rfl, HB.out, H12.out⟩
theorem implIsCorrectable_any (p pw g l c : Int) (w : World) {a : Option Addr} {n cap : Nat} {zs : List Int} (hr : RowAt w a n zs) (hca : a = none → cap = 0) {a' : Option Addr} {n' cap' : Nat} {E : List Int} (hr' : RowAt w a' n' E) (hcap' : n' ≤ cap') (hca' : a' = none → cap' = 0) :
    Calls Try.prog 61 #[cV p pw g l c, .slice a n cap, .slice a' n' cap'] w fun e w' => e = .returned (.bool (crC p pw g l c zs E == 0)) ∧ Below w.heap.size w w' := by
  have HB0 := Lib.hid (below1 w (.cells #[.int .i64 p, .int .i64 pw, .int .i64 g, .int .i64 l, .int .i64 c] CT))
  have HC := Lib.hid (implCorrectWord_any p pw g l c _ (cap := cap) (hr.below' HB0.out) hca (cap' := cap') (hr'.below' HB0.out) hcap' hca')
  clear hr hr' hca hca'
  go_enter Try.func61, Try.ntmps61
  go_wp2_with fail
  refine HC.out.mono ?_
  rintro e w1 ⟨v, v2, rfl, hb1, h1⟩
  have HB := Lib.hid (HB0.out.trans (hb1.mono HB0.out.size))
  clear hb1 h1
  go_wp2_with fail
  go_ret
  exact ⟨rfl, HB.out⟩
theorem specIsCorrectable_any (p pw g l c : Int) (w : World) {a : Option Addr} {n cap : Nat} {zs : List Int} (hr : RowAt w a n zs) (hcap : n ≤ cap) (hca : a = none → cap = 0) {a' : Option Addr} {n' cap' : Nat} {E : List Int} (hr' : RowAt w a' n' E) (hcap' : n' ≤ cap') :
    Calls Try.prog 60 #[cV p pw g l c, .slice a n cap, .slice a' n' cap'] w fun e w' => e = .returned (.bool (crC p pw g l c zs E == 0)) ∧ Below w.heap.size w w' := by
  have HB0 := Lib.hid (below1 w (.cells #[.int .i64 p, .int .i64 pw, .int .i64 g, .int .i64 l, .int .i64 c] CT))
  have HC := Lib.hid (specCorrectWord_any p pw g l c _ (hr.below' HB0.out) hcap hca (hr'.below' HB0.out) hcap')
  clear hr hr' hca
  go_enter Try.func60, Try.ntmps60
  go_wp2_with fail
  refine HC.out.mono ?_
  rintro e w1 ⟨v, v2, rfl, hb1, h1, h2⟩
  have HB := Lib.hid (HB0.out.trans (hb1.mono HB0.out.size))
  clear hb1 h1 h2
  go_wp2_with fail
  go_ret
  exact ⟨rfl, HB.out⟩
/-- The locator polynomial of what correction changes. -/
noncomputable def elR (p pw g l c : Int) (W : List Int) : List Int := if crC p pw g l c W [] = 0 then onC p pw g l c (fun V => VF.lst V (locP V l (crD p pw g l c W []))) else []
theorem elR_no {p pw g l c : Int} {W : List Int} (h : ¬ crC p pw g l c W [] = 0) : elR p pw g l c W = [] := by unfold elR; rw [if_neg h]
theorem ris_nil (lo hi : Int) : risB lo hi [] = true := by
  unfold risB; simp only [decide_eq_true_eq]; intro j hj; exact absurd hj (by show ¬ j < 0; omega)
theorem dmC_nil (p pw g l c : Int) (L : List (List Int)) : dmC p pw g l c L [] = codeC p pw g l c L := by
  by_cases h : codeC p pw g l c L = 0
  · rw [dmC_ok h (ris_nil _ _), h]
  · exact dmC_bad h
/-- What correction changes is a rising list of indices. -/
theorem crD_facts {p pw g l c : Int} {W E : List Int} (h : crC p pw g l c W E = 0) : validC p pw g l c = true ∧ RisTo 0 (l - 1) (crD p pw g l c W E) (crD p pw g l c W E).length ∧ (crD p pw g l c W E).length ≤ 255 ∧ l ≤ 255 := by
  have h0 : dmC p pw g l c [W] E = 0 := Classical.byContradiction fun hn => hn ((cr_bad hn).1.symm.trans h)
  obtain ⟨V, n, hs, rfl, _, _, _, hy, hno⟩ := cr_V h0
  obtain ⟨_, _, _, _, hl1, _⟩ := validC_iff hs.valid
  cases hf : fixB V n c.toNat W E
  · have := (hno hf).1; omega
  · rw [(hy hf).2.2]
    have h1 : (difL W (fixO V n c.toNat W E) n).length ≤ n := filtL_length _ _
    exact ⟨hs.valid, filtL_ris _ _ _ (by omega), by omega, hl1⟩
theorem elR_len (p pw g l c : Int) (W : List Int) : (elR p pw g l c W).length ≤ 1048576 := by
  by_cases h : crC p pw g l c W [] = 0
  · obtain ⟨hv, _, hn, _⟩ := crD_facts h
    obtain ⟨V, hs, hon⟩ := validC_V hv
    unfold elR
    rw [if_pos h, hon]
    have h1 : (locP V l (crD p pw g l c W [])).dlt ((crD p pw g l c W []).length + 1) := by
      have := PS.dlt_lam ((crD p pw g l c W []).map fun i => VF.of V (locI V.F l i))
      rw [List.length_map] at this; exact this
    have := VF.lst_len (V := V) h1
    omega
  · rw [elR_no h]; simp
set_option maxHeartbeats 2000000 in
set_option maxRecDepth 20000 in
theorem specErrorLocator_any (p pw g l c : Int) (w : World) {a : Option Addr} {n cap : Nat} {zs : List Int} (hr : RowAt w a n zs) (hcap : n ≤ cap) (hca : a = none → cap = 0) :
    Calls Try.prog 57 #[cV p pw g l c, .slice a n cap] w fun e w' => ∃ v, e = .returned (.tuple #[v, .int .i64 (crC p pw g l c zs [])]) ∧ Below w.heap.size w w' ∧ ResL w w' v (elR p pw g l c zs) := by
  have HB0 := Lib.hid (below1 w (.cells #[.int .i64 p, .int .i64 pw, .int .i64 g, .int .i64 l, .int .i64 c] CT))
  have HX0 := Lib.hid (boxC_new w p pw g l c CT)
  have HC := Lib.hid (specCorrectWord_any p pw g l c _ (hr.below' HB0.out) hcap hca (a' := none) (n' := 0) (cap' := 0) (E := []) ⟨rfl, by omega, fun h => by omega⟩ (Nat.le_refl _))
  clear hr hca
  go_enter Try.func57, Try.ntmps57
  go_wp2_with fail
  refine HC.out.mono ?_
  rintro e w1 ⟨v, v2, rfl, hb1, h1, h2⟩
  have HB := Lib.hid (HB0.out.trans (hb1.mono HB0.out.size))
  have HX := Lib.hid (HX0.out.below hb1 HX0.out.lt)
  obtain ⟨a2, c2, rfl, -, h2⟩ := h2.shape
  have HR2 := Lib.hid h2.row
  clear hb1 h1 h2
  by_cases hc : crC p pw g l c zs [] = 0
  rotate_left
  · have hcn : (crC p pw g l c zs [] != 0) = true := by simp [hc]
    have hf := Lib.hid (elR_no hc)
    clear hc
    go_wp2_with fail
    go_ret2
    exact ⟨_, rfl, HB.out, by rw [hf.out]; exact ResL.none _ _⟩
  have hcn : (crC p pw g l c zs [] != 0) = false := by simp [hc]
  obtain ⟨hv, hris, hn, hl1⟩ := crD_facts hc
  obtain ⟨V, hs, hon⟩ := validC_V hv
  have hf := Lib.hid (show elR p pw g l c zs = VF.lst V (locP V l (crD p pw g l c zs [])) by unfold elR; rw [if_pos hc, hon])
  have HP := Lib.hid (l05Polynomial_any (c := c) hs.sf hl1 (cap := c2) HR2.out hn hris)
  obtain ⟨_, c0, c1, c2', c3, c4⟩ := HX.out
  have HC0 := Lib.hid hc
  clear hris hc hon hl1 hn
  generalize crD p pw g l c zs [] = dd at *
  obtain ⟨ln, hln⟩ : ∃ ln, dd.length = ln := ⟨_, rfl⟩
  rw [hln] at HP ⊢
  clear hln HR2
  go_wp2_with fail
  refine HP.out.mono ?_
  rintro e w2 ⟨v3, rfl, hb2, ho3⟩
  have HB2 := Lib.hid (HB.out.trans (hb2.mono HB.out.size))
  have HO2 := Lib.hid (show ResL w w2 v3 (elR p pw g l c zs) by rw [hf.out]; exact ho3.res HB.out.size)
  clear hb2 ho3 c0 c1 c2' c3 c4
  go_wp2_with fail
  go_ret2
  exact ⟨_, by rw [HC0.out]; rfl, HB2.out, HO2.out⟩
set_option maxHeartbeats 2000000 in
set_option maxRecDepth 20000 in
theorem implErrorLocator_any (p pw g l c : Int) (w : World) {a : Option Addr} {n cap : Nat} {zs : List Int} (hr : RowAt w a n zs) (hca : a = none → cap = 0) :
    Calls Try.prog 59 #[cV p pw g l c, .slice a n cap] w fun e w' => ∃ v, e = .returned (.tuple #[v, .int .i64 (crC p pw g l c zs [])]) ∧ Below w.heap.size w w' ∧ ResL w w' v (elR p pw g l c zs) := by
  have HR := Lib.hid hr
  have HCA := Lib.hid hca
  have hl := Lib.hid hr.len
  have hrow := hr.below' (below1 w (.cells #[.int .i64 p, .int .i64 pw, .int .i64 g, .int .i64 l, .int .i64 c] CT))
  have HROWS := Lib.hid (rows_one _ T1' a n cap zs hrow (w.heap.size + 1) (by simp))
  clear hr hrow hca
  go_enter Try.func59, Try.ntmps59
  go_wp2_with fail
  refine (words_any p pw g l c _ HROWS.out).mono ?_
  rintro e w1 ⟨v, rfl, hb1, hcal⟩
  have HB := Lib.hid (((below1 _ _).alloc (by simp) _).trans (hb1.mono (by simp; omega)))
  have HCAL := Lib.hid hcal
  clear hb1 hcal
  rw [← dmC_nil] at HCAL ⊢
  by_cases hc : dmC p pw g l c [zs] [] = 0
  rotate_left
  · have hcn : (dmC p pw g l c [zs] [] != 0) = true := by simp [hc]
    obtain ⟨f0, f1, f2⟩ := cr_bad hc
    have hf0 := Lib.hid f0
    have hf := Lib.hid (elR_no (show ¬ crC p pw g l c zs [] = 0 by rw [f0]; exact hc))
    clear f0 f1 f2 hc
    generalize dmC p pw g l c [zs] [] = cc at *
    go_wp2_with fail
    go_ret2
    exact ⟨_, by rw [hf0.out]; rfl, HB.out, by rw [hf.out]; exact ResL.none _ _⟩
  have hcn : (dmC p pw g l c [zs] [] != 0) = false := by simp [hc]
  obtain ⟨b, rfl, hbb, hcod⟩ := HCAL.out hc
  obtain ⟨V, L, hs, rfl, hz, hwl, hris, hyes, hno⟩ := cr_V hc
  have HYES := Lib.hid hyes
  have HNO := Lib.hid hno
  obtain ⟨hvv, hc1, hc2, hcl, hl1, hlz⟩ := validC_iff hs.valid
  obtain ⟨C, rfl⟩ : ∃ C : Nat, c = (C : Int) := ⟨c.toNat, by omega⟩
  simp only [Int.toNat_natCast] at HYES HNO
  rw [hl.out] at hwl
  have hnil : ∀ W : World, RowAt W none 0 [] := fun W => ⟨rfl, by omega, fun h => by omega⟩
  have HNIL := Lib.hid hnil
  have HZ := Lib.hid hz
  have HSE := Lib.hid (show VF.els V (syn V.F zs C) from fun z hz => by
    obtain ⟨j, hj, rfl⟩ := mem_gi hz
    rw [syn_length] at hj
    rw [syn_gi _ _ hj]
    exact svTo_el V.ok HZ.out _ _)
  have HLV := Lib.hid (show (L : Int) < V.F.size by rw [hs.sf.hV]; exact hlz)
  have HRE := Lib.hid hris
  have HW := Lib.hid (show zs.length = L by rw [hl.out]; exact hwl)
  have HCO := Lib.hid (correct_any hs hcod (cap := cap) (HR.out.below' HB.out) HCA.out hz hwl (cap' := 0) (hnil w1) (Nat.le_refl _) (fun _ => rfl) (E := []) hris 129 callFunc_r (fun W hb hlim a2 hr2 => by
    simp only [Int.toNat_natCast] at hlim hr2 ⊢
    refine (berlekamp_any hs (hcod.below hb) (cap := C) hr2 (Nat.le_refl _) HSE.out rfl (cap' := 0) (HNIL.out W) hris hlim).mono ?_
    rintro e W' ⟨v, rfl, hbe, ho⟩
    exact ⟨v, rfl, hbe, _, ho, ber_fok HLV.out (by omega) HZ.out HW.out HRE.out hlim⟩))
  simp only [Int.toNat_natCast] at HCO
  have HCOD := Lib.hid hcod
  have HHC := Lib.hid hc
  clear hz hris hc hcod hyes hno hwl HCAL hlz hc1 hc2 hcl hnil
  generalize dmC p pw g (L : Int) (C : Int) [zs] [] = cc at *
  go_wp2_with fail
  with_reducible refine HCO.out.mono ?_
  rintro e w2 ⟨v1, v2, rfl, hb2, ys, ys2, htw, heq⟩
  have HB2 := Lib.hid (HB.out.trans (hb2.mono HB.out.size))
  have HCOD2 := Lib.hid (HCOD.out.below hb2)
  obtain ⟨mid, hm1, hm2, -, -⟩ := htw
  obtain ⟨a2, c2, rfl, -, h2⟩ := hm1.shape
  have HEQ := Lib.hid heq
  clear heq hb2 HCO
  cases hf : fixB V L C zs []
  · obtain ⟨f0, f1, f2⟩ := HNO.out hf
    have hf0 := Lib.hid f0
    have hf1 := Lib.hid (elR_no (show ¬ crC p pw g (L : Int) (C : Int) zs [] = 0 by rw [f0]; omega))
    clear f0 f1 f2 hf
    go_wp2_with fail
    go_ret2
    exact ⟨_, by rw [hf0.out]; rfl, HB2.out, by rw [hf1.out]; exact ResL.none _ _⟩
  · obtain ⟨f0, f1, f2⟩ := HYES.out hf
    obtain ⟨e1, e2⟩ := HEQ.out hf
    have e3 : ys2 = crD p pw g (L : Int) (C : Int) zs [] := e2.trans f2.symm
    obtain ⟨hv, hris, hn, hl1'⟩ := crD_facts f0
    obtain ⟨V', hs', hon⟩ := validC_V hv
    have hfe := Lib.hid (show elR p pw g (L : Int) (C : Int) zs = VF.lst V' (locP V' (L : Int) (crD p pw g (L : Int) (C : Int) zs [])) by unfold elR; rw [if_pos f0, hon])
    rw [e3] at h2 ⊢
    have HP := Lib.hid (locatorPoly_any hs'.sf HCOD2.out hl1' (cap := c2) h2.row hn hris)
    have hf0 := Lib.hid f0
    clear f0 f1 f2 hf e1 e2 hon hris hn e3 h2 hm1 hm2
    generalize crD p pw g (L : Int) (C : Int) zs [] = dd at *
    obtain ⟨ln, hln⟩ : ∃ ln, dd.length = ln := ⟨_, rfl⟩
    rw [hln] at HP ⊢
    clear hln
    go_wp2_with fail
    refine HP.out.mono ?_
    rintro e w3 ⟨v3, rfl, hb3, ho3⟩
    have HB3 := Lib.hid (HB2.out.trans (hb3.mono HB2.out.size))
    have HO3 := Lib.hid (show ResL w w3 v3 (elR p pw g (L : Int) (C : Int) zs) by rw [hfe.out]; exact ho3.res HB2.out.size)
    clear hb3 ho3
    go_wp2_with fail
    go_ret2
    exact ⟨_, by rw [hf0.out]; rfl, HB3.out, HO3.out⟩
theorem implCorrectWord_law (p pw g l c : Int) (w : World) {a : Option Addr} {n cap : Nat} {zs : List Int} (hr : RowAt w a n zs) (hca : a = none → cap = 0) {a' : Option Addr} {n' cap' : Nat} {E : List Int} (hr' : RowAt w a' n' E) (hcap' : n' ≤ cap') (hca' : a' = none → cap' = 0) :
    Calls Try.prog 65 #[cV p pw g l c, .slice a n cap, .slice a' n' cap'] w fun e w' => ∃ v v2, e = .returned (.tuple #[v, v2, .int .i64 (crC p pw g l c zs E)]) ∧ Below w.heap.size w w' ∧ Res2 w w' v2 v (crD p pw g l c zs E) (crO p pw g l c zs E) :=
  (implCorrectWord_any p pw g l c w hr hca hr' hcap' hca').mono fun e w' ⟨v, v2, h1, h2, h3⟩ => ⟨v, v2, h1, h2, h3.res (Nat.le_refl _)⟩
theorem specCorrectWord_law (p pw g l c : Int) (w : World) {a : Option Addr} {n cap : Nat} {zs : List Int} (hr : RowAt w a n zs) (hcap : n ≤ cap) (hca : a = none → cap = 0) {a' : Option Addr} {n' cap' : Nat} {E : List Int} (hr' : RowAt w a' n' E) (hcap' : n' ≤ cap') :
    Calls Try.prog 64 #[cV p pw g l c, .slice a n cap, .slice a' n' cap'] w fun e w' => ∃ v v2, e = .returned (.tuple #[v, v2, .int .i64 (crC p pw g l c zs E)]) ∧ Below w.heap.size w w' ∧ ResL w w' v (crO p pw g l c zs E) ∧ ResL w w' v2 (crD p pw g l c zs E) :=
  (specCorrectWord_any p pw g l c w hr hcap hca hr' hcap').mono fun e w' ⟨v, v2, h1, h2, h3, h4⟩ => ⟨v, v2, h1, h2, h3.res (Nat.le_refl _), h4.res (Nat.le_refl _)⟩
theorem implCorrectByRegister_law (p pw g l c : Int) (w : World) {a : Option Addr} {n cap : Nat} {zs : List Int} (hr : RowAt w a n zs) (hca : a = none → cap = 0) {a' : Option Addr} {n' cap' : Nat} {E : List Int} (hr' : RowAt w a' n' E) (hcap' : n' ≤ cap') (hca' : a' = none → cap' = 0) :
    Calls Try.prog 63 #[cV p pw g l c, .slice a n cap, .slice a' n' cap'] w fun e w' => ∃ v v2, e = .returned (.tuple #[v, v2, .int .i64 (crC p pw g l c zs E)]) ∧ Below w.heap.size w w' ∧ Res2 w w' v2 v (crD p pw g l c zs E) (crO p pw g l c zs E) :=
  (implCorrectByRegister_any p pw g l c w hr hca hr' hcap' hca').mono fun e w' ⟨v, v2, h1, h2, h3⟩ => ⟨v, v2, h1, h2, h3.res (Nat.le_refl _)⟩
theorem specCorrectByRegister_law (p pw g l c : Int) (w : World) {a : Option Addr} {n cap : Nat} {zs : List Int} (hr : RowAt w a n zs) (hcap : n ≤ cap) (hca : a = none → cap = 0) {a' : Option Addr} {n' cap' : Nat} {E : List Int} (hr' : RowAt w a' n' E) (hcap' : n' ≤ cap') :
    Calls Try.prog 62 #[cV p pw g l c, .slice a n cap, .slice a' n' cap'] w fun e w' => ∃ v v2, e = .returned (.tuple #[v, v2, .int .i64 (crC p pw g l c zs E)]) ∧ Below w.heap.size w w' ∧ ResL w w' v (crO p pw g l c zs E) ∧ ResL w w' v2 (crD p pw g l c zs E) :=
  (specCorrectByRegister_any p pw g l c w hr hcap hca hr' hcap').mono fun e w' ⟨v, v2, h1, h2, h3, h4⟩ => ⟨v, v2, h1, h2, h3.res (Nat.le_refl _), h4.res (Nat.le_refl _)⟩
end Go.Proofs.Ythbiieflmmnfcaa
