/-
  The parts Fit, SpecFit.
-/
import Derived.Test.YtnhpdenneplapaaMath
import Derived.Test.YtnhpdenneplapaaGens
import Derived.Test.YtnhpdenneplapaaGcds
import Derived.Test.YtnhpdenneplapaaSFs
/-
  The walk of the program's PolyFit.
-/
namespace Go.Proofs.Ytnhpdenneplapaa
open Go.RowKit
set_option linter.unusedVariables false

theorem gz_gi (l : List Int) (k : Nat) : gz l k = gi l k := rfl
/-- A value as the program reckons it. -/
theorem evI_of {V : VF} {l : List Int} (hl : VF.els V l) {x : Int} (hx : V.F.el x) : VF.of V (evI V.F l x) = PS.ev (VF.ps V l) (VF.of V x) := by
  show _ = VF.evl V l x
  induction l with
  | nil => rw [VF.evl_nil]; exact VF.of_zero
  | cons a l ih =>
    have h := VF.els_cons.1 hl
    rw [VF.evl_cons, ← ih h.2]
    show VF.of V (V.F.add (V.F.mul (evI V.F l x) x) a) = _
    rw [VF.of_add (FF.mul_el V.ok _ _) h.1, VF.of_mul (evI_el V.ok h.2 x) hx]; grind
theorem evI_lst {V : VF} {f : PS (El V)} (hf : f.IsPoly) {x : Int} (hx : V.F.el x) : VF.of V (evI V.F (VF.lst V f) x) = PS.ev f (VF.of V x) := by
  rw [evI_of (VF.lst_isP hf).els hx, VF.lst_eq hf]
open Classical in
noncomputable def fitC (p pw g : Int) (xs ys : List Int) : Int :=
  if validB p pw g = true then (if 64 < xs.length then 3 else if allB (ffOf p pw g) xs = true ∧ allB (ffOf p pw g) ys = true then (if xs.length = ys.length ∧ Apart xs xs.length then 0 else 5) else 2) else 1
open Classical in
/-- The polynomial through the points. -/
noncomputable def fitR (p pw g : Int) (xs ys : List Int) : List Int := if h : fitC p pw g xs ys = 0 ∧ validB p pw g = true then fitL (vfOf p pw g h.2) xs ys else []
theorem fitR_no {p pw g : Int} {xs ys : List Int} (h : ¬ fitC p pw g xs ys = 0) : fitR p pw g xs ys = [] := by unfold fitR; rw [dif_neg (fun x => h x.1)]
theorem fit_inv {p pw g : Int} {xs ys : List Int} (h : validB p pw g = false) : fitC p pw g xs ys = 1 ∧ fitR p pw g xs ys = [] := by
  have : fitC p pw g xs ys = 1 := by unfold fitC; rw [if_neg (by simp [h])]
  exact ⟨this, fitR_no (by omega)⟩
theorem fit_long {p pw g : Int} {xs ys : List Int} (h : validB p pw g = true) (h2 : 64 < xs.length) : fitC p pw g xs ys = 3 ∧ fitR p pw g xs ys = [] := by
  have : fitC p pw g xs ys = 3 := by unfold fitC; rw [if_pos h, if_pos h2]
  exact ⟨this, fitR_no (by omega)⟩
theorem fit_range {p pw g : Int} {xs ys : List Int} (h : validB p pw g = true) (h2 : ¬ 64 < xs.length) (h3 : ¬ (allB (ffOf p pw g) xs = true ∧ allB (ffOf p pw g) ys = true)) : fitC p pw g xs ys = 2 ∧ fitR p pw g xs ys = [] := by
  have : fitC p pw g xs ys = 2 := by unfold fitC; rw [if_pos h, if_neg h2, if_neg h3]
  exact ⟨this, fitR_no (by omega)⟩
theorem fit_state {p pw g : Int} {xs ys : List Int} (h : validB p pw g = true) (h2 : ¬ 64 < xs.length) (h3 : allB (ffOf p pw g) xs = true ∧ allB (ffOf p pw g) ys = true) (h4 : ¬ (xs.length = ys.length ∧ Apart xs xs.length)) : fitC p pw g xs ys = 5 ∧ fitR p pw g xs ys = [] := by
  have : fitC p pw g xs ys = 5 := by unfold fitC; rw [if_pos h, if_neg h2, if_pos h3, if_neg h4]
  exact ⟨this, fitR_no (by omega)⟩
theorem fit_ok {p pw g : Int} {xs ys : List Int} (h : validB p pw g = true) (h2 : ¬ 64 < xs.length) (h3 : allB (ffOf p pw g) xs = true ∧ allB (ffOf p pw g) ys = true) (h4 : xs.length = ys.length) (h5 : Apart xs xs.length) : fitC p pw g xs ys = 0 ∧ fitR p pw g xs ys = fitL (vfOf p pw g h) xs ys := by
  have : fitC p pw g xs ys = 0 := by unfold fitC; rw [if_pos h, if_neg h2, if_pos h3, if_pos ⟨h4, h5⟩]
  exact ⟨this, by unfold fitR; rw [dif_pos ⟨this, h⟩]⟩
theorem fitR_len (p pw g : Int) (xs ys : List Int) : (fitR p pw g xs ys).length ≤ 1048576 := by
  unfold fitR
  split
  · rename_i h
    have h1 := fitL_len (vfOf p pw g h.2) xs ys
    have h2 : xs.length ≤ 64 := by
      apply Classical.byContradiction; intro h3
      have := (fit_long (ys := ys) h.2 (Nat.lt_of_not_le h3)).1
      omega
    omega
  · simp
theorem fit_poly {V : VF} {xs ys : List Int} {k : Nat} {f : PS (El V)} (h : FitAt V xs ys k f) : f.IsPoly := ⟨_, h.dlt⟩
theorem newt_poly {V : VF} {xs : List Int} {k : Nat} {f : PS (El V)} (h : Newt V xs k f) : f.IsPoly := ⟨_, h.dlt⟩
theorem newt_next {V : VF} {xs : List Int} (hx : VF.els V xs) {k : Nat} {z : PS (El V)} (h : Newt V xs k z) : VF.lst V (VF.ps V (VF.lst V z) * VF.ps V [V.F.neg (gi xs k), 1]) = VF.lst V (z * (PS.X - PS.C (pt V xs k))) := by
  rw [VF.lst_eq (newt_poly h), ps_lin V (show V.F.el (gi xs k) from hx.getD k)]; rfl
theorem fit_next {V : VF} {f z : PS (El V)} (hf : f.IsPoly) (hz : z.IsPoly) (b : Int) :
    VF.lst V (VF.ps V (VF.lst V f) + VF.ps V (VF.lst V (VF.xp V 0 * (PS.C (VF.of V b) * VF.ps V (VF.lst V z))))) = VF.lst V (f + PS.C (VF.of V b) * z) := by
  rw [VF.lst_eq hf, VF.lst_eq hz, xp_zero]
  have e : (1 : PS (El V)) * (PS.C (VF.of V b) * z) = PS.C (VF.of V b) * z := by grind
  rw [e, VF.lst_eq ((PS.isPoly_C _).mul hz)]
set_option maxHeartbeats 4000000 in
set_option maxRecDepth 20000 in
theorem implPolyFit_any (p pw g : Int) (w : World) {a : Option Addr} {n cap : Nat} {xs : List Int} (hr : RowAt w a n xs) {a' : Option Addr} {n' cap' : Nat} {ys : List Int} (hr' : RowAt w a' n' ys) :
    Calls Try.prog 53 #[fV p pw g, .slice a n cap, .slice a' n' cap'] w fun e w' => ∃ v, e = .returned (.tuple #[v, .int .i64 (fitC p pw g xs ys)]) ∧ Below w.heap.size w w' ∧ ResL w w' v (fitR p pw g xs ys) := by
  have HR := Lib.hid hr
  have HR' := Lib.hid hr'
  have hl := Lib.hid hr.len
  have hl' := Lib.hid hr'.len
  have hsm := hr.small
  clear hr hr'
  go_enter Try.func53, Try.ntmps53
  go_wp2_with fail
  refine (calc_any p pw g _).mono ?_
  rintro e w1 ⟨v, rfl, hb1, hcal⟩
  have HB := Lib.hid ((below1 w _).trans (hb1.mono (by simp)))
  have HCAL := Lib.hid hcal
  clear hb1 hcal
  cases h : validB p pw g
  · obtain ⟨f0, f1⟩ := fit_inv (xs := xs) (ys := ys) h
    have hf0 := Lib.hid f0
    have hf1 := Lib.hid f1
    clear f0 f1
    go_wp2_with fail
    go_ret2
    exact ⟨_, by rw [hf0.out]; rfl, HB.out, by rw [hf1.out]; exact ResL.none _ _⟩
  have HV := Lib.hid h
  obtain ⟨b, rfl, _, hcal⟩ := HCAL.out h
  have HC := Lib.hid hcal
  clear hcal h HCAL
  by_cases hlong : 64 < n
  · obtain ⟨f0, f1⟩ := fit_long (xs := xs) (ys := ys) HV.out (by rw [hl.out]; exact hlong)
    have hf0 := Lib.hid f0
    have hf1 := Lib.hid f1
    have hlong' : (64 : Int) < (n : Int) := by omega
    clear f0 f1
    go_wp2_with fail
    go_ret2
    exact ⟨_, by rw [hf0.out]; rfl, HB.out, by rw [hf1.out]; exact ResL.none _ _⟩
  have hlong' : ¬ (64 : Int) < (n : Int) := by omega
  have HA := Lib.hid (hasAll_any HC.out (cap := cap) (HR.out.below' HB.out))
  have HA' := Lib.hid (hasAll_any HC.out (cap := cap') (HR'.out.below' HB.out))
  cases hx : allB (ffOf p pw g) xs
  · obtain ⟨f0, f1⟩ := fit_range (xs := xs) (ys := ys) HV.out (by rw [hl.out]; exact hlong) (by simp [hx])
    have hf0 := Lib.hid f0
    have hf1 := Lib.hid f1
    rw [hx] at HA
    clear f0 f1
    go_wp2_with fail
    refine HA.out.mono ?_
    rintro e w2 ⟨rfl, rfl⟩
    go_wp2_with fail
    go_ret2
    exact ⟨_, by rw [hf0.out]; rfl, HB.out, by rw [hf1.out]; exact ResL.none _ _⟩
  have HX := Lib.hid hx
  rw [hx] at HA
  go_wp2_with fail
  refine HA.out.mono ?_
  rintro e w2 ⟨rfl, rfl⟩
  clear hx HA
  cases hy : allB (ffOf p pw g) ys
  · obtain ⟨f0, f1⟩ := fit_range (xs := xs) (ys := ys) HV.out (by rw [hl.out]; exact hlong) (by simp [hy])
    have hf0 := Lib.hid f0
    have hf1 := Lib.hid f1
    rw [hy] at HA'
    clear f0 f1
    go_wp2_with fail
    refine HA'.out.mono ?_
    rintro e w2 ⟨rfl, rfl⟩
    go_wp2_with fail
    go_ret2
    exact ⟨_, by rw [hf0.out]; rfl, HB.out, by rw [hf1.out]; exact ResL.none _ _⟩
  have HY := Lib.hid hy
  rw [hy] at HA'
  go_wp2_with fail
  refine HA'.out.mono ?_
  rintro e w2 ⟨rfl, rfl⟩
  clear hy HA'
  by_cases hne : n = n'
  rotate_left
  · obtain ⟨f0, f1⟩ := fit_state (xs := xs) (ys := ys) HV.out (by rw [hl.out]; exact hlong) ⟨HX.out, HY.out⟩ (fun h => hne (by rw [← hl.out, ← hl'.out]; exact h.1))
    have hf0 := Lib.hid f0
    have hf1 := Lib.hid f1
    have hne' : ((n : Int) != (n' : Int)) = true := by simp; omega
    clear f0 f1
    go_wp2_with fail
    go_ret2
    exact ⟨_, by rw [hf0.out]; rfl, HB.out, by rw [hf1.out]; exact ResL.none _ _⟩
  subst hne
  have hne' : ((n : Int) != (n : Int)) = false := by simp
  obtain ⟨V, hV⟩ : ∃ V, V = vfOf p pw g HV.out := ⟨_, rfl⟩
  have HVV := Lib.hid hV
  have hex : VF.els V xs := by rw [hV]; exact allB_iff.1 HX.out
  have hey : VF.els V ys := by rw [hV]; exact allB_iff.1 HY.out
  have HEX := Lib.hid hex
  have HEY := Lib.hid hey
  have HCV := Lib.hid (show Cal w1 b V.F by rw [hV]; exact HC.out)
  clear hV hex hey HC
  have HOA0 := Lib.hid (show OwnL ((w1.alloc (.cells #[] 2)).alloc (.cells #[.int .i64 1] 2)) w1.heap.size (.slice (some ⟨w1.heap.size, 0, none⟩) 0 0) (VF.lst V 0) by
    rw [(VF.lst_nil PS.isPoly_zero).2 rfl]; exact (OwnL.empty w1 _ (Nat.le_refl _) _ rfl).below (below1 _ _))
  have HOZ0 := Lib.hid (show OwnL ((w1.alloc (.cells #[] 2)).alloc (.cells #[.int .i64 1] 2)) w1.heap.size (.slice (some ⟨w1.heap.size + 1, 0, none⟩) 1 1) (VF.lst V 1) by
    rw [lst_one]; exact OwnL.lit1 _ _ (by simp) _ (by simp) _ rfl)
  have HB0 := Lib.hid ((below1 w1 (.cells #[] 2)).alloc (by simp) (.cells #[.int .i64 1] 2))
  go_wp2_with fail
  go_loopw [10, 11, 45] (fun vf vz t wr => ∃ (k la ca lz cz : Nat) (aa az : Option Addr) (f z : PS (El V)), k ≤ n ∧ t = .int .i64 k ∧ vf = .slice aa la ca ∧ vz = .slice az lz cz ∧ Hid ((VF.lst V f).length = la) ∧ Hid ((VF.lst V z).length = lz) ∧ Hid (aa = none → ca = 0) ∧
    Hid (OwnL wr w1.heap.size (.slice aa la ca) (VF.lst V f)) ∧ Hid (OwnL wr w1.heap.size (.slice az lz cz) (VF.lst V z)) ∧ Hid (FitAt V xs ys k f) ∧ Hid (Newt V xs k z) ∧ Hid (Apart xs k) ∧ Hid (Below w1.heap.size w1 wr)) (fun _ _ t _ => (n - intOf t).toNat)
  case atStart => exact ⟨0, 0, 0, 1, 1, _, _, 0, 1, by omega, rfl, rfl, rfl, Lib.hid (by rw [(VF.lst_nil PS.isPoly_zero).2 rfl]; rfl), Lib.hid (by rw [lst_one]; rfl), Lib.hid (fun h => by cases h), HOA0, HOZ0, Lib.hid ⟨PS.dlt_zero _, fun i h => by omega⟩, Lib.hid (Newt.start xs), Lib.hid (fun i j h => by omega), HB0⟩
  case round =>
    obtain ⟨k, la, ca, lz, cz, aa, az, f, z, hk, rfl, rfl, rfl, hla, hlz, hca, hoa, hoz, hfit, hnew, hap, hbel⟩ := hrel
    clear HOA0 HOZ0 HB0
    have HBW := Lib.hid (HB.out.trans (hbel.out.mono HB.out.size))
    by_cases hlt : k < n
    · have HFP := Lib.hid (fit_poly hfit.out)
      have HZP := Lib.hid (newt_poly hnew.out)
      have hlb : (VF.lst V f).length ≤ k := VF.lst_len hfit.out.dlt
      have hlb2 : (VF.lst V z).length ≤ k + 1 := VF.lst_len hnew.out.dlt
      rw [hla.out] at hlb
      rw [hlz.out] at hlb2
      obtain ⟨b1, o1, rfl, _, hcs⟩ := (HR.out.below' HBW.out).at' (by omega)
      have hcell := hcs k hlt
      obtain ⟨_, _, ea, -, hra⟩ := hoa.out.shape
      simp only [Value.slice.injEq] at ea
      obtain ⟨rfl, -, -⟩ := ea
      rw [hla.out] at hra
      have HRA := Lib.hid hra.row
      obtain ⟨_, _, ea, -, hrz⟩ := hoz.out.shape
      simp only [Value.slice.injEq] at ea
      obtain ⟨rfl, -, -⟩ := ea
      rw [hlz.out] at hrz
      have HRZ := Lib.hid hrz.row
      have HCR := Lib.hid (HCV.out.below hbel.out)
      have hxe : V.F.el (gi xs k) := HEX.out.getD k
      have HXE := Lib.hid hxe
      have HAT := Lib.hid (at_any HCR.out (cap := cz) HRZ.out (VF.lst_isP HZP.out).els (gi xs k) hxe)
      have hvz := evI_lst HZP.out hxe
      have HVZ := Lib.hid hvz
      have hve := evI_el V.ok (VF.lst_isP HZP.out).els (gi xs k)
      clear hcs hra hrz hvz
      generalize evI V.F (VF.lst V z) (gi xs k) = v0 at *
      go_wp2_with fail
      refine HAT.out.mono ?_
      rintro e w3 ⟨rfl, hd3⟩
      have HD3 := Lib.hid (show Drew wr w3 from hd3)
      have HB3 := Lib.hid (HBW.out.trans ((HD3.out.below wr.heap.size).mono HBW.out.size))
      clear hd3 hcell HAT
      by_cases h0 : v0 = 0
      · have h0' : (v0 == 0) = true := by simp [h0]
        have hnot : ¬ Apart xs xs.length := fun hap2 => by
          obtain ⟨i, hi, e⟩ := hnew.out.old HEX.out (by show PS.ev z (VF.of V (gi xs k)) = 0; rw [← HVZ.out, h0]; exact VF.of_zero)
          have := hap2 i k (by rw [hl.out]; omega) (by rw [hl.out]; omega) e
          omega
        obtain ⟨f0, f1⟩ := fit_state (xs := xs) (ys := ys) HV.out (by rw [hl.out]; exact hlong) ⟨HX.out, HY.out⟩ (fun h => hnot h.2)
        have hf0 := Lib.hid f0
        have hf1 := Lib.hid f1
        clear f0 f1 hnot h0
        go_wp2_with fail
        go_ret2
        exact ⟨_, by rw [hf0.out]; rfl, HB3.out, by rw [hf1.out]; exact ResL.none _ _⟩
      · have h0' : (v0 == 0) = false := by simp [h0]
        have hnz : PS.ev z (pt V xs k) ≠ 0 := fun e => h0 (by
          have : VF.of V v0 = 0 := by rw [HVZ.out]; exact e
          exact (VF.of_eq_zero hve).1 this)
        have HAP := Lib.hid (hap.out.next (hnew.out.new HEX.out hnz))
        have hye : V.F.el (gi ys k) := HEY.out.getD k
        obtain ⟨b2, o2, rfl, _, hcs⟩ := (HR'.out.below' HB3.out).at' (by omega)
        have hcell := hcs k hlt
        have HCR3 := Lib.hid (HD3.out.cal HCR.out)
        have HRA3 := Lib.hid (HD3.out.row HRA.out)
        have hfe := evI_el V.ok (VF.lst_isP HFP.out).els (gi xs k)
        have HAT2 := Lib.hid (fun m => at_any (HCR3.out.drewN m) (cap := ca) ((Drew.more (Drew.refl w3) m).row HRA3.out) (VF.lst_isP HFP.out).els (gi xs k) HXE.out)
        have HVF := Lib.hid (evI_lst HFP.out hxe)
        generalize evI V.F (VF.lst V f) (gi xs k) = v1 at *
        have hse := FF.add_el V.ok hye (FF.neg_el hfe)
        have hie := FF.inv_el V.ok v0
        have HSU := Lib.hid (fun m => sub_any (HCR3.out.drewN m) (gi ys k) v1 hye hfe)
        have HIN := Lib.hid (fun m => inv_any (HCR3.out.drewN m) v0 hve h0)
        have HMU := Lib.hid (fun m => mul_any (HCR3.out.drewN m) (V.F.add (gi ys k) (V.F.neg v1)) (V.F.inv v0) hse hie)
        obtain ⟨by', hby⟩ : ∃ x, V.F.mul (V.F.add (gi ys k) (V.F.neg v1)) (V.F.inv v0) = x := ⟨_, rfl⟩
        have hbe : V.F.el by' := by rw [← hby]; exact FF.mul_el V.ok _ _
        have HFT := Lib.hid (show FitAt V xs ys (k + 1) (f + PS.C (VF.of V by') * z) from hnew.out.fit hfit.out (by
          show VF.of V by' * PS.ev z (VF.of V (gi xs k)) = VF.of V (gi ys k) - PS.ev f (VF.of V (gi xs k))
          rw [← hby, ← HVZ.out, ← HVF.out, VF.of_mul hse hie, VF.of_add hye (FF.neg_el hfe), VF.of_neg hfe]
          have := VF.of_inv hve h0
          grind))
        rw [hby] at HMU
        clear hcs hby hnz h0 hse hie hye
        generalize gi ys k = yk at *
        go_wp2_with fail
        go_quiet (first | (go_at_call 71; exact Calls.quiet_of (HAT2.out _)) | (go_at_call 97; exact Calls.quiet_of_same ((HSU.out _).mono fun e w' h => ⟨h.1, h.2.symm⟩)) | (go_at_call 105; exact Calls.quiet_of (HIN.out _)) | (go_at_call 98; exact Calls.quiet_of (HMU.out _)))
        have HSC := Lib.hid (fun W (hd : Drew w3 W) => scaled_any (V := V) (hd.cal HCR3.out) (cap := cz) (hd.row (HD3.out.row HRZ.out)) (by omega) (VF.lst_isP HZP.out) by' hbe 0 (by omega))
        rw [show ((0 : Nat) : Int) = 0 from rfl] at HSC
        have HFN := Lib.hid (fit_next (V := V) HFP.out HZP.out by')
        have HSL := Lib.hid (VF.lst_len (V := V) (f := VF.xp V 0 * (PS.C (VF.of V by') * VF.ps V (VF.lst V z))) (n := k + 1) (by rw [VF.lst_eq HZP.out, xp_zero, show (1 : PS (El V)) * (PS.C (VF.of V by') * z) = PS.C (VF.of V by') * z by grind]; exact PS.dlt_C_mul _ hnew.out.dlt))
        have HSE := Lib.hid (VF.lst_isP (V := V) (f := VF.xp V 0 * (PS.C (VF.of V by') * VF.ps V (VF.lst V z))) ((xp_poly _).mul ((PS.isPoly_C _).mul (VF.ps_poly _)))).els
        generalize VF.lst V (VF.xp V 0 * (PS.C (VF.of V by') * VF.ps V (VF.lst V z))) = zt at *
        go_wp2_with fail
        refine (HSC.out _ ⟨_, rfl⟩).mono ?_
        rintro e w4 ⟨v4, rfl, hb4, ho4⟩
        obtain ⟨a4, c4, rfl, -, h4⟩ := ho4.shape
        have hb4' : Below w3.heap.size w3 w4 := Below.more (Drew.below (drew4 w3 _) w3.heap.size) (Nat.le_refl _) hb4
        have HROWS := Lib.hid (rows_one w4 80 a4 zt.length c4 zt h4.row _ rfl)
        have HPL := Lib.hid (fun (T : TypeId) => plus_any (V := V) ((HCR3.out.below hb4').below (below1 w4 (.cells #[.slice a4 zt.length c4] T))) ((HRA3.out.below' hb4').below' (below1 w4 (.cells #[.slice a4 zt.length c4] T))) (cap := ca) hca.out (by omega) (rows_one w4 T a4 zt.length c4 zt h4.row _ rfl) (capA := 1) (by have := HSL.out; omega) (VF.lst_isP HFP.out).els HSE.out)
        rw [HFN.out] at HPL
        have HB4 := Lib.hid hb4'
        clear hb4 hb4' ho4 h4
        go_wp2_with fail
        refine (HPL.out _).mono ?_
        rintro e w5 ⟨v5, rfl, hb5, ho5⟩
        have hb5' : Below w3.heap.size w3 w5 := Below.more (Below.more HB4.out (Nat.le_refl _) (below1 w4 _)) (Nat.le_refl _) hb5
        have HB5 := Lib.hid hb5'
        obtain ⟨a5, c5, rfl, hc5, -⟩ := ho5.shape
        have hsz5 : w1.heap.size ≤ w3.heap.size := Nat.le_trans hbel.out.size (HD3.out.below wr.heap.size).size
        have HO5 := Lib.hid (ho5.lower (C := w1.heap.size) (by have := HB4.out.size; simp; omega))
        have HC5 := Lib.hid hc5
        have HCR5 := Lib.hid (HCR3.out.below HB5.out)
        have HN := Lib.hid (neg_any HCR5.out (gi xs k) HXE.out)
        have HNX := Lib.hid (newt_next HEX.out hnew.out)
        have HNW := Lib.hid hnew.out.step
        have HNE := Lib.hid (els_lin (V := V) HXE.out)
        have HRZ5 := Lib.hid ((HD3.out.row HRZ.out).below' HB5.out)
        have HT := Lib.hid (fun T => times_any (V := V) (cap := cz) (cap' := 2) (HCR5.out.below (below1 w5 (.cells #[.int .i64 (V.F.neg (gi xs k)), .int .i64 1] T))) (HRZ5.out.below' (below1 w5 (.cells #[.int .i64 (V.F.neg (gi xs k)), .int .i64 1] T))) (by omega) (row_two w5 (V.F.neg (gi xs k)) 1 T _ rfl) (by omega) (VF.lst_isP HZP.out).els HNE.out)
        rw [HNX.out] at HT
        clear hb5 hb5' ho5 hc5
        generalize V.F.neg (gi xs k) = m5 at *
        go_wp2_with fail
        refine HN.out.mono ?_
        rintro e w6 ⟨rfl, rfl⟩
        go_wp2_with fail
        refine (HT.out _).mono ?_
        rintro e w7 ⟨v7, rfl, hb7, ho7⟩
        have hb7' : Below w5.heap.size w5 w7 := Below.more (Below.more (Below.refl _ w5) (Nat.le_refl _) (below1 w5 _)) (Nat.le_refl _) hb7
        obtain ⟨a7, c7, rfl, -, -⟩ := ho7.shape
        have HO7 := Lib.hid (ho7.lower (C := w1.heap.size) (by have := HB5.out.size; simp; omega))
        have HO57 := Lib.hid (HO5.out.below hb7')
        have HB7 := Lib.hid ((hbel.out.trans ((HD3.out.below wr.heap.size).mono hbel.out.size)).trans ((HB5.out.trans (hb7'.mono HB5.out.size)).mono hsz5))
        clear hb7 hb7' ho7
        go_wp2_with fail
        go_roundw
        case rel => exact ⟨k + 1, _, _, _, _, _, _, _, _, by omega, by go_num, rfl, rfl, Lib.hid rfl, Lib.hid rfl, HC5, HO57, HO7, HFT, HNW, HAP, HB7⟩
        case measure => simp [intOf]; omega
    · obtain rfl : k = n := by omega
      have hfl := fitL_of (ys := ys) HEX.out (by rw [hl.out]; exact hap.out) (by rw [hl.out]; exact hfit.out)
      obtain ⟨f0, f1⟩ := fit_ok (xs := xs) (ys := ys) HV.out (by rw [hl.out]; exact hlong) ⟨HX.out, HY.out⟩ (by rw [hl.out, hl'.out]) (by rw [hl.out]; exact hap.out)
      have hf0 := Lib.hid f0
      have hf1 := Lib.hid (show fitR p pw g xs ys = VF.lst V f by rw [f1, ← HVV.out, hfl])
      have HOF := Lib.hid (show ResL w wr (.slice aa la ca) (fitR p pw g xs ys) by rw [hf1.out]; exact hoa.out.res HB.out.size)
      clear f0 f1 hfl
      go_wp2_with fail
      go_ret2
      exact ⟨_, by rw [hf0.out]; rfl, HBW.out, HOF.out⟩
end Go.Proofs.Ytnhpdenneplapaa
/-
  The walk of the reference's PolyFit.
-/
namespace Go.Proofs.Ytnhpdenneplapaa
open Go.RowKit
set_option linter.unusedVariables false

theorem trim_one {V : VF} {s : Int} (hs : V.F.el s) : VF.trim [s] = VF.lst V (PS.C (VF.of V s)) := by
  rw [VF.trim_lst (V := V) (fun z h => by simp at h; subst h; exact hs), VF.ps_single]
theorem lagr_next {V : VF} {xs : List Int} (hx : VF.els V xs) {i k : Nat} {t : PS (El V)} {u : El V} (h : Lagr V xs i k t u) : VF.lst V (VF.ps V (VF.lst V t) * VF.ps V [V.F.neg (gi xs k), 1]) = VF.lst V (t * (PS.X - PS.C (pt V xs k))) := by
  rw [VF.lst_eq h.poly, ps_lin V (show V.F.el (gi xs k) from hx.getD k)]; rfl
theorem lag_next {V : VF} {f t : PS (El V)} (hf : f.IsPoly) (ht : t.IsPoly) (s : El V) :
    VF.lst V (VF.ps V (VF.lst V f) + VF.ps V (VF.lst V (VF.ps V (VF.lst V t) * VF.ps V (VF.lst V (PS.C s))))) = VF.lst V (f + t * PS.C s) := by
  rw [VF.lst_eq hf, VF.lst_eq ht, VF.lst_eq (PS.isPoly_C s), VF.lst_eq (ht.mul (PS.isPoly_C s))]
set_option maxHeartbeats 8000000 in
set_option maxRecDepth 100000 in
theorem specPolyFit_any (p pw g : Int) (w : World) {a : Option Addr} {n cap : Nat} {xs : List Int} (hr : RowAt w a n xs) {a' : Option Addr} {n' cap' : Nat} {ys : List Int} (hr' : RowAt w a' n' ys) :
    Calls Try.prog 54 #[fV p pw g, .slice a n cap, .slice a' n' cap'] w fun e w' => ∃ v, e = .returned (.tuple #[v, .int .i64 (fitC p pw g xs ys)]) ∧ Below w.heap.size w w' ∧ ResL w w' v (fitR p pw g xs ys) := by
  have HR := Lib.hid hr
  have HR' := Lib.hid hr'
  have hl := Lib.hid hr.len
  have hl' := Lib.hid hr'.len
  have hsm := hr.small
  clear hr hr'
  go_enter Try.func54, Try.ntmps54
  go_wp2_with fail
  refine (isField_any p pw g _).mono ?_
  rintro e w1 ⟨rfl, hb1⟩
  have HB := Lib.hid ((below1 w _).trans (hb1.mono (by simp)))
  have HX1 := Lib.hid ((box_new w p pw g FTa).below hb1 (by simp))
  clear hb1
  cases h : validB p pw g
  · obtain ⟨f0, f1⟩ := fit_inv (xs := xs) (ys := ys) h
    have hf0 := Lib.hid f0
    have hf1 := Lib.hid f1
    clear f0 f1
    go_wp2_with fail
    go_ret2
    exact ⟨_, by rw [hf0.out]; rfl, HB.out, by rw [hf1.out]; exact ResL.none _ _⟩
  have HV := Lib.hid h
  clear h
  by_cases hlong : 64 < n
  · obtain ⟨f0, f1⟩ := fit_long (xs := xs) (ys := ys) HV.out (by rw [hl.out]; exact hlong)
    have hf0 := Lib.hid f0
    have hf1 := Lib.hid f1
    have hlong' : (64 : Int) < (n : Int) := by omega
    clear f0 f1
    go_wp2_with fail
    go_ret2
    exact ⟨_, by rw [hf0.out]; rfl, HB.out, by rw [hf1.out]; exact ResL.none _ _⟩
  have hlong' : ¬ (64 : Int) < (n : Int) := by omega
  have HA := Lib.hid (l02Is_any p pw g (ranged_of HV.out) w1 (cap := cap) (HR.out.below' HB.out))
  have HA' := Lib.hid (fun W (hb : Below w1.heap.size w1 W) => l02Is_any p pw g (ranged_of HV.out) W (cap := cap') ((HR'.out.below' HB.out).below' hb))
  obtain ⟨hlt1, c0, c1, c2⟩ := HX1.out
  cases hx : allB (ffOf p pw g) xs
  · obtain ⟨f0, f1⟩ := fit_range (xs := xs) (ys := ys) HV.out (by rw [hl.out]; exact hlong) (by simp [hx])
    have hf0 := Lib.hid f0
    have hf1 := Lib.hid f1
    rw [hx] at HA
    clear f0 f1
    go_wp2_with fail
    refine HA.out.mono ?_
    rintro e w2 ⟨rfl, hb2⟩
    have HB2 := Lib.hid (HB.out.trans (hb2.mono HB.out.size))
    clear hb2
    go_wp2_with fail
    go_ret2
    exact ⟨_, by rw [hf0.out]; rfl, HB2.out, by rw [hf1.out]; exact ResL.none _ _⟩
  have HX := Lib.hid hx
  rw [hx] at HA
  go_wp2_with fail
  refine HA.out.mono ?_
  rintro e w2 ⟨rfl, hb2⟩
  have HB12 := Lib.hid hb2
  have HB2 := Lib.hid (HB.out.trans (hb2.mono HB.out.size))
  have HX2 := Lib.hid (HX1.out.below hb2 hlt1)
  clear hb2 hx HA c0 c1 c2
  obtain ⟨hlt2, c0, c1, c2⟩ := HX2.out
  cases hy : allB (ffOf p pw g) ys
  · obtain ⟨f0, f1⟩ := fit_range (xs := xs) (ys := ys) HV.out (by rw [hl.out]; exact hlong) (by simp [hy])
    have hf0 := Lib.hid f0
    have hf1 := Lib.hid f1
    rw [hy] at HA'
    clear f0 f1
    go_wp2_with fail
    refine (HA'.out _ HB12.out).mono ?_
    rintro e w3 ⟨rfl, hb3⟩
    have HB3 := Lib.hid (HB2.out.trans (hb3.mono HB2.out.size))
    clear hb3
    go_wp2_with fail
    go_ret2
    exact ⟨_, by rw [hf0.out]; rfl, HB3.out, by rw [hf1.out]; exact ResL.none _ _⟩
  have HY := Lib.hid hy
  rw [hy] at HA'
  go_wp2_with fail
  refine (HA'.out _ HB12.out).mono ?_
  rintro e w3 ⟨rfl, hb3⟩
  have HB3 := Lib.hid (HB2.out.trans (hb3.mono HB2.out.size))
  have HX3 := Lib.hid (HX2.out.below hb3 hlt2)
  clear hb3 hy HA' c0 c1 c2 HB12 HX1 HX2 hlt1 hlt2
  by_cases hne : n = n'
  rotate_left
  · obtain ⟨f0, f1⟩ := fit_state (xs := xs) (ys := ys) HV.out (by rw [hl.out]; exact hlong) ⟨HX.out, HY.out⟩ (fun h => hne (by rw [← hl.out, ← hl'.out]; exact h.1))
    have hf0 := Lib.hid f0
    have hf1 := Lib.hid f1
    have hne' : ((n : Int) != (n' : Int)) = true := by simp; omega
    clear f0 f1
    go_wp2_with fail
    go_ret2
    exact ⟨_, by rw [hf0.out]; rfl, HB3.out, by rw [hf1.out]; exact ResL.none _ _⟩
  subst hne
  have hne' : ((n : Int) != (n : Int)) = false := by simp
  have HSF := Lib.hid (SF.vf HV.out)
  obtain ⟨V, hV⟩ : ∃ V, V = vfOf p pw g HV.out := ⟨_, rfl⟩
  have HVV := Lib.hid hV
  have hex : VF.els V xs := by rw [hV]; exact allB_iff.1 HX.out
  have hey : VF.els V ys := by rw [hV]; exact allB_iff.1 HY.out
  rw [← hV] at HSF
  have HEX := Lib.hid hex
  have HEY := Lib.hid hey
  clear hV hex hey
  have HBAD := Lib.hid (fun (h : ¬ Apart xs xs.length) => fit_state (xs := xs) (ys := ys) HV.out (by rw [hl.out]; exact hlong) ⟨HX.out, HY.out⟩ (fun x => h x.2))
  go_wp2_with fail
  go_loopw [8] (fun t wr => ∃ (i : Nat), i ≤ n ∧ t = .int .i64 i ∧ Hid (Apart xs i) ∧ Hid (Drew w3 wr)) (fun t _ => (n - intOf t).toNat)
  case atStart => exact ⟨0, by omega, rfl, Lib.hid (fun i j h => by omega), Lib.hid (Drew.refl _)⟩
  case round =>
    obtain ⟨i, hi, rfl, hap, hd⟩ := hrel
    by_cases hlt : i < n
    · obtain ⟨wo, rfl⟩ : ∃ wo : World, wo = wr := ⟨_, rfl⟩
      go_wp2_with fail
      go_loopw [9] (fun t wr => ∃ (k : Nat), k ≤ i ∧ t = .int .i64 k ∧ Hid (∀ j, j < k → gi xs j ≠ gi xs i) ∧ Hid (Drew wo wr)) (fun t _ => (i - intOf t).toNat)
      case atStart => exact ⟨0, by omega, rfl, Lib.hid (fun j h => by omega), Lib.hid (Drew.refl _)⟩
      case round =>
        obtain ⟨k, hk, rfl, hal, hd2⟩ := hrel
        have HD2 := Lib.hid (hd.out.trans hd2.out)
        by_cases hk2 : k < i
        · obtain ⟨b1, o1, rfl, _, hcs⟩ := ((HR.out.below' HB3.out).below' (HD2.out.below _)).at' (by omega)
          have hc1 := hcs i hlt
          have hc2 := hcs k (by omega)
          clear hcs
          by_cases heq : gi xs i = gi xs k
          · have heq' : (gi xs i == gi xs k) = true := by simp [heq]
            obtain ⟨f0, f1⟩ := HBAD.out (fun h => by have := h i k (by rw [hl.out]; omega) (by rw [hl.out]; omega) heq; omega)
            have hf0 := Lib.hid f0
            have hf1 := Lib.hid f1
            have HBE := Lib.hid (HB3.out.trans ((HD2.out.below w3.heap.size).mono HB3.out.size))
            clear f0 f1 heq
            go_wp2_with fail
            go_quiet (fail)
            go_wp2_with fail
            go_ret2
            exact ⟨_, by rw [hf0.out]; rfl, HBE.out.trans ((Drew.below (drew4 _ _) _).mono HBE.out.size), by rw [hf1.out]; exact ResL.none _ _⟩
          · have heq' : (gi xs i == gi xs k) = false := by simp [heq]
            have HAL := Lib.hid (show ∀ j, j < k + 1 → gi xs j ≠ gi xs i from fun j hj e => by
              rcases Nat.lt_or_ge j k with h1 | h1
              · exact hal.out j h1 e
              · have : j = k := by omega
                subst this; exact heq e.symm)
            clear heq
            go_wp2_with fail
            go_quiet (fail)
            go_wp2_with fail
            go_roundw
            case rel => exact ⟨k + 1, by omega, by go_num, HAL, Lib.hid (hd2.out.more _)⟩
            case measure => simp [intOf]; omega
        · obtain rfl : k = i := by omega
          have HAP := Lib.hid (hap.out.next hal.out)
          go_wp2_with fail
          go_roundw
          case rel => exact ⟨k + 1, by omega, by go_num, HAP, HD2⟩
          case measure => simp [intOf]; omega
    · obtain rfl : i = n := by omega
      have HB4 := Lib.hid (HB3.out.trans ((hd.out.below w3.heap.size).mono HB3.out.size))
      have HX4 := Lib.hid (HX3.out.below (hd.out.below w3.heap.size) HX3.out.lt)
      obtain ⟨w4, rfl⟩ : ∃ w4 : World, w4 = wr := ⟨_, rfl⟩
      have HOA0 := Lib.hid (show OwnL (w4.alloc (.cells #[] 2)) w4.heap.size (.slice (some ⟨w4.heap.size, 0, none⟩) 0 0) (VF.lst V 0) by
        rw [(VF.lst_nil PS.isPoly_zero).2 rfl]; exact OwnL.empty w4 _ (Nat.le_refl _) _ rfl)
      have HB0 := Lib.hid (below1 w4 (.cells #[] 2))
      have HX0 := Lib.hid (HX4.out.below (below1 w4 (.cells #[] 2)) HX4.out.lt)
      go_wp2_with fail
      go_loopw [10, 11] (fun vo t wr => ∃ (j la ca : Nat) (aa : Option Addr) (f : PS (El V)), j ≤ i ∧ t = .int .i64 j ∧ vo = .slice aa la ca ∧ Hid ((VF.lst V f).length = la) ∧
        Hid (OwnL wr w4.heap.size (.slice aa la ca) (VF.lst V f)) ∧ Hid (LagTo V xs ys i j f) ∧ Hid (Below w4.heap.size w4 wr) ∧ Hid (Box wr w.heap.size p pw g)) (fun _ t _ => (i - intOf t).toNat)
      case atStart => exact ⟨0, 0, 0, _, 0, by omega, rfl, rfl, Lib.hid (by rw [(VF.lst_nil PS.isPoly_zero).2 rfl]; rfl), HOA0, Lib.hid (LagTo.start xs ys i), HB0, HX0⟩
      case round =>
        obtain ⟨j, la, ca, aa, f, hj, rfl, rfl, hla, hoa, hlag, hbel, hbox⟩ := hrel
        clear HOA0 HB0 HX0
        by_cases hlt2 : j < i
        · obtain ⟨wo, rfl⟩ : ∃ wo : World, wo = wr := ⟨_, rfl⟩
          have HOT0 := Lib.hid (show OwnL (wo.alloc (.cells #[.int .i64 1] 2)) wo.heap.size (.slice (some ⟨wo.heap.size, 0, none⟩) 1 1) (VF.lst V 1) by
            rw [lst_one]; exact OwnL.lit1 _ _ (Nat.le_refl _) _ rfl _ rfl)
          have HBT0 := Lib.hid (below1 wo (.cells #[.int .i64 1] 2))
          have HXT0 := Lib.hid (hbox.out.below (below1 wo (.cells #[.int .i64 1] 2)) hbox.out.lt)
          go_wp2_with fail
          go_loopw [12, 13, 14] (fun vt vu tk wr => ∃ (k lt ct : Nat) (at' : Option Addr) (t : PS (El V)) (u : Int), k ≤ i ∧ tk = .int .i64 k ∧ vt = .slice at' lt ct ∧ vu = .int .i64 u ∧ Hid (V.F.el u) ∧ Hid ((VF.lst V t).length = lt) ∧
            Hid (OwnL wr wo.heap.size (.slice at' lt ct) (VF.lst V t)) ∧ Hid (Lagr V xs j k t (VF.of V u)) ∧ Hid (Below wo.heap.size wo wr) ∧ Hid (Box wr w.heap.size p pw g)) (fun _ _ t _ => (i - intOf t).toNat)
          case atStart => exact ⟨0, 1, 1, _, 1, 1, by omega, rfl, rfl, rfl, Lib.hid (FF.one_el V.ok), Lib.hid (by rw [lst_one]; rfl), HOT0, Lib.hid (by rw [VF.of_one]; exact Lagr.start xs j), HBT0, HXT0⟩
          case round =>
            obtain ⟨k, lt, ct, at', t, u, hk, rfl, rfl, rfl, hue, hlt', hot, hlr, hbt, hbox2⟩ := hrel
            clear HOT0 HBT0 HXT0
            have HBW := Lib.hid (HB4.out.trans ((hbel.out.trans (hbt.out.mono hbel.out.size)).mono HB4.out.size))
            have htl : (VF.lst V t).length ≤ i + 1 := Nat.le_trans (VF.lst_len hlr.out.dlt) (by split <;> omega)
            rw [hlt'.out] at htl
            by_cases hlt3 : k < i
            · by_cases hkj : k = j
              · subst hkj
                have hkj' : ((k : Int) != (k : Int)) = false := by simp
                have HSK := Lib.hid hlr.out.skip
                go_wp2_with fail
                go_roundw
                case rel => exact ⟨k + 1, lt, ct, at', t, u, by omega, by go_num, rfl, rfl, hue, hlt', hot, HSK, hbt, hbox2⟩
                case measure => simp [intOf]; omega
              · have hkj' : ((k : Int) != (j : Int)) = true := by simp; omega
                have HBO := Lib.hid (HBW.out)
                obtain ⟨b1, o1, rfl, _, hcs⟩ := (HR.out.below' HBW.out).at' (by omega)
                have hck := hcs k hlt3
                have hke : V.F.el (gi xs k) := HEX.out.getD k
                have hje : V.F.el (gi xs j) := HEX.out.getD j
                have hne := FF.neg_el (F := V.F) hke
                have HN := Lib.hid (fun W => HSF.out.neg (gi xs k) hke W)
                have HNX := Lib.hid (lagr_next HEX.out hlr.out)
                have HST := Lib.hid (hlr.out.step HEX.out hap.out hlt2 hlt3 hkj)
                have he2 := els_lin (V := V) hke
                have hels := (VF.lst_isP hlr.out.poly).els
                obtain ⟨_, _, ea, -, hra⟩ := hot.out.shape
                simp only [Value.slice.injEq] at ea
                obtain ⟨rfl, -, -⟩ := ea
                rw [hlt'.out] at hra
                have HRA := Lib.hid hra.row
                have HT := Lib.hid (fun W (hb : Below wr.heap.size wr W) => HSF.out.lmul (cap := ct) (cap' := 2) ((HRA.out.below' hb).below' (below1 W (.cells #[.int .i64 (V.F.neg (gi xs k)), .int .i64 1] 2))) (by omega) (row_two W (V.F.neg (gi xs k)) 1 2 _ rfl) (by omega) hels he2)
                rw [HNX.out] at HT
                have hae := FF.add_el V.ok hje hne
                have HAD := Lib.hid (fun W => HSF.out.add (gi xs j) (V.F.neg (gi xs k)) hje hne W)
                have HMU := Lib.hid (fun W => HSF.out.mul u (V.F.add (gi xs j) (V.F.neg (gi xs k))) hue.out hae W)
                obtain ⟨u2, hu2⟩ : ∃ x, V.F.mul u (V.F.add (gi xs j) (V.F.neg (gi xs k))) = x := ⟨_, rfl⟩
                have HU2E := Lib.hid (show V.F.el u2 by rw [← hu2]; exact FF.mul_el V.ok _ _)
                have HST2 := Lib.hid (show Lagr V xs j (k + 1) (t * (PS.X - PS.C (pt V xs k))) (VF.of V u2) by
                  have e : VF.of V u2 = VF.of V u * (pt V xs j + - pt V xs k) := by
                    rw [← hu2, VF.of_mul hue.out hae, VF.of_add hje hne, VF.of_neg hke]; rfl
                  rw [e]; exact HST.out)
                rw [hu2] at HMU
                have HPO := Lib.hid (show (t * (PS.X - PS.C (pt V xs k)) : PS (El V)).IsPoly from hlr.out.poly.mul (PS.isPoly_lin _))
                obtain ⟨_, c0, c1, c2⟩ := hbox2.out
                clear hcs hra hels he2 hu2 hae hne hje HST
                generalize t * (PS.X - PS.C (pt V xs k)) = t2 at *
                generalize V.F.add (gi xs j) (V.F.neg (gi xs k)) = d1 at *
                generalize V.F.neg (gi xs k) = m1 at *
                go_wp2_with fail
                go_region_held3 (fun w' => w'.cell? ⟨b1, o1 + k, none⟩ = some (.int .i64 (gi xs k)) ∧ w'.cell? ⟨w.heap.size, 0, none⟩ = some (.int .i64 p) ∧ w'.cell? ⟨w.heap.size, 1, none⟩ = some (.int .i64 pw) ∧ w'.cell? ⟨w.heap.size, 2, none⟩ = some (.int .i64 g))
                  (first | go_keep | ((try (dsimp only)); go_split_ands; (repeat' apply And.intro); all_goals (first | go_keep | exact keep_cell hbT (by assumption) | exact keep_cell hbN (by assumption))))
                  (first | (go_at_call 93; refine (HN.out _).mono ?_; rintro e w5 ⟨rfl, hbN⟩) | (go_at_call 68; refine (HT.out w5 (Below.trans (Drew.below (drew1 wr) wr.heap.size) hbN)).mono ?_; rintro e w6 ⟨v, rfl, hbT, hoT⟩))
                have hb4 := Below.trans (Drew.below (drew1 wr) wr.heap.size) hbN
                have hb6 := Below.more (hb4.trans ((below1 w5 (.cells #[.int .i64 m1, .int .i64 1] 2)).mono hb4.size)) (Nat.le_refl _) hbT
                have HB6 := Lib.hid hb6
                have HX6 := Lib.hid (hbox2.out.below hb6 hbox2.out.lt)
                have hs6 : wo.heap.size ≤ (w5.alloc (.cells #[.int .i64 m1, .int .i64 1] 2)).heap.size := by have h1 := hb4.size; have h2 := hbt.out.size; simp; omega
                obtain ⟨a6, c6, rfl, -, -, -⟩ := hoT.cap
                have HO6 := Lib.hid (hoT.lower hs6)
                clear hbN hbT hoT hb4 hb6 hs6 c0 c1 c2 hck HT
                obtain ⟨b1, o1, e1, _, hcs⟩ := ((HR.out.below' HBW.out).below' HB6.out).at' (by omega)
                simp only [Option.some.injEq, Addr.mk.injEq] at e1
                obtain ⟨rfl, rfl, -⟩ := e1
                have hck := hcs k hlt3
                have hcj := hcs j hlt2
                obtain ⟨_, c0, c1, c2⟩ := HX6.out
                clear hcs
                go_wp2_with fail
                go_region_held3 (fun w' => w'.cell? ⟨b1, o1 + k, none⟩ = some (.int .i64 (gi xs k)) ∧ w'.cell? ⟨b1, o1 + j, none⟩ = some (.int .i64 (gi xs j)) ∧ w'.cell? ⟨w.heap.size, 0, none⟩ = some (.int .i64 p) ∧ w'.cell? ⟨w.heap.size, 1, none⟩ = some (.int .i64 pw) ∧ w'.cell? ⟨w.heap.size, 2, none⟩ = some (.int .i64 g))
                  (first | go_keep | ((try (dsimp only)); go_split_ands; (repeat' apply And.intro); all_goals (first | go_keep | exact keep_cell hbM (by assumption) | exact keep_cell hbA (by assumption) | exact keep_cell hbN (by assumption))))
                  (first | (go_at_call 93; refine (HN.out _).mono ?_; rintro e w7 ⟨rfl, hbN⟩) | (go_at_call 117; refine (HAD.out _).mono ?_; rintro e w8 ⟨rfl, hbA⟩) | (go_at_call 116; refine (HMU.out _).mono ?_; rintro e w9 ⟨rfl, hbM⟩))
                have hb9 := Below.more (Below.more (Below.trans (Drew.below (drew1 w6) w6.heap.size) hbN) (Nat.le_refl _) hbA) (Nat.le_refl _) hbM
                have hb69 := HB6.out.trans (hb9.mono HB6.out.size)
                have HB9 := Lib.hid (hbt.out.trans (hb69.mono hbt.out.size))
                have HX9 := Lib.hid (HX6.out.below hb9 HX6.out.lt)
                have HO9 := Lib.hid (HO6.out.below hb9)
                clear hbN hbA hbM hb9 hb69 c0 c1 c2 hck hcj
                go_wp2_with fail
                go_roundw
                case rel => exact ⟨k + 1, _, _, _, t2, u2, by omega, by go_num, rfl, rfl, HU2E, Lib.hid rfl, HO9, HST2, HB9, HX9⟩
                case measure => simp [intOf]; omega
            · obtain rfl : k = i := by omega
              have hye : V.F.el (gi ys j) := HEY.out.getD j
              have hu0 : u ≠ 0 := fun e => hlr.out.ne (by rw [e]; exact VF.of_zero)
              have hie := FF.inv_el V.ok u
              have HBO := Lib.hid (hbel.out.trans (hbt.out.mono hbel.out.size))
              obtain ⟨b1, o1, rfl, _, hcs⟩ := (HR'.out.below' HBW.out).at' (by omega)
              have hcj := hcs j hlt2
              have HI := Lib.hid (fun W => HSF.out.inv u hue.out hu0 W)
              have HM := Lib.hid (fun W => HSF.out.mul (gi ys j) (V.F.inv u) hye hie W)
              obtain ⟨s, hs⟩ : ∃ x, V.F.mul (gi ys j) (V.F.inv u) = x := ⟨_, rfl⟩
              have hse : V.F.el s := by rw [← hs]; exact FF.mul_el V.ok _ _
              have HSTEP := Lib.hid (hlag.out.step (s := VF.of V s) hlt2 hlr.out (by
                show VF.of V s * VF.of V u = VF.of V (gi ys j)
                rw [← hs, VF.of_mul hye hie]
                have := VF.of_inv hue.out hu0
                grind))
              rw [hs] at HM
              have HTR := Lib.hid (trim_one hse)
              have hfp : f.IsPoly := ⟨_, hlag.out.dlt⟩
              have HLN := Lib.hid (lag_next hfp hlr.out.poly (VF.of V s))
              have HDT := Lib.hid (show (VF.lst V t).length ≤ k by have := hlr.out.dlt; rw [if_neg (by omega)] at this; exact VF.lst_len this)
              have HDF := Lib.hid (show (VF.lst V f).length ≤ k from VF.lst_len hlag.out.dlt)
              have hprod := VF.lst_mul_len (V := V) (VF.lst V t) (VF.lst V (PS.C (VF.of V s)))
              have hcl : (VF.lst V (PS.C (VF.of V s))).length ≤ 1 := VF.lst_len (PS.dlt_C _)
              have HCE := Lib.hid (VF.lst_isP (V := V) (PS.isPoly_C (VF.of V s))).els
              have HPE := Lib.hid (VF.lst_isP (V := V) (VF.mulL (V := V) (p := VF.lst V t) (q := VF.lst V (PS.C (VF.of V s))))).els
              have HTE := Lib.hid (VF.lst_isP (V := V) hlr.out.poly).els
              have HFE := Lib.hid (VF.lst_isP (V := V) hfp).els
              obtain ⟨_, _, ea, -, hrt⟩ := hot.out.shape
              simp only [Value.slice.injEq] at ea
              obtain ⟨rfl, -, -⟩ := ea
              rw [hlt'.out] at hrt hprod HDT
              have HRT := Lib.hid hrt.row
              obtain ⟨_, _, ea, -, hrf⟩ := (hoa.out.below hbt.out).shape
              simp only [Value.slice.injEq] at ea
              obtain ⟨rfl, -, -⟩ := ea
              rw [hla.out] at hrf HDF
              have HRF := Lib.hid hrf.row
              obtain ⟨_, c0, c1, c2⟩ := hbox2.out
              clear hcs hs hrt hrf hfp hie hu0
              generalize V.F.inv u = iu at *
              go_wp2_with fail
              go_region_held3 (fun w' => w'.cell? ⟨b1, o1 + j, none⟩ = some (.int .i64 (gi ys j)) ∧ w'.cell? ⟨w.heap.size, 0, none⟩ = some (.int .i64 p) ∧ w'.cell? ⟨w.heap.size, 1, none⟩ = some (.int .i64 pw) ∧ w'.cell? ⟨w.heap.size, 2, none⟩ = some (.int .i64 g))
                (first | go_keep | ((try (dsimp only)); go_split_ands; (repeat' apply And.intro); all_goals (first | go_keep | exact keep_cell hbM (by assumption) | exact keep_cell hbI (by assumption))))
                (first | (go_at_call 106; refine (HI.out _).mono ?_; rintro e w5 ⟨rfl, hbI⟩) | (go_at_call 116; refine (HM.out _).mono ?_; rintro e w6 ⟨rfl, hbM⟩))
              have hb6 := Below.more (Below.trans (Drew.below (drew1 wr) wr.heap.size) hbI) (Nat.le_refl _) hbM
              have HB6 := Lib.hid hb6
              have HX6 := Lib.hid (hbox2.out.below hb6 hbox2.out.lt)
              have HRT6 := Lib.hid (HRT.out.below' hb6)
              have HRF6 := Lib.hid (HRF.out.below' hb6)
              clear hbI hbM hb6 c0 c1 c2 hcj HI HM
              have HTRI := Lib.hid (fun W (bx : Nat) (h : RowAt W (some ⟨bx, 0, none⟩) 1 [s]) => l03Trim_any h (cap := 1) (by omega) (fun h => by cases h) (by omega))
              have HDW := Lib.hid (show Below w6.heap.size w6 (w6.alloc (.cells #[.int .i64 s] 2)).drew from (below1 w6 (.cells #[.int .i64 s] 2)).trans (Drew.below (drew1 _) _))
              have HRW := Lib.hid (show RowAt (w6.alloc (.cells #[.int .i64 s] 2)).drew (some ⟨w6.heap.size, 0, none⟩) 1 [s] from (row_one w6 s 2 _ rfl).below' (Drew.below (drew1 _) _))
              rw [HTR.out] at HTRI
              generalize VF.lst V (PS.C (VF.of V s)) = zc at *
              have HMU := Lib.hid (fun W (hb : Below w6.heap.size w6 W) (a7 : Option Addr) (c7 : Nat) (hr7 : RowAt W a7 zc.length zc) => HSF.out.lmul (cap := ct) (cap' := c7) (HRT6.out.below' hb) (by omega) hr7 (by omega) HTE.out HCE.out)
              generalize VF.lst V (VF.ps V (VF.lst V t) * VF.ps V zc) = zp at *
              have HAD := Lib.hid (fun W (hb : Below w6.heap.size w6 W) (a8 : Option Addr) (c8 : Nat) (hr8 : RowAt W a8 zp.length zp) => HSF.out.ladd (cap := ca) (cap' := c8) (HRF6.out.below' hb) (by have := HDF.out; omega) hr8 (by have := HDT.out; omega) HFE.out HPE.out)
              rw [HLN.out] at HAD
              obtain ⟨_, c0, c1, c2⟩ := HX6.out
              go_wp2_with fail
              go_region_held3 (fun w' => w'.cell? ⟨w.heap.size, 0, none⟩ = some (.int .i64 p) ∧ w'.cell? ⟨w.heap.size, 1, none⟩ = some (.int .i64 pw) ∧ w'.cell? ⟨w.heap.size, 2, none⟩ = some (.int .i64 g))
                (first | go_keep | ((try (dsimp only)); go_split_ands; (repeat' apply And.intro); all_goals (first | go_keep | exact keep_cell hbA (by assumption) | exact keep_cell hbM (by assumption) | exact keep_cell hbT (by assumption))))
                (first | (go_at_call 119; refine (HTRI.out _ _ HRW.out).mono ?_; rintro e w7 ⟨v7, rfl, hbT, hoT⟩; have hb7 := Below.more HDW.out (Nat.le_refl _) hbT; obtain ⟨a7, c7, rfl, -, hr7⟩ := hoT.shape) | (go_at_call 68; refine (HMU.out w7 hb7 a7 c7 hr7.row).mono ?_; rintro e w8 ⟨v8, rfl, hbM, hoM⟩; obtain ⟨a8, c8, rfl, -, hr8⟩ := hoM.shape; have hb8 := Below.more hb7 (Nat.le_refl _) hbM) | (go_at_call 118; refine (HAD.out w8 hb8 a8 c8 hr8.row).mono ?_; rintro e w9 ⟨v9, rfl, hbA, hoA⟩))
              have hb9 := Below.more hb8 (Nat.le_refl _) hbA
              have hb69 := HB6.out.trans (hb9.mono HB6.out.size)
              have HB9 := Lib.hid (HBO.out.trans (hb69.mono HBO.out.size))
              have HX9 := Lib.hid (HX6.out.below hb9 HX6.out.lt)
              obtain ⟨a9, c9, rfl, -, -⟩ := hoA.shape
              have HO9 := Lib.hid (hoA.lower (C := w4.heap.size) (by have h1 := hb8.size; have h2 := HB6.out.size; have h3 := HBO.out.size; omega))
              clear hbT hbA hbM hb7 hb8 hb9 hb69 hoT hoM hoA hr7 hr8 c0 c1 c2
              go_wp2_with fail
              go_roundw
              case rel => exact ⟨j + 1, _, _, _, _, by omega, by go_num, rfl, Lib.hid rfl, HO9, HSTEP, HB9, HX9⟩
              case measure => simp [intOf]; omega
        · obtain rfl : j = i := by omega
          have hfl := fitL_of (ys := ys) HEX.out (by rw [hl.out]; exact hap.out) (by rw [hl.out]; exact hlag.out.fit)
          obtain ⟨f0, f1⟩ := fit_ok (xs := xs) (ys := ys) HV.out (by rw [hl.out]; exact hlong) ⟨HX.out, HY.out⟩ (by rw [hl.out, hl'.out]) (by rw [hl.out]; exact hap.out)
          have hf0 := Lib.hid f0
          have hf1 := Lib.hid (show fitR p pw g xs ys = VF.lst V f by rw [f1, ← HVV.out, hfl])
          have HOF := Lib.hid (show ResL w wr (.slice aa la ca) (fitR p pw g xs ys) by rw [hf1.out]; exact hoa.out.res HB4.out.size)
          have HBE := Lib.hid (HB4.out.trans (hbel.out.mono HB4.out.size))
          clear f0 f1 hfl
          go_wp2_with fail
          go_ret2
          exact ⟨_, by rw [hf0.out]; rfl, HBE.out, HOF.out⟩
end Go.Proofs.Ytnhpdenneplapaa
