/-
  Correction: CorrectWord and CorrectByRegister.
-/
import Derived.Test.YthbiieflmmnfcaaCorW
namespace Go.Proofs.Ythbiieflmmnfcaa
open Go.RowKit
set_option linter.unusedVariables false
set_option maxHeartbeats 2000000 in
set_option maxRecDepth 20000 in
theorem implCorrectWord_any (p pw g l c : Int) (w : World) {a : Option Addr} {n cap : Nat} {zs : List Int} (hr : RowAt w a n zs) (hca : a = none → cap = 0) {a' : Option Addr} {n' cap' : Nat} {E : List Int} (hr' : RowAt w a' n' E) (hcap' : n' ≤ cap') (hca' : a' = none → cap' = 0) :
    Calls Try.prog 65 #[cV p pw g l c, .slice a n cap, .slice a' n' cap'] w fun e w' => ∃ v v2, e = .returned (.tuple #[v, v2, .int .i64 (crC p pw g l c zs E)]) ∧ Below w.heap.size w w' ∧ TwoL w w' v2 v (crD p pw g l c zs E) (crO p pw g l c zs E) := by
  have HR := Lib.hid hr
  have HR' := Lib.hid hr'
  have HCA := Lib.hid hca
  have HCA' := Lib.hid hca'
  have hl := Lib.hid hr.len
  have hl' := Lib.hid hr'.len
  have HB0 := Lib.hid (below1 w (.cells #[.int .i64 p, .int .i64 pw, .int .i64 g, .int .i64 l, .int .i64 c] CT))
  have HD := Lib.hid (damaged_any p pw g l c _ (cap := cap) (hr.below' HB0.out) (cap' := cap') (hr'.below' HB0.out))
  clear hr hr' hca hca'
  go_enter Try.func65, Try.ntmps65
  go_wp2_with fail
  refine HD.out.mono ?_
  rintro e w1 ⟨v, rfl, hb1, hcal⟩
  have HB := Lib.hid (HB0.out.trans (hb1.mono HB0.out.size))
  have HCAL := Lib.hid hcal
  clear hb1 hcal HD HB0
  by_cases hc : dmC p pw g l c [zs] E = 0
  rotate_left
  · have hcn : (dmC p pw g l c [zs] E != 0) = true := by simp [hc]
    obtain ⟨f0, f1, f2⟩ := cr_bad hc
    have hf0 := Lib.hid f0
    have hf1 := Lib.hid f1
    have hf2 := Lib.hid f2
    clear f0 f1 f2 hc
    generalize dmC p pw g l c [zs] E = cc at *
    go_wp2_with fail
    go_ret3
    exact ⟨_, _, by rw [hf0.out]; rfl, HB.out, by rw [hf1.out, hf2.out]; exact TwoL.none HB.out⟩
  have hcn : (dmC p pw g l c [zs] E != 0) = false := by simp [hc]
  obtain ⟨b, rfl, hbb, hcod⟩ := HCAL.out hc
  obtain ⟨V, L, hs, rfl, hz, hwl, hris, hyes, hno⟩ := cr_V hc
  have HYES := Lib.hid hyes
  have HNO := Lib.hid hno
  obtain ⟨_, hc1, hc2, hcl, hl1, hlz⟩ := validC_iff hs.valid
  obtain ⟨C, rfl⟩ : ∃ C : Nat, c = (C : Int) := ⟨c.toNat, by omega⟩
  simp only [Int.toNat_natCast] at HYES HNO
  rw [hl.out] at hwl
  rw [hl'.out] at hris
  have HZ := Lib.hid hz
  have HSL := Lib.hid (syn_length V.F zs C)
  have HSE := Lib.hid (show VF.els V (syn V.F zs C) from fun z hz => by
    obtain ⟨j, hj, rfl⟩ := mem_gi hz
    rw [syn_length] at hj
    rw [syn_gi _ _ hj]
    exact svTo_el V.ok HZ.out _ _)
  have HLV := Lib.hid (show (L : Int) < V.F.size by rw [hs.sf.hV]; exact hlz)
  have HRE := Lib.hid (show RisTo 0 ((L : Int) - 1) E E.length by rw [hl'.out]; exact hris)
  have HW := Lib.hid (show zs.length = L by rw [hl.out]; exact hwl)
  have HCO := Lib.hid (correct_any hs hcod (cap := cap) (HR.out.below' HB.out) HCA.out hz hwl (cap' := cap') (HR'.out.below' HB.out) hcap' HCA'.out hris 134 callFunc_e (fun W hb hlim a2 hr2 => by
    simp only [Int.toNat_natCast] at hlim hr2 ⊢
    refine (euclid_any hs (hcod.below hb) (cap := C) hr2 (Nat.le_refl _) HSE.out rfl (cap' := cap') ((HR'.out.below' HB.out).below' hb) hris hlim).mono ?_
    rintro e W' ⟨v, rfl, hbe, xs, ho, hok⟩
    exact ⟨v, rfl, hbe, _, ho, euc_fok HLV.out (by omega) HZ.out HW.out HRE.out hok⟩))
  simp only [Int.toNat_natCast] at HCO
  clear hz hris hc hcod hyes hno hwl HCAL hlz hc1 hc2 hcl hl1
  generalize dmC p pw g (L : Int) (C : Int) [zs] E = cc at *
  go_wp2_with fail
  with_reducible refine HCO.out.mono ?_
  rintro e w2 ⟨v1, v2, rfl, hb2, ys, ys2, htw, heq⟩
  have HB2 := Lib.hid (HB.out.trans (hb2.mono HB.out.size))
  have HTW := Lib.hid (htw.lowerW (w := w) HB.out.size)
  have HEQ := Lib.hid heq
  clear htw heq hb2 HCO
  cases hf : fixB V L C zs E
  · obtain ⟨f0, f1, f2⟩ := HNO.out hf
    have hf0 := Lib.hid f0
    have hf1 := Lib.hid f1
    have hf2 := Lib.hid f2
    clear f0 f1 f2 hf
    go_wp2_with fail
    go_ret3
    exact ⟨_, _, by rw [hf0.out]; rfl, HB2.out, by rw [hf1.out, hf2.out]; exact TwoL.none HB2.out⟩
  · obtain ⟨f0, f1, f2⟩ := HYES.out hf
    obtain ⟨e1, e2⟩ := HEQ.out hf
    have hf0 := Lib.hid f0
    have HT := Lib.hid (show TwoL w w2 v2 v1 (crD p pw g (L : Int) (C : Int) zs E) (crO p pw g (L : Int) (C : Int) zs E) by rw [f1, f2, ← e2, ← e1]; exact HTW.out)
    clear f0 f1 f2 hf e1 e2
    go_wp2_with fail
    go_ret3
    exact ⟨_, _, by rw [hf0.out]; rfl, HB2.out, HT.out⟩
set_option maxHeartbeats 2000000 in
set_option maxRecDepth 20000 in
theorem implCorrectByRegister_any (p pw g l c : Int) (w : World) {a : Option Addr} {n cap : Nat} {zs : List Int} (hr : RowAt w a n zs) (hca : a = none → cap = 0) {a' : Option Addr} {n' cap' : Nat} {E : List Int} (hr' : RowAt w a' n' E) (hcap' : n' ≤ cap') (hca' : a' = none → cap' = 0) :
    Calls Try.prog 63 #[cV p pw g l c, .slice a n cap, .slice a' n' cap'] w fun e w' => ∃ v v2, e = .returned (.tuple #[v, v2, .int .i64 (crC p pw g l c zs E)]) ∧ Below w.heap.size w w' ∧ TwoL w w' v2 v (crD p pw g l c zs E) (crO p pw g l c zs E) := by
  have HR := Lib.hid hr
  have HR' := Lib.hid hr'
  have HCA := Lib.hid hca
  have HCA' := Lib.hid hca'
  have hl := Lib.hid hr.len
  have hl' := Lib.hid hr'.len
  have HB0 := Lib.hid (below1 w (.cells #[.int .i64 p, .int .i64 pw, .int .i64 g, .int .i64 l, .int .i64 c] CT))
  have HD := Lib.hid (damaged_any p pw g l c _ (cap := cap) (hr.below' HB0.out) (cap' := cap') (hr'.below' HB0.out))
  clear hr hr' hca hca'
  go_enter Try.func63, Try.ntmps63
  go_wp2_with fail
  refine HD.out.mono ?_
  rintro e w1 ⟨v, rfl, hb1, hcal⟩
  have HB := Lib.hid (HB0.out.trans (hb1.mono HB0.out.size))
  have HCAL := Lib.hid hcal
  clear hb1 hcal HD HB0
  by_cases hc : dmC p pw g l c [zs] E = 0
  rotate_left
  · have hcn : (dmC p pw g l c [zs] E != 0) = true := by simp [hc]
    obtain ⟨f0, f1, f2⟩ := cr_bad hc
    have hf0 := Lib.hid f0
    have hf1 := Lib.hid f1
    have hf2 := Lib.hid f2
    clear f0 f1 f2 hc
    generalize dmC p pw g l c [zs] E = cc at *
    go_wp2_with fail
    go_ret3
    exact ⟨_, _, by rw [hf0.out]; rfl, HB.out, by rw [hf1.out, hf2.out]; exact TwoL.none HB.out⟩
  have hcn : (dmC p pw g l c [zs] E != 0) = false := by simp [hc]
  obtain ⟨b, rfl, hbb, hcod⟩ := HCAL.out hc
  obtain ⟨V, L, hs, rfl, hz, hwl, hris, hyes, hno⟩ := cr_V hc
  have HYES := Lib.hid hyes
  have HNO := Lib.hid hno
  obtain ⟨_, hc1, hc2, hcl, hl1, hlz⟩ := validC_iff hs.valid
  obtain ⟨C, rfl⟩ : ∃ C : Nat, c = (C : Int) := ⟨c.toNat, by omega⟩
  simp only [Int.toNat_natCast] at HYES HNO
  rw [hl.out] at hwl
  rw [hl'.out] at hris
  have HZ := Lib.hid hz
  have HSL := Lib.hid (syn_length V.F zs C)
  have HSE := Lib.hid (show VF.els V (syn V.F zs C) from fun z hz => by
    obtain ⟨j, hj, rfl⟩ := mem_gi hz
    rw [syn_length] at hj
    rw [syn_gi _ _ hj]
    exact svTo_el V.ok HZ.out _ _)
  have HLV := Lib.hid (show (L : Int) < V.F.size by rw [hs.sf.hV]; exact hlz)
  have HRE := Lib.hid (show RisTo 0 ((L : Int) - 1) E E.length by rw [hl'.out]; exact hris)
  have HW := Lib.hid (show zs.length = L by rw [hl.out]; exact hwl)
  have HCO := Lib.hid (correct_any hs hcod (cap := cap) (HR.out.below' HB.out) HCA.out hz hwl (cap' := cap') (HR'.out.below' HB.out) hcap' HCA'.out hris 129 callFunc_r (fun W hb hlim a2 hr2 => by
    simp only [Int.toNat_natCast] at hlim hr2 ⊢
    refine (berlekamp_any hs (hcod.below hb) (cap := C) hr2 (Nat.le_refl _) HSE.out rfl (cap' := cap') ((HR'.out.below' HB.out).below' hb) hris hlim).mono ?_
    rintro e W' ⟨v, rfl, hbe, ho⟩
    exact ⟨v, rfl, hbe, _, ho, ber_fok HLV.out (by omega) HZ.out HW.out HRE.out (by rw [hl'.out]; exact hlim)⟩))
  simp only [Int.toNat_natCast] at HCO
  clear hz hris hc hcod hyes hno hwl HCAL hlz hc1 hc2 hcl hl1
  generalize dmC p pw g (L : Int) (C : Int) [zs] E = cc at *
  go_wp2_with fail
  with_reducible refine HCO.out.mono ?_
  rintro e w2 ⟨v1, v2, rfl, hb2, ys, ys2, htw, heq⟩
  have HB2 := Lib.hid (HB.out.trans (hb2.mono HB.out.size))
  have HTW := Lib.hid (htw.lowerW (w := w) HB.out.size)
  have HEQ := Lib.hid heq
  clear htw heq hb2 HCO
  cases hf : fixB V L C zs E
  · obtain ⟨f0, f1, f2⟩ := HNO.out hf
    have hf0 := Lib.hid f0
    have hf1 := Lib.hid f1
    have hf2 := Lib.hid f2
    clear f0 f1 f2 hf
    go_wp2_with fail
    go_ret3
    exact ⟨_, _, by rw [hf0.out]; rfl, HB2.out, by rw [hf1.out, hf2.out]; exact TwoL.none HB2.out⟩
  · obtain ⟨f0, f1, f2⟩ := HYES.out hf
    obtain ⟨e1, e2⟩ := HEQ.out hf
    have hf0 := Lib.hid f0
    have HT := Lib.hid (show TwoL w w2 v2 v1 (crD p pw g (L : Int) (C : Int) zs E) (crO p pw g (L : Int) (C : Int) zs E) by rw [f1, f2, ← e2, ← e1]; exact HTW.out)
    clear f0 f1 f2 hf e1 e2
    go_wp2_with fail
    go_ret3
    exact ⟨_, _, by rw [hf0.out]; rfl, HB2.out, HT.out⟩
set_option maxHeartbeats 2000000 in
set_option maxRecDepth 20000 in
theorem specCorrectWord_any (p pw g l c : Int) (w : World) {a : Option Addr} {n cap : Nat} {zs : List Int} (hr : RowAt w a n zs) (hcap : n ≤ cap) (hca : a = none → cap = 0) {a' : Option Addr} {n' cap' : Nat} {E : List Int} (hr' : RowAt w a' n' E) (hcap' : n' ≤ cap') :
    Calls Try.prog 64 #[cV p pw g l c, .slice a n cap, .slice a' n' cap'] w fun e w' => ∃ v v2, e = .returned (.tuple #[v, v2, .int .i64 (crC p pw g l c zs E)]) ∧ Below w.heap.size w w' ∧ OwnL w' w.heap.size v (crO p pw g l c zs E) ∧ OwnL w' w.heap.size v2 (crD p pw g l c zs E) := by
  have HR := Lib.hid hr
  have HR' := Lib.hid hr'
  have HCA := Lib.hid hca
  have hl := Lib.hid hr.len
  have hl' := Lib.hid hr'.len
  have hrow := hr.below' (below1 w (.cells #[.int .i64 p, .int .i64 pw, .int .i64 g, .int .i64 l, .int .i64 c] CT))
  have HROWS := Lib.hid (rows_one _ T1' a n cap zs hrow (w.heap.size + 1) (by simp))
  have HB0 := Lib.hid ((below1 w (.cells #[.int .i64 p, .int .i64 pw, .int .i64 g, .int .i64 l, .int .i64 c] CT)).alloc (by simp) (.cells #[.slice a n cap] T1'))
  have HX0 := Lib.hid ((boxC_new w p pw g l c CT).below ((Below.refl _ _).alloc (Nat.le_refl _) (.cells #[.slice a n cap] T1')) (by simp))
  have HD := Lib.hid (l05Code_any p pw g l c _ (cap' := cap') (hr'.below' HB0.out) (cap := 1) HROWS.out)
  clear hr hr' hca hrow
  go_enter Try.func64, Try.ntmps64
  go_wp2_with fail
  refine HD.out.mono ?_
  rintro e w1 ⟨rfl, hb1⟩
  have HB := Lib.hid (HB0.out.trans (hb1.mono HB0.out.size))
  have HX1 := Lib.hid (HX0.out.below hb1 HX0.out.lt)
  clear hb1 HD HB0 HX0
  by_cases hc : dmC p pw g l c [zs] E = 0
  rotate_left
  · have hcn : (dmC p pw g l c [zs] E != 0) = true := by simp [hc]
    obtain ⟨f0, f1, f2⟩ := cr_bad hc
    have hf0 := Lib.hid f0
    have hf1 := Lib.hid f1
    have hf2 := Lib.hid f2
    clear f0 f1 f2 hc
    generalize dmC p pw g l c [zs] E = cc at *
    go_wp2_with fail
    go_ret3
    exact ⟨_, _, by rw [hf0.out]; rfl, HB.out, by rw [hf1.out]; exact OwnL.nil _ _ HB.out.size, by rw [hf2.out]; exact OwnL.nil _ _ HB.out.size⟩
  have hcn : (dmC p pw g l c [zs] E != 0) = false := by simp [hc]
  obtain ⟨V, L, hs, rfl, hz, hwl, hris, hyes, hno⟩ := cr_V hc
  have HYES := Lib.hid hyes
  have HNO := Lib.hid hno
  obtain ⟨_, hc1, hc2, hcl, hl1, hlz⟩ := validC_iff hs.valid
  obtain ⟨C, rfl⟩ : ∃ C : Nat, c = (C : Int) := ⟨c.toNat, by omega⟩
  simp only [Int.toNat_natCast] at HYES HNO
  rw [hl.out] at hwl
  rw [hl'.out] at hris
  have HCO := Lib.hid (l05Correct_any hs (HR.out.below' HB.out) hcap HCA.out hz hwl (HR'.out.below' HB.out) hcap' hris)
  simp only [Int.toNat_natCast] at HCO
  obtain ⟨_, c0, c1, c2, c3, c4⟩ := HX1.out
  clear hz hris hc hyes hno hwl hlz hc1 hc2 hcl hl1
  generalize dmC p pw g (L : Int) (C : Int) [zs] E = cc at *
  go_wp2_with fail
  with_reducible refine HCO.out.mono ?_
  rintro e w2 ⟨v1, v2, rfl, hb2, ys, ys2, htw, heq⟩
  have HB2 := Lib.hid (HB.out.trans (hb2.mono HB.out.size))
  have HTW := Lib.hid (show OwnL w2 w.heap.size v1 ys ∧ OwnL w2 w.heap.size v2 ys2 from ⟨htw.one.lower HB.out.size, htw.two.lower HB.out.size⟩)
  have HEQ := Lib.hid heq
  clear htw heq hb2 HCO c0 c1 c2 c3 c4
  cases hf : fixB V L C zs E
  · obtain ⟨f0, f1, f2⟩ := HNO.out hf
    have hf0 := Lib.hid f0
    have hf1 := Lib.hid f1
    have hf2 := Lib.hid f2
    clear f0 f1 f2 hf
    go_wp2_with fail
    go_ret3
    exact ⟨_, _, by rw [hf0.out]; rfl, HB2.out, by rw [hf1.out]; exact OwnL.nil _ _ HB2.out.size, by rw [hf2.out]; exact OwnL.nil _ _ HB2.out.size⟩
  · obtain ⟨f0, f1, f2⟩ := HYES.out hf
    obtain ⟨e1, e2⟩ := HEQ.out hf
    have hf0 := Lib.hid f0
    have HT := Lib.hid (show OwnL w2 w.heap.size v1 (crO p pw g (L : Int) (C : Int) zs E) ∧ OwnL w2 w.heap.size v2 (crD p pw g (L : Int) (C : Int) zs E) by rw [f1, f2, ← e2, ← e1]; exact HTW.out)
    clear f0 f1 f2 hf e1 e2
    go_wp2_with fail
    go_ret3
    exact ⟨_, _, by rw [hf0.out]; rfl, HB2.out, HT.out⟩
end Go.Proofs.Ythbiieflmmnfcaa
