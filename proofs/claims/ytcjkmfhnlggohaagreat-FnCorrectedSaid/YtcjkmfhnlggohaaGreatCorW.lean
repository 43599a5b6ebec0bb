/-
  The parts CorW, CorX, CorY.
-/
import Derived.Test.YtcjkmfhnlggohaaGreatCorI
import Derived.Test.YtcjkmfhnlggohaaGreatBer
import Derived.Test.YtcjkmfhnlggohaaGreatGcds
import Derived.Test.YtcjkmfhnlggohaaGreatSyndOf
/-
  Correction: the public functions of both programs.
-/
namespace Go.Proofs.YtcjkmfhnlggohaaGreat
open Go.RowKit
set_option linter.unusedVariables false

noncomputable def dmC (p pw g l c : Int) (L : List (List Int)) (E : List Int) : Int := if codeC p pw g l c L = 0 then (if risB 0 (l - 1) E = true then 0 else 5) else codeC p pw g l c L
noncomputable def crB (p pw g l c : Int) (W E : List Int) : Bool := decide (onC p pw g l c (fun V => if fixB V l.toNat c.toNat W E = true then [1] else []) = [1])
noncomputable def crC (p pw g l c : Int) (W E : List Int) : Int := if dmC p pw g l c [W] E = 0 then (if crB p pw g l c W E = true then 0 else 7) else dmC p pw g l c [W] E
noncomputable def crO (p pw g l c : Int) (W E : List Int) : List Int := if crC p pw g l c W E = 0 then onC p pw g l c (fun V => fixO V l.toNat c.toNat W E) else []
noncomputable def crD (p pw g l c : Int) (W E : List Int) : List Int := if crC p pw g l c W E = 0 then onC p pw g l c (fun V => difL W (fixO V l.toNat c.toNat W E) l.toNat) else []
section
variable {p pw g l c : Int} {L : List (List Int)} {W E : List Int}
theorem dmC_bad (h : ¬ codeC p pw g l c L = 0) : dmC p pw g l c L E = codeC p pw g l c L := by unfold dmC; rw [if_neg h]
theorem dmC_state (h : codeC p pw g l c L = 0) (h2 : risB 0 (l - 1) E = false) : dmC p pw g l c L E = 5 := by unfold dmC; rw [if_pos h, if_neg (by simp [h2])]
theorem dmC_ok (h : codeC p pw g l c L = 0) (h2 : risB 0 (l - 1) E = true) : dmC p pw g l c L E = 0 := by unfold dmC; rw [if_pos h, if_pos h2]
theorem dmC_zero (h : dmC p pw g l c L E = 0) : codeC p pw g l c L = 0 ∧ risB 0 (l - 1) E = true := by
  by_cases h1 : codeC p pw g l c L = 0
  · cases h2 : risB 0 (l - 1) E
    · rw [dmC_state h1 h2] at h; omega
    · exact ⟨h1, rfl⟩
  · rw [dmC_bad h1] at h; exact absurd h h1
theorem cr_bad (h : ¬ dmC p pw g l c [W] E = 0) : crC p pw g l c W E = dmC p pw g l c [W] E ∧ crO p pw g l c W E = [] ∧ crD p pw g l c W E = [] := by
  have h1 : crC p pw g l c W E = dmC p pw g l c [W] E := by unfold crC; rw [if_neg h]
  exact ⟨h1, by unfold crO; rw [if_neg (by rw [h1]; exact h)], by unfold crD; rw [if_neg (by rw [h1]; exact h)]⟩
theorem cr_V (h : dmC p pw g l c [W] E = 0) : ∃ (V : VF) (n : Nat), SC V p pw g l c ∧ l = (n : Int) ∧ VF.els V W ∧ W.length = n ∧ RisTo 0 (l - 1) E E.length ∧
    (fixB V n c.toNat W E = true → crC p pw g l c W E = 0 ∧ crO p pw g l c W E = fixO V n c.toNat W E ∧ crD p pw g l c W E = difL W (fixO V n c.toNat W E) n) ∧
    (fixB V n c.toNat W E = false → crC p pw g l c W E = 7 ∧ crO p pw g l c W E = [] ∧ crD p pw g l c W E = []) := by
  obtain ⟨h1, h2⟩ := dmC_zero h
  obtain ⟨hv, hw⟩ := codeC_zero h1
  obtain ⟨V, hs, hon⟩ := validC_V hv
  have hw := hw W (by simp)
  obtain ⟨_, hc1, hc2, hcl, hl1, _⟩ := validC_iff hv
  have hlen : (W.length : Int) = l ∧ allB (ffOf p pw g) W = true := by unfold wordB at hw; simpa using hw
  have hb : crB p pw g l c W E = fixB V l.toNat c.toNat W E := by
    unfold crB; rw [hon]
    cases fixB V l.toNat c.toNat W E <;> simp
  refine ⟨V, l.toNat, hs, by omega, (fun z hz => by rw [hs.sf.hV]; exact allB_iff.1 hlen.2 z hz), by omega, risB_iff h2, fun hf => ?_, fun hf => ?_⟩
  · have e : crC p pw g l c W E = 0 := by unfold crC; rw [if_pos h, if_pos (hb.trans hf)]
    exact ⟨e, by unfold crO; rw [if_pos e, hon], by unfold crD; rw [if_pos e, hon]⟩
  · have e : crC p pw g l c W E = 7 := by unfold crC; rw [if_pos h, if_neg (by rw [hb, hf]; simp)]
    exact ⟨e, by unfold crO; rw [if_neg (by rw [e]; omega)], by unfold crD; rw [if_neg (by rw [e]; omega)]⟩
theorem crO_len (p pw g l c : Int) (W E : List Int) : (crO p pw g l c W E).length ≤ 1048576 := by
  by_cases h : dmC p pw g l c [W] E = 0
  · obtain ⟨V, n, hs, rfl, _, _, _, hy, hn⟩ := cr_V h
    obtain ⟨_, _, _, _, hl1, _⟩ := validC_iff hs.valid
    cases hf : fixB V n c.toNat W E
    · rw [(hn hf).2.1]; simp
    · rw [(hy hf).2.1, (fix_spec hf).len]; omega
  · rw [(cr_bad h).2.1]; simp
theorem crD_len (p pw g l c : Int) (W E : List Int) : (crD p pw g l c W E).length ≤ 1048576 := by
  by_cases h : dmC p pw g l c [W] E = 0
  · obtain ⟨V, n, hs, rfl, _, _, _, hy, hn⟩ := cr_V h
    obtain ⟨_, _, _, _, hl1, _⟩ := validC_iff hs.valid
    cases hf : fixB V n c.toNat W E
    · rw [(hn hf).2.2]; simp
    · rw [(hy hf).2.2]
      have h1 : (difL W (fixO V n c.toNat W E) n).length ≤ n := filtL_length _ _
      omega
  · rw [(cr_bad h).2.2]; simp
end
theorem callFunc_e (args : Array Value) (W : World) : (callFunc 20 args).run Tryz.prog W = .ok (.enter 20 args) W := by kernel_rfl
theorem callFunc_r (args : Array Value) (W : World) : (callFunc 27 args).run Tryz.prog W = .ok (.enter 27 args) W := by kernel_rfl
theorem TwoL.none {w W : World} (h : Below w.heap.size w W) : TwoL w W (.slice none 0 0) (.slice none 0 0) [] [] := ⟨w.heap.size, OwnL.nil _ _ h.size, OwnL.nil _ _ h.size, Nat.le_refl _, fun k h => by cases h⟩
theorem TwoL.lowerW {w W w' : World} {v v2 : Value} {zs zs2 : List Int} (h : TwoL W w' v v2 zs zs2) (hb : w.heap.size ≤ W.heap.size) : TwoL w w' v v2 zs zs2 := by
  obtain ⟨mid, h1, h2, h3, h4⟩ := h
  exact ⟨mid, h1, h2.lower hb, by omega, h4⟩
set_option maxHeartbeats 1000000 in
theorem damaged_any (p pw g l c : Int) (w : World) {a : Option Addr} {n cap : Nat} {zs : List Int} (hr : RowAt w a n zs) {a' : Option Addr} {n' cap' : Nat} {E : List Int} (hr' : RowAt w a' n' E) :
    Calls Tryz.prog 18 #[cV p pw g l c, .slice a n cap, .slice a' n' cap'] w fun e w' => ∃ v, e = .returned (.tuple #[v, .int .i64 (dmC p pw g l c [zs] E)]) ∧ Below w.heap.size w w' ∧ (dmC p pw g l c [zs] E = 0 → ∃ b, v = .pointer (some ⟨b, 0, none⟩) ∧ w.heap.size ≤ b ∧ Cod w' b p pw g l c) := by
  have HR' := Lib.hid hr'
  have hrow := hr.below' (below1 w (.cells #[.int .i64 p, .int .i64 pw, .int .i64 g, .int .i64 l, .int .i64 c] CT))
  have HROWS := Lib.hid (rows_one _ T1' a n cap zs hrow (w.heap.size + 1) (by simp))
  clear hr hrow hr'
  go_enter Tryz.func18, Tryz.ntmps18
  go_wp2_with fail
  refine (words_any p pw g l c _ HROWS.out).mono ?_
  rintro e w1 ⟨v, rfl, hb1, hcal⟩
  have HB := Lib.hid (((below1 _ _).alloc (by simp) _).trans (hb1.mono (by simp; omega)))
  have HCAL := Lib.hid hcal
  clear hb1 hcal
  by_cases hc : codeC p pw g l c [zs] = 0
  rotate_left
  · have hcz : (codeC p pw g l c [zs] == 0) = false := by simp [hc]
    have hf := Lib.hid (dmC_bad (E := E) hc)
    have hne := Lib.hid hc
    clear hc
    generalize codeC p pw g l c [zs] = cc at *
    go_wp2_with fail
    go_ret2
    exact ⟨_, by rw [hf.out]; rfl, HB.out, fun h => by rw [hf.out] at h; exact absurd h hne.out⟩
  have hcz : (codeC p pw g l c [zs] == 0) = true := by simp [hc]
  obtain ⟨b, rfl, hbb, hcod⟩ := HCAL.out hc
  obtain ⟨hv, _⟩ := codeC_zero hc
  obtain ⟨_, hc1, hc2, hcl, hl1, _⟩ := validC_iff hv
  have HI := Lib.hid (isIndices_any hcod (by omega) hl1 (cap := cap') (HR'.out.below' HB.out))
  have HCOD := Lib.hid hcod
  have HC := Lib.hid hc
  have hbb' : w.heap.size ≤ b := by simp at hbb; omega
  clear hcod hcl hc1 hc2 hc
  cases hri : risB 0 (l - 1) E
  · have hf := Lib.hid (dmC_state HC.out hri)
    rw [hri] at HI
    clear hri
    generalize codeC p pw g l c [zs] = cc at *
    go_wp2_with fail
    refine HI.out.mono ?_
    rintro e w2 ⟨rfl, rfl⟩
    go_wp2_with fail
    go_ret2
    exact ⟨_, by rw [hf.out]; rfl, HB.out, fun h => by rw [hf.out] at h; omega⟩
  · have hf := Lib.hid (dmC_ok HC.out hri)
    rw [hri] at HI
    clear hri
    go_wp2_with fail
    refine HI.out.mono ?_
    rintro e w2 ⟨rfl, rfl⟩
    go_wp2_with fail
    go_ret2
    exact ⟨_, by rw [hf.out, HC.out]; rfl, HB.out, fun _ => ⟨b, rfl, hbb', HCOD.out⟩⟩
set_option maxHeartbeats 1000000 in
theorem l05Code_any (p pw g l c : Int) (w : World) {a' : Option Addr} {n' cap' : Nat} {E : List Int} (hr' : RowAt w a' n' E) {A : Option Addr} {m cap : Nat} {L : List (List Int)} (hrows : RowsAt w A m L) :
    Calls Tryz.prog 21 #[cV p pw g l c, .slice a' n' cap', .slice A m cap] w fun e w' => e = .returned (.int .i64 (dmC p pw g l c L E)) ∧ Below w.heap.size w w' := by
  have HR' := Lib.hid hr'
  have HROWS := Lib.hid (hrows.below (below1 w (.cells #[.int .i64 p, .int .i64 pw, .int .i64 g, .int .i64 l, .int .i64 c] CT)))
  have HX := Lib.hid (boxC_new w p pw g l c CT)
  have HB0 := Lib.hid (below1 w (.cells #[.int .i64 p, .int .i64 pw, .int .i64 g, .int .i64 l, .int .i64 c] CT))
  clear hr' hrows
  go_enter Tryz.func21, Tryz.ntmps21
  go_wp2_with fail
  refine (l04Code_any p pw g l c _ HROWS.out).mono ?_
  rintro e w1 ⟨rfl, hb1⟩
  have HB := Lib.hid (HB0.out.trans (hb1.mono HB0.out.size))
  have HX1 := Lib.hid (HX.out.below hb1 HX.out.lt)
  clear hb1
  by_cases hc : codeC p pw g l c L = 0
  rotate_left
  · have hcz : (codeC p pw g l c L == 0) = false := by simp [hc]
    have hf := Lib.hid (dmC_bad (E := E) hc)
    clear hc
    generalize codeC p pw g l c L = cc at *
    go_wp2_with fail
    go_ret
    exact ⟨by rw [hf.out]; rfl, HB.out⟩
  have hcz : (codeC p pw g l c L == 0) = true := by simp [hc]
  obtain ⟨hv, _⟩ := codeC_zero hc
  obtain ⟨_, hc1, hc2, hcl, hl1, _⟩ := validC_iff hv
  have HI := Lib.hid (l05Indices_any p pw g l c (by omega) hl1 (cap := cap') (HR'.out.below' HB.out))
  obtain ⟨_, c0, c1, c2, c3, c4⟩ := HX1.out
  have HC := Lib.hid hc
  clear hcl hc1 hc2 hc
  cases hri : risB 0 (l - 1) E
  · have hf := Lib.hid (dmC_state HC.out hri)
    rw [hri] at HI
    clear hri
    generalize codeC p pw g l c L = cc at *
    go_wp2_with fail
    refine HI.out.mono ?_
    rintro e w2 ⟨rfl, hb2⟩
    go_wp2_with fail
    go_ret
    exact ⟨by rw [hf.out]; rfl, HB.out.trans (hb2.mono HB.out.size)⟩
  · have hf := Lib.hid (dmC_ok HC.out hri)
    rw [hri] at HI
    clear hri
    go_wp2_with fail
    refine HI.out.mono ?_
    rintro e w2 ⟨rfl, hb2⟩
    go_wp2_with fail
    go_ret
    exact ⟨by rw [hf.out, HC.out]; rfl, HB.out.trans (hb2.mono HB.out.size)⟩
end Go.Proofs.YtcjkmfhnlggohaaGreat
/-
  Correction: CorrectWord and CorrectByRegister.
-/
namespace Go.Proofs.YtcjkmfhnlggohaaGreat
open Go.RowKit
set_option linter.unusedVariables false
set_option maxHeartbeats 2000000 in
set_option maxRecDepth 20000 in
theorem implCorrectWord_any (p pw g l c : Int) (w : World) {a : Option Addr} {n cap : Nat} {zs : List Int} (hr : RowAt w a n zs) (hca : a = none → cap = 0) {a' : Option Addr} {n' cap' : Nat} {E : List Int} (hr' : RowAt w a' n' E) (hcap' : n' ≤ cap') (hca' : a' = none → cap' = 0) :
    Calls Tryz.prog 7 #[cV p pw g l c, .slice a n cap, .slice a' n' cap'] w fun e w' => ∃ v v2, e = .returned (.tuple #[v, v2, .int .i64 (crC p pw g l c zs E)]) ∧ Below w.heap.size w w' ∧ TwoL w w' v2 v (crD p pw g l c zs E) (crO p pw g l c zs E) := by
  have HR := Lib.hid hr
  have HR' := Lib.hid hr'
  have HCA := Lib.hid hca
  have HCA' := Lib.hid hca'
  have hl := Lib.hid hr.len
  have hl' := Lib.hid hr'.len
  have HB0 := Lib.hid (below1 w (.cells #[.int .i64 p, .int .i64 pw, .int .i64 g, .int .i64 l, .int .i64 c] CT))
  have HD := Lib.hid (damaged_any p pw g l c _ (cap := cap) (hr.below' HB0.out) (cap' := cap') (hr'.below' HB0.out))
  clear hr hr' hca hca'
  go_enter Tryz.func7, Tryz.ntmps7
  go_wp2_with fail
  refine HD.out.mono ?_
  rintro e w1 ⟨v, rfl, hb1, hcal⟩
  have HB := Lib.hid (HB0.out.trans (hb1.mono HB0.out.size))
  have HCAL := Lib.hid hcal
  clear hb1 hcal HD HB0
  by_cases hc : dmC p pw g l c [zs] E = 0
  rotate_left
  · have hcn : (dmC p pw g l c [zs] E != 0) = true := by simp [hc]
    obtain ⟨f0, f1, f2⟩ := cr_bad hc
    have hf0 := Lib.hid f0
    have hf1 := Lib.hid f1
    have hf2 := Lib.hid f2
    clear f0 f1 f2 hc
    generalize dmC p pw g l c [zs] E = cc at *
    go_wp2_with fail
    go_ret3
    exact ⟨_, _, by rw [hf0.out]; rfl, HB.out, by rw [hf1.out, hf2.out]; exact TwoL.none HB.out⟩
  have hcn : (dmC p pw g l c [zs] E != 0) = false := by simp [hc]
  obtain ⟨b, rfl, hbb, hcod⟩ := HCAL.out hc
  obtain ⟨V, L, hs, rfl, hz, hwl, hris, hyes, hno⟩ := cr_V hc
  have HYES := Lib.hid hyes
  have HNO := Lib.hid hno
  obtain ⟨_, hc1, hc2, hcl, hl1, hlz⟩ := validC_iff hs.valid
  obtain ⟨C, rfl⟩ : ∃ C : Nat, c = (C : Int) := ⟨c.toNat, by omega⟩
  simp only [Int.toNat_natCast] at HYES HNO
  rw [hl.out] at hwl
  rw [hl'.out] at hris
  have HZ := Lib.hid hz
  have HSL := Lib.hid (syn_length V.F zs C)
  have HSE := Lib.hid (show VF.els V (syn V.F zs C) from fun z hz => by
    obtain ⟨j, hj, rfl⟩ := mem_gi hz
    rw [syn_length] at hj
    rw [syn_gi _ _ hj]
    exact svTo_el V.ok HZ.out _ _)
  have HLV := Lib.hid (show (L : Int) < V.F.size by rw [hs.sf.hV]; exact hlz)
  have HRE := Lib.hid (show RisTo 0 ((L : Int) - 1) E E.length by rw [hl'.out]; exact hris)
  have HW := Lib.hid (show zs.length = L by rw [hl.out]; exact hwl)
  have HCO := Lib.hid (correct_any hs hcod (cap := cap) (HR.out.below' HB.out) HCA.out hz hwl (cap' := cap') (HR'.out.below' HB.out) hcap' HCA'.out hris 20 callFunc_e (fun W hb hlim a2 hr2 => by
    simp only [Int.toNat_natCast] at hlim hr2 ⊢
    refine (euclid_any hs (hcod.below hb) (cap := C) hr2 (Nat.le_refl _) HSE.out rfl (cap' := cap') ((HR'.out.below' HB.out).below' hb) hris hlim).mono ?_
    rintro e W' ⟨v, rfl, hbe, xs, ho, hok⟩
    exact ⟨v, rfl, hbe, _, ho, euc_fok HLV.out (by omega) HZ.out HW.out HRE.out hok⟩))
  simp only [Int.toNat_natCast] at HCO
  clear hz hris hc hcod hyes hno hwl HCAL hlz hc1 hc2 hcl hl1
  generalize dmC p pw g (L : Int) (C : Int) [zs] E = cc at *
  go_wp2_with fail
  with_reducible refine HCO.out.mono ?_
  rintro e w2 ⟨v1, v2, rfl, hb2, ys, ys2, htw, heq⟩
  have HB2 := Lib.hid (HB.out.trans (hb2.mono HB.out.size))
  have HTW := Lib.hid (htw.lowerW (w := w) HB.out.size)
  have HEQ := Lib.hid heq
  clear htw heq hb2 HCO
  cases hf : fixB V L C zs E
  · obtain ⟨f0, f1, f2⟩ := HNO.out hf
    have hf0 := Lib.hid f0
    have hf1 := Lib.hid f1
    have hf2 := Lib.hid f2
    clear f0 f1 f2 hf
    go_wp2_with fail
    go_ret3
    exact ⟨_, _, by rw [hf0.out]; rfl, HB2.out, by rw [hf1.out, hf2.out]; exact TwoL.none HB2.out⟩
  · obtain ⟨f0, f1, f2⟩ := HYES.out hf
    obtain ⟨e1, e2⟩ := HEQ.out hf
    have hf0 := Lib.hid f0
    have HT := Lib.hid (show TwoL w w2 v2 v1 (crD p pw g (L : Int) (C : Int) zs E) (crO p pw g (L : Int) (C : Int) zs E) by rw [f1, f2, ← e2, ← e1]; exact HTW.out)
    clear f0 f1 f2 hf e1 e2
    go_wp2_with fail
    go_ret3
    exact ⟨_, _, by rw [hf0.out]; rfl, HB2.out, HT.out⟩
set_option maxHeartbeats 2000000 in
set_option maxRecDepth 20000 in
theorem implCorrectByRegister_any (p pw g l c : Int) (w : World) {a : Option Addr} {n cap : Nat} {zs : List Int} (hr : RowAt w a n zs) (hca : a = none → cap = 0) {a' : Option Addr} {n' cap' : Nat} {E : List Int} (hr' : RowAt w a' n' E) (hcap' : n' ≤ cap') (hca' : a' = none → cap' = 0) :
    Calls Tryz.prog 14 #[cV p pw g l c, .slice a n cap, .slice a' n' cap'] w fun e w' => ∃ v v2, e = .returned (.tuple #[v, v2, .int .i64 (crC p pw g l c zs E)]) ∧ Below w.heap.size w w' ∧ TwoL w w' v2 v (crD p pw g l c zs E) (crO p pw g l c zs E) := by
  have HR := Lib.hid hr
  have HR' := Lib.hid hr'
  have HCA := Lib.hid hca
  have HCA' := Lib.hid hca'
  have hl := Lib.hid hr.len
  have hl' := Lib.hid hr'.len
  have HB0 := Lib.hid (below1 w (.cells #[.int .i64 p, .int .i64 pw, .int .i64 g, .int .i64 l, .int .i64 c] CT))
  have HD := Lib.hid (damaged_any p pw g l c _ (cap := cap) (hr.below' HB0.out) (cap' := cap') (hr'.below' HB0.out))
  clear hr hr' hca hca'
  go_enter Tryz.func14, Tryz.ntmps14
  go_wp2_with fail
  refine HD.out.mono ?_
  rintro e w1 ⟨v, rfl, hb1, hcal⟩
  have HB := Lib.hid (HB0.out.trans (hb1.mono HB0.out.size))
  have HCAL := Lib.hid hcal
  clear hb1 hcal HD HB0
  by_cases hc : dmC p pw g l c [zs] E = 0
  rotate_left
  · have hcn : (dmC p pw g l c [zs] E != 0) = true := by simp [hc]
    obtain ⟨f0, f1, f2⟩ := cr_bad hc
    have hf0 := Lib.hid f0
    have hf1 := Lib.hid f1
    have hf2 := Lib.hid f2
    clear f0 f1 f2 hc
    generalize dmC p pw g l c [zs] E = cc at *
    go_wp2_with fail
    go_ret3
    exact ⟨_, _, by rw [hf0.out]; rfl, HB.out, by rw [hf1.out, hf2.out]; exact TwoL.none HB.out⟩
  have hcn : (dmC p pw g l c [zs] E != 0) = false := by simp [hc]
  obtain ⟨b, rfl, hbb, hcod⟩ := HCAL.out hc
  obtain ⟨V, L, hs, rfl, hz, hwl, hris, hyes, hno⟩ := cr_V hc
  have HYES := Lib.hid hyes
  have HNO := Lib.hid hno
  obtain ⟨_, hc1, hc2, hcl, hl1, hlz⟩ := validC_iff hs.valid
  obtain ⟨C, rfl⟩ : ∃ C : Nat, c = (C : Int) := ⟨c.toNat, by omega⟩
  simp only [Int.toNat_natCast] at HYES HNO
  rw [hl.out] at hwl
  rw [hl'.out] at hris
  have HZ := Lib.hid hz
  have HSL := Lib.hid (syn_length V.F zs C)
  have HSE := Lib.hid (show VF.els V (syn V.F zs C) from fun z hz => by
    obtain ⟨j, hj, rfl⟩ := mem_gi hz
    rw [syn_length] at hj
    rw [syn_gi _ _ hj]
    exact svTo_el V.ok HZ.out _ _)
  have HLV := Lib.hid (show (L : Int) < V.F.size by rw [hs.sf.hV]; exact hlz)
  have HRE := Lib.hid (show RisTo 0 ((L : Int) - 1) E E.length by rw [hl'.out]; exact hris)
  have HW := Lib.hid (show zs.length = L by rw [hl.out]; exact hwl)
  have HCO := Lib.hid (correct_any hs hcod (cap := cap) (HR.out.below' HB.out) HCA.out hz hwl (cap' := cap') (HR'.out.below' HB.out) hcap' HCA'.out hris 27 callFunc_r (fun W hb hlim a2 hr2 => by
    simp only [Int.toNat_natCast] at hlim hr2 ⊢
    refine (berlekamp_any hs (hcod.below hb) (cap := C) hr2 (Nat.le_refl _) HSE.out rfl (cap' := cap') ((HR'.out.below' HB.out).below' hb) hris hlim).mono ?_
    rintro e W' ⟨v, rfl, hbe, ho⟩
    exact ⟨v, rfl, hbe, _, ho, ber_fok HLV.out (by omega) HZ.out HW.out HRE.out (by rw [hl'.out]; exact hlim)⟩))
  simp only [Int.toNat_natCast] at HCO
  clear hz hris hc hcod hyes hno hwl HCAL hlz hc1 hc2 hcl hl1
  generalize dmC p pw g (L : Int) (C : Int) [zs] E = cc at *
  go_wp2_with fail
  with_reducible refine HCO.out.mono ?_
  rintro e w2 ⟨v1, v2, rfl, hb2, ys, ys2, htw, heq⟩
  have HB2 := Lib.hid (HB.out.trans (hb2.mono HB.out.size))
  have HTW := Lib.hid (htw.lowerW (w := w) HB.out.size)
  have HEQ := Lib.hid heq
  clear htw heq hb2 HCO
  cases hf : fixB V L C zs E
  · obtain ⟨f0, f1, f2⟩ := HNO.out hf
    have hf0 := Lib.hid f0
    have hf1 := Lib.hid f1
    have hf2 := Lib.hid f2
    clear f0 f1 f2 hf
    go_wp2_with fail
    go_ret3
    exact ⟨_, _, by rw [hf0.out]; rfl, HB2.out, by rw [hf1.out, hf2.out]; exact TwoL.none HB2.out⟩
  · obtain ⟨f0, f1, f2⟩ := HYES.out hf
    obtain ⟨e1, e2⟩ := HEQ.out hf
    have hf0 := Lib.hid f0
    have HT := Lib.hid (show TwoL w w2 v2 v1 (crD p pw g (L : Int) (C : Int) zs E) (crO p pw g (L : Int) (C : Int) zs E) by rw [f1, f2, ← e2, ← e1]; exact HTW.out)
    clear f0 f1 f2 hf e1 e2
    go_wp2_with fail
    go_ret3
    exact ⟨_, _, by rw [hf0.out]; rfl, HB2.out, HT.out⟩
set_option maxHeartbeats 2000000 in
set_option maxRecDepth 20000 in
theorem specCorrectWord_any (p pw g l c : Int) (w : World) {a : Option Addr} {n cap : Nat} {zs : List Int} (hr : RowAt w a n zs) (hcap : n ≤ cap) (hca : a = none → cap = 0) {a' : Option Addr} {n' cap' : Nat} {E : List Int} (hr' : RowAt w a' n' E) (hcap' : n' ≤ cap') :
    Calls Tryz.prog 8 #[cV p pw g l c, .slice a n cap, .slice a' n' cap'] w fun e w' => ∃ v v2, e = .returned (.tuple #[v, v2, .int .i64 (crC p pw g l c zs E)]) ∧ Below w.heap.size w w' ∧ OwnL w' w.heap.size v (crO p pw g l c zs E) ∧ OwnL w' w.heap.size v2 (crD p pw g l c zs E) := by
  have HR := Lib.hid hr
  have HR' := Lib.hid hr'
  have HCA := Lib.hid hca
  have hl := Lib.hid hr.len
  have hl' := Lib.hid hr'.len
  have hrow := hr.below' (below1 w (.cells #[.int .i64 p, .int .i64 pw, .int .i64 g, .int .i64 l, .int .i64 c] CT))
  have HROWS := Lib.hid (rows_one _ T1' a n cap zs hrow (w.heap.size + 1) (by simp))
  have HB0 := Lib.hid ((below1 w (.cells #[.int .i64 p, .int .i64 pw, .int .i64 g, .int .i64 l, .int .i64 c] CT)).alloc (by simp) (.cells #[.slice a n cap] T1'))
  have HX0 := Lib.hid ((boxC_new w p pw g l c CT).below ((Below.refl _ _).alloc (Nat.le_refl _) (.cells #[.slice a n cap] T1')) (by simp))
  have HD := Lib.hid (l05Code_any p pw g l c _ (cap' := cap') (hr'.below' HB0.out) (cap := 1) HROWS.out)
  clear hr hr' hca hrow
  go_enter Tryz.func8, Tryz.ntmps8
  go_wp2_with fail
  refine HD.out.mono ?_
  rintro e w1 ⟨rfl, hb1⟩
  have HB := Lib.hid (HB0.out.trans (hb1.mono HB0.out.size))
  have HX1 := Lib.hid (HX0.out.below hb1 HX0.out.lt)
  clear hb1 HD HB0 HX0
  by_cases hc : dmC p pw g l c [zs] E = 0
  rotate_left
  · have hcn : (dmC p pw g l c [zs] E != 0) = true := by simp [hc]
    obtain ⟨f0, f1, f2⟩ := cr_bad hc
    have hf0 := Lib.hid f0
    have hf1 := Lib.hid f1
    have hf2 := Lib.hid f2
    clear f0 f1 f2 hc
    generalize dmC p pw g l c [zs] E = cc at *
    go_wp2_with fail
    go_ret3
    exact ⟨_, _, by rw [hf0.out]; rfl, HB.out, by rw [hf1.out]; exact OwnL.nil _ _ HB.out.size, by rw [hf2.out]; exact OwnL.nil _ _ HB.out.size⟩
  have hcn : (dmC p pw g l c [zs] E != 0) = false := by simp [hc]
  obtain ⟨V, L, hs, rfl, hz, hwl, hris, hyes, hno⟩ := cr_V hc
  have HYES := Lib.hid hyes
  have HNO := Lib.hid hno
  obtain ⟨_, hc1, hc2, hcl, hl1, hlz⟩ := validC_iff hs.valid
  obtain ⟨C, rfl⟩ : ∃ C : Nat, c = (C : Int) := ⟨c.toNat, by omega⟩
  simp only [Int.toNat_natCast] at HYES HNO
  rw [hl.out] at hwl
  rw [hl'.out] at hris
  have HCO := Lib.hid (l05Correct_any hs (HR.out.below' HB.out) hcap HCA.out hz hwl (HR'.out.below' HB.out) hcap' hris)
  simp only [Int.toNat_natCast] at HCO
  obtain ⟨_, c0, c1, c2, c3, c4⟩ := HX1.out
  clear hz hris hc hyes hno hwl hlz hc1 hc2 hcl hl1
  generalize dmC p pw g (L : Int) (C : Int) [zs] E = cc at *
  go_wp2_with fail
  with_reducible refine HCO.out.mono ?_
  rintro e w2 ⟨v1, v2, rfl, hb2, ys, ys2, htw, heq⟩
  have HB2 := Lib.hid (HB.out.trans (hb2.mono HB.out.size))
  have HTW := Lib.hid (show OwnL w2 w.heap.size v1 ys ∧ OwnL w2 w.heap.size v2 ys2 from ⟨htw.one.lower HB.out.size, htw.two.lower HB.out.size⟩)
  have HEQ := Lib.hid heq
  clear htw heq hb2 HCO c0 c1 c2 c3 c4
  cases hf : fixB V L C zs E
  · obtain ⟨f0, f1, f2⟩ := HNO.out hf
    have hf0 := Lib.hid f0
    have hf1 := Lib.hid f1
    have hf2 := Lib.hid f2
    clear f0 f1 f2 hf
    go_wp2_with fail
    go_ret3
    exact ⟨_, _, by rw [hf0.out]; rfl, HB2.out, by rw [hf1.out]; exact OwnL.nil _ _ HB2.out.size, by rw [hf2.out]; exact OwnL.nil _ _ HB2.out.size⟩
  · obtain ⟨f0, f1, f2⟩ := HYES.out hf
    obtain ⟨e1, e2⟩ := HEQ.out hf
    have hf0 := Lib.hid f0
    have HT := Lib.hid (show OwnL w2 w.heap.size v1 (crO p pw g (L : Int) (C : Int) zs E) ∧ OwnL w2 w.heap.size v2 (crD p pw g (L : Int) (C : Int) zs E) by rw [f1, f2, ← e2, ← e1]; exact HTW.out)
    clear f0 f1 f2 hf e1 e2
    go_wp2_with fail
    go_ret3
    exact ⟨_, _, by rw [hf0.out]; rfl, HB2.out, HT.out⟩
end Go.Proofs.YtcjkmfhnlggohaaGreat
/-
  Correction: IsCorrectable, ErrorLocator, the reference's CorrectByRegister.
-/
namespace Go.Proofs.YtcjkmfhnlggohaaGreat
open Go.RowKit
set_option linter.unusedVariables false

theorem specCorrectByRegister_any (p pw g l c : Int) (w : World) {a : Option Addr} {n cap : Nat} {zs : List Int} (hr : RowAt w a n zs) (hcap : n ≤ cap) (hca : a = none → cap = 0) {a' : Option Addr} {n' cap' : Nat} {E : List Int} (hr' : RowAt w a' n' E) (hcap' : n' ≤ cap') :
    Calls Tryz.prog 15 #[cV p pw g l c, .slice a n cap, .slice a' n' cap'] w fun e w' => ∃ v v2, e = .returned (.tuple #[v, v2, .int .i64 (crC p pw g l c zs E)]) ∧ Below w.heap.size w w' ∧ OwnL w' w.heap.size v (crO p pw g l c zs E) ∧ OwnL w' w.heap.size v2 (crD p pw g l c zs E) := by
  have HB0 := Lib.hid (below1 w (.cells #[.int .i64 p, .int .i64 pw, .int .i64 g, .int .i64 l, .int .i64 c] CT))
  have HC := Lib.hid (specCorrectWord_any p pw g l c _ (hr.below' HB0.out) hcap hca (hr'.below' HB0.out) hcap')
  clear hr hr' hca
  go_enter Tryz.func15, Tryz.ntmps15
  go_wp2_with fail
  refine HC.out.mono ?_
  rintro e w1 ⟨v, v2, rfl, hb1, h1, h2⟩
  have HB := Lib.hid (HB0.out.trans (hb1.mono HB0.out.size))
  have H12 := Lib.hid (And.intro (h1.lower HB0.out.size) (h2.lower HB0.out.size))
  clear hb1 h1 h2
  go_wp2_with fail
  go_ret3
  exact ⟨_, _, rfl, HB.out, H12.out⟩
theorem implIsCorrectable_any (p pw g l c : Int) (w : World) {a : Option Addr} {n cap : Nat} {zs : List Int} (hr : RowAt w a n zs) (hca : a = none → cap = 0) {a' : Option Addr} {n' cap' : Nat} {E : List Int} (hr' : RowAt w a' n' E) (hcap' : n' ≤ cap') (hca' : a' = none → cap' = 0) :
    Calls Tryz.prog 10 #[cV p pw g l c, .slice a n cap, .slice a' n' cap'] w fun e w' => e = .returned (.bool (crC p pw g l c zs E == 0)) ∧ Below w.heap.size w w' := by
  have HB0 := Lib.hid (below1 w (.cells #[.int .i64 p, .int .i64 pw, .int .i64 g, .int .i64 l, .int .i64 c] CT))
  have HC := Lib.hid (implCorrectWord_any p pw g l c _ (cap := cap) (hr.below' HB0.out) hca (cap' := cap') (hr'.below' HB0.out) hcap' hca')
  clear hr hr' hca hca'
  go_enter Tryz.func10, Tryz.ntmps10
  go_wp2_with fail
  refine HC.out.mono ?_
  rintro e w1 ⟨v, v2, rfl, hb1, h1⟩
  have HB := Lib.hid (HB0.out.trans (hb1.mono HB0.out.size))
  clear hb1 h1
  go_wp2_with fail
  go_ret
  exact ⟨rfl, HB.out⟩
/-- The locator polynomial of what correction changes. -/
noncomputable def elR (p pw g l c : Int) (W : List Int) : List Int := if crC p pw g l c W [] = 0 then onC p pw g l c (fun V => VF.lst V (locP V l (crD p pw g l c W []))) else []
theorem elR_no {p pw g l c : Int} {W : List Int} (h : ¬ crC p pw g l c W [] = 0) : elR p pw g l c W = [] := by unfold elR; rw [if_neg h]
theorem ris_nil (lo hi : Int) : risB lo hi [] = true := by
  unfold risB; simp only [decide_eq_true_eq]; intro j hj; exact absurd hj (by show ¬ j < 0; omega)
theorem dmC_nil (p pw g l c : Int) (L : List (List Int)) : dmC p pw g l c L [] = codeC p pw g l c L := by
  by_cases h : codeC p pw g l c L = 0
  · rw [dmC_ok h (ris_nil _ _), h]
  · exact dmC_bad h
/-- What correction changes is a rising list of indices. -/
theorem crD_facts {p pw g l c : Int} {W E : List Int} (h : crC p pw g l c W E = 0) : validC p pw g l c = true ∧ RisTo 0 (l - 1) (crD p pw g l c W E) (crD p pw g l c W E).length ∧ (crD p pw g l c W E).length ≤ 255 ∧ l ≤ 255 := by
  have h0 : dmC p pw g l c [W] E = 0 := Classical.byContradiction fun hn => hn ((cr_bad hn).1.symm.trans h)
  obtain ⟨V, n, hs, rfl, _, _, _, hy, hno⟩ := cr_V h0
  obtain ⟨_, _, _, _, hl1, _⟩ := validC_iff hs.valid
  cases hf : fixB V n c.toNat W E
  · have := (hno hf).1; omega
  · rw [(hy hf).2.2]
    have h1 : (difL W (fixO V n c.toNat W E) n).length ≤ n := filtL_length _ _
    exact ⟨hs.valid, filtL_ris _ _ _ (by omega), by omega, hl1⟩
theorem elR_len (p pw g l c : Int) (W : List Int) : (elR p pw g l c W).length ≤ 1048576 := by
  by_cases h : crC p pw g l c W [] = 0
  · obtain ⟨hv, _, hn, _⟩ := crD_facts h
    obtain ⟨V, hs, hon⟩ := validC_V hv
    unfold elR
    rw [if_pos h, hon]
    have h1 : (locP V l (crD p pw g l c W [])).dlt ((crD p pw g l c W []).length + 1) := by
      have := PS.dlt_lam ((crD p pw g l c W []).map fun i => VF.of V (locI V.F l i))
      rw [List.length_map] at this; exact this
    have := VF.lst_len (V := V) h1
    omega
  · rw [elR_no h]; simp
theorem implCorrectWord_law (p pw g l c : Int) (w : World) {a : Option Addr} {n cap : Nat} {zs : List Int} (hr : RowAt w a n zs) (hca : a = none → cap = 0) {a' : Option Addr} {n' cap' : Nat} {E : List Int} (hr' : RowAt w a' n' E) (hcap' : n' ≤ cap') (hca' : a' = none → cap' = 0) :
    Calls Tryz.prog 7 #[cV p pw g l c, .slice a n cap, .slice a' n' cap'] w fun e w' => ∃ v v2, e = .returned (.tuple #[v, v2, .int .i64 (crC p pw g l c zs E)]) ∧ Below w.heap.size w w' ∧ Res2 w w' v2 v (crD p pw g l c zs E) (crO p pw g l c zs E) :=
  (implCorrectWord_any p pw g l c w hr hca hr' hcap' hca').mono fun e w' ⟨v, v2, h1, h2, h3⟩ => ⟨v, v2, h1, h2, h3.res (Nat.le_refl _)⟩
theorem specCorrectWord_law (p pw g l c : Int) (w : World) {a : Option Addr} {n cap : Nat} {zs : List Int} (hr : RowAt w a n zs) (hcap : n ≤ cap) (hca : a = none → cap = 0) {a' : Option Addr} {n' cap' : Nat} {E : List Int} (hr' : RowAt w a' n' E) (hcap' : n' ≤ cap') :
    Calls Tryz.prog 8 #[cV p pw g l c, .slice a n cap, .slice a' n' cap'] w fun e w' => ∃ v v2, e = .returned (.tuple #[v, v2, .int .i64 (crC p pw g l c zs E)]) ∧ Below w.heap.size w w' ∧ ResL w w' v (crO p pw g l c zs E) ∧ ResL w w' v2 (crD p pw g l c zs E) :=
  (specCorrectWord_any p pw g l c w hr hcap hca hr' hcap').mono fun e w' ⟨v, v2, h1, h2, h3, h4⟩ => ⟨v, v2, h1, h2, h3.res (Nat.le_refl _), h4.res (Nat.le_refl _)⟩
theorem implCorrectByRegister_law (p pw g l c : Int) (w : World) {a : Option Addr} {n cap : Nat} {zs : List Int} (hr : RowAt w a n zs) (hca : a = none → cap = 0) {a' : Option Addr} {n' cap' : Nat} {E : List Int} (hr' : RowAt w a' n' E) (hcap' : n' ≤ cap') (hca' : a' = none → cap' = 0) :
    Calls Tryz.prog 14 #[cV p pw g l c, .slice a n cap, .slice a' n' cap'] w fun e w' => ∃ v v2, e = .returned (.tuple #[v, v2, .int .i64 (crC p pw g l c zs E)]) ∧ Below w.heap.size w w' ∧ Res2 w w' v2 v (crD p pw g l c zs E) (crO p pw g l c zs E) :=
  (implCorrectByRegister_any p pw g l c w hr hca hr' hcap' hca').mono fun e w' ⟨v, v2, h1, h2, h3⟩ => ⟨v, v2, h1, h2, h3.res (Nat.le_refl _)⟩
theorem specCorrectByRegister_law (p pw g l c : Int) (w : World) {a : Option Addr} {n cap : Nat} {zs : List Int} (hr : RowAt w a n zs) (hcap : n ≤ cap) (hca : a = none → cap = 0) {a' : Option Addr} {n' cap' : Nat} {E : List Int} (hr' : RowAt w a' n' E) (hcap' : n' ≤ cap') :
    Calls Tryz.prog 15 #[cV p pw g l c, .slice a n cap, .slice a' n' cap'] w fun e w' => ∃ v v2, e = .returned (.tuple #[v, v2, .int .i64 (crC p pw g l c zs E)]) ∧ Below w.heap.size w w' ∧ ResL w w' v (crO p pw g l c zs E) ∧ ResL w w' v2 (crD p pw g l c zs E) :=
  (specCorrectByRegister_any p pw g l c w hr hcap hca hr' hcap').mono fun e w' ⟨v, v2, h1, h2, h3, h4⟩ => ⟨v, v2, h1, h2, h3.res (Nat.le_refl _), h4.res (Nat.le_refl _)⟩
end Go.Proofs.YtcjkmfhnlggohaaGreat
