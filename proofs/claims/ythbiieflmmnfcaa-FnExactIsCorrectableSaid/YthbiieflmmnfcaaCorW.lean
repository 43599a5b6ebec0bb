/-
  Correction: the public functions of both programs.
-/
import Derived.Test.YthbiieflmmnfcaaCorI
import Derived.Test.YthbiieflmmnfcaaBer
import Derived.Test.YthbiieflmmnfcaaGcds
import Derived.Test.YthbiieflmmnfcaaSyndOf
namespace Go.Proofs.Ythbiieflmmnfcaa
open Go.RowKit
set_option linter.unusedVariables false

noncomputable def dmC (p pw g l c : Int) (L : List (List Int)) (E : List Int) : Int := if codeC p pw g l c L = 0 then (if risB 0 (l - 1) E = true then 0 else 5) else codeC p pw g l c L
noncomputable def crB (p pw g l c : Int) (W E : List Int) : Bool := decide (onC p pw g l c (fun V => if fixB V l.toNat c.toNat W E = true then [1] else []) = [1])
noncomputable def crC (p pw g l c : Int) (W E : List Int) : Int := if dmC p pw g l c [W] E = 0 then (if crB p pw g l c W E = true then 0 else 7) else dmC p pw g l c [W] E
noncomputable def crO (p pw g l c : Int) (W E : List Int) : List Int := if crC p pw g l c W E = 0 then onC p pw g l c (fun V => fixO V l.toNat c.toNat W E) else []
noncomputable def crD (p pw g l c : Int) (W E : List Int) : List Int := if crC p pw g l c W E = 0 then onC p pw g l c (fun V => difL W (fixO V l.toNat c.toNat W E) l.toNat) else []
section
variable {p pw g l c : Int} {L : List (List Int)} {W E : List Int}
theorem dmC_bad (h : ¬ codeC p pw g l c L = 0) : dmC p pw g l c L E = codeC p pw g l c L := by unfold dmC; rw [if_neg h]
theorem dmC_state (h : codeC p pw g l c L = 0) (h2 : risB 0 (l - 1) E = false) : dmC p pw g l c L E = 5 := by unfold dmC; rw [if_pos h, if_neg (by simp [h2])]
theorem dmC_ok (h : codeC p pw g l c L = 0) (h2 : risB 0 (l - 1) E = true) : dmC p pw g l c L E = 0 := by unfold dmC; rw [if_pos h, if_pos h2]
theorem dmC_zero (h : dmC p pw g l c L E = 0) : codeC p pw g l c L = 0 ∧ risB 0 (l - 1) E = true := by
  by_cases h1 : codeC p pw g l c L = 0
  · cases h2 : risB 0 (l - 1) E
    · rw [dmC_state h1 h2] at h; omega
    · exact ⟨h1, rfl⟩
  · rw [dmC_bad h1] at h; exact absurd h h1
theorem cr_bad (h : ¬ dmC p pw g l c [W] E = 0) : crC p pw g l c W E = dmC p pw g l c [W] E ∧ crO p pw g l c W E = [] ∧ crD p pw g l c W E = [] := by
  have h1 : crC p pw g l c W E = dmC p pw g l c [W] E := by unfold crC; rw [if_neg h]
  exact ⟨h1, by unfold crO; rw [if_neg (by rw [h1]; exact h)], by unfold crD; rw [if_neg (by rw [h1]; exact h)]⟩
theorem cr_V (h : dmC p pw g l c [W] E = 0) : ∃ (V : VF) (n : Nat), SC V p pw g l c ∧ l = (n : Int) ∧ VF.els V W ∧ W.length = n ∧ RisTo 0 (l - 1) E E.length ∧
    (fixB V n c.toNat W E = true → crC p pw g l c W E = 0 ∧ crO p pw g l c W E = fixO V n c.toNat W E ∧ crD p pw g l c W E = difL W (fixO V n c.toNat W E) n) ∧
    (fixB V n c.toNat W E = false → crC p pw g l c W E = 7 ∧ crO p pw g l c W E = [] ∧ crD p pw g l c W E = []) := by
  obtain ⟨h1, h2⟩ := dmC_zero h
  obtain ⟨hv, hw⟩ := codeC_zero h1
  obtain ⟨V, hs, hon⟩ := validC_V hv
  have hw := hw W (by simp)
  obtain ⟨_, hc1, hc2, hcl, hl1, _⟩ := validC_iff hv
  have hlen : (W.length : Int) = l ∧ allB (ffOf p pw g) W = true := by unfold wordB at hw; simpa using hw
  have hb : crB p pw g l c W E = fixB V l.toNat c.toNat W E := by
    unfold crB; rw [hon]
    cases fixB V l.toNat c.toNat W E <;> simp
  refine ⟨V, l.toNat, hs, by omega, (fun z hz => by rw [hs.sf.hV]; exact allB_iff.1 hlen.2 z hz), by omega, risB_iff h2, fun hf => ?_, fun hf => ?_⟩
  · have e : crC p pw g l c W E = 0 := by unfold crC; rw [if_pos h, if_pos (hb.trans hf)]
    exact ⟨e, by unfold crO; rw [if_pos e, hon], by unfold crD; rw [if_pos e, hon]⟩
  · have e : crC p pw g l c W E = 7 := by unfold crC; rw [if_pos h, if_neg (by rw [hb, hf]; simp)]
    exact ⟨e, by unfold crO; rw [if_neg (by rw [e]; omega)], by unfold crD; rw [if_neg (by rw [e]; omega)]⟩
theorem crO_len (p pw g l c : Int) (W E : List Int) : (crO p pw g l c W E).length ≤ 1048576 := by
  by_cases h : dmC p pw g l c [W] E = 0
  · obtain ⟨V, n, hs, rfl, _, _, _, hy, hn⟩ := cr_V h
    obtain ⟨_, _, _, _, hl1, _⟩ := validC_iff hs.valid
    cases hf : fixB V n c.toNat W E
    · rw [(hn hf).2.1]; simp
    · rw [(hy hf).2.1, (fix_spec hf).len]; omega
  · rw [(cr_bad h).2.1]; simp
theorem crD_len (p pw g l c : Int) (W E : List Int) : (crD p pw g l c W E).length ≤ 1048576 := by
  by_cases h : dmC p pw g l c [W] E = 0
  · obtain ⟨V, n, hs, rfl, _, _, _, hy, hn⟩ := cr_V h
    obtain ⟨_, _, _, _, hl1, _⟩ := validC_iff hs.valid
    cases hf : fixB V n c.toNat W E
    · rw [(hn hf).2.2]; simp
    · rw [(hy hf).2.2]
      have h1 : (difL W (fixO V n c.toNat W E) n).length ≤ n := filtL_length _ _
      omega
  · rw [(cr_bad h).2.2]; simp
end
theorem callFunc_e (args : Array Value) (W : World) : (callFunc 134 args).run Try.prog W = .ok (.enter 134 args) W := by kernel_rfl
theorem callFunc_r (args : Array Value) (W : World) : (callFunc 129 args).run Try.prog W = .ok (.enter 129 args) W := by kernel_rfl
theorem TwoL.none {w W : World} (h : Below w.heap.size w W) : TwoL w W (.slice none 0 0) (.slice none 0 0) [] [] := ⟨w.heap.size, OwnL.nil _ _ h.size, OwnL.nil _ _ h.size, Nat.le_refl _, fun k h => by cases h⟩
theorem TwoL.lowerW {w W w' : World} {v v2 : Value} {zs zs2 : List Int} (h : TwoL W w' v v2 zs zs2) (hb : w.heap.size ≤ W.heap.size) : TwoL w w' v v2 zs zs2 := by
  obtain ⟨mid, h1, h2, h3, h4⟩ := h
  exact ⟨mid, h1, h2.lower hb, by omega, h4⟩
set_option maxHeartbeats 1000000 in
theorem damaged_any (p pw g l c : Int) (w : World) {a : Option Addr} {n cap : Nat} {zs : List Int} (hr : RowAt w a n zs) {a' : Option Addr} {n' cap' : Nat} {E : List Int} (hr' : RowAt w a' n' E) :
    Calls Try.prog 131 #[cV p pw g l c, .slice a n cap, .slice a' n' cap'] w fun e w' => ∃ v, e = .returned (.tuple #[v, .int .i64 (dmC p pw g l c [zs] E)]) ∧ Below w.heap.size w w' ∧ (dmC p pw g l c [zs] E = 0 → ∃ b, v = .pointer (some ⟨b, 0, none⟩) ∧ w.heap.size ≤ b ∧ Cod w' b p pw g l c) := by
  have HR' := Lib.hid hr'
  have hrow := hr.below' (below1 w (.cells #[.int .i64 p, .int .i64 pw, .int .i64 g, .int .i64 l, .int .i64 c] CT))
  have HROWS := Lib.hid (rows_one _ T1' a n cap zs hrow (w.heap.size + 1) (by simp))
  clear hr hrow hr'
  go_enter Try.func131, Try.ntmps131
  go_wp2_with fail
  refine (words_any p pw g l c _ HROWS.out).mono ?_
  rintro e w1 ⟨v, rfl, hb1, hcal⟩
  have HB := Lib.hid (((below1 _ _).alloc (by simp) _).trans (hb1.mono (by simp; omega)))
  have HCAL := Lib.hid hcal
  clear hb1 hcal
  by_cases hc : codeC p pw g l c [zs] = 0
  rotate_left
  · have hcz : (codeC p pw g l c [zs] == 0) = false := by simp [hc]
    have hf := Lib.hid (dmC_bad (E := E) hc)
    have hne := Lib.hid hc
    clear hc
    generalize codeC p pw g l c [zs] = cc at *
    go_wp2_with fail
    go_ret2
    exact ⟨_, by rw [hf.out]; rfl, HB.out, fun h => by rw [hf.out] at h; exact absurd h hne.out⟩
  have hcz : (codeC p pw g l c [zs] == 0) = true := by simp [hc]
  obtain ⟨b, rfl, hbb, hcod⟩ := HCAL.out hc
  obtain ⟨hv, _⟩ := codeC_zero hc
  obtain ⟨_, hc1, hc2, hcl, hl1, _⟩ := validC_iff hv
  have HI := Lib.hid (isIndices_any hcod (by omega) hl1 (cap := cap') (HR'.out.below' HB.out))
  have HCOD := Lib.hid hcod
  have HC := Lib.hid hc
  have hbb' : w.heap.size ≤ b := by simp at hbb; omega
  clear hcod hcl hc1 hc2 hc
  cases hri : risB 0 (l - 1) E
  · have hf := Lib.hid (dmC_state HC.out hri)
    rw [hri] at HI
    clear hri
    generalize codeC p pw g l c [zs] = cc at *
    go_wp2_with fail
    refine HI.out.mono ?_
    rintro e w2 ⟨rfl, rfl⟩
    go_wp2_with fail
    go_ret2
    exact ⟨_, by rw [hf.out]; rfl, HB.out, fun h => by rw [hf.out] at h; omega⟩
  · have hf := Lib.hid (dmC_ok HC.out hri)
    rw [hri] at HI
    clear hri
    go_wp2_with fail
    refine HI.out.mono ?_
    rintro e w2 ⟨rfl, rfl⟩
    go_wp2_with fail
    go_ret2
    exact ⟨_, by rw [hf.out, HC.out]; rfl, HB.out, fun _ => ⟨b, rfl, hbb', HCOD.out⟩⟩
set_option maxHeartbeats 1000000 in
theorem l05Code_any (p pw g l c : Int) (w : World) {a' : Option Addr} {n' cap' : Nat} {E : List Int} (hr' : RowAt w a' n' E) {A : Option Addr} {m cap : Nat} {L : List (List Int)} (hrows : RowsAt w A m L) :
    Calls Try.prog 132 #[cV p pw g l c, .slice a' n' cap', .slice A m cap] w fun e w' => e = .returned (.int .i64 (dmC p pw g l c L E)) ∧ Below w.heap.size w w' := by
  have HR' := Lib.hid hr'
  have HROWS := Lib.hid (hrows.below (below1 w (.cells #[.int .i64 p, .int .i64 pw, .int .i64 g, .int .i64 l, .int .i64 c] CT)))
  have HX := Lib.hid (boxC_new w p pw g l c CT)
  have HB0 := Lib.hid (below1 w (.cells #[.int .i64 p, .int .i64 pw, .int .i64 g, .int .i64 l, .int .i64 c] CT))
  clear hr' hrows
  go_enter Try.func132, Try.ntmps132
  go_wp2_with fail
  refine (l04Code_any p pw g l c _ HROWS.out).mono ?_
  rintro e w1 ⟨rfl, hb1⟩
  have HB := Lib.hid (HB0.out.trans (hb1.mono HB0.out.size))
  have HX1 := Lib.hid (HX.out.below hb1 HX.out.lt)
  clear hb1
  by_cases hc : codeC p pw g l c L = 0
  rotate_left
  · have hcz : (codeC p pw g l c L == 0) = false := by simp [hc]
    have hf := Lib.hid (dmC_bad (E := E) hc)
    clear hc
    generalize codeC p pw g l c L = cc at *
    go_wp2_with fail
    go_ret
    exact ⟨by rw [hf.out]; rfl, HB.out⟩
  have hcz : (codeC p pw g l c L == 0) = true := by simp [hc]
  obtain ⟨hv, _⟩ := codeC_zero hc
  obtain ⟨_, hc1, hc2, hcl, hl1, _⟩ := validC_iff hv
  have HI := Lib.hid (l05Indices_any p pw g l c (by omega) hl1 (cap := cap') (HR'.out.below' HB.out))
  obtain ⟨_, c0, c1, c2, c3, c4⟩ := HX1.out
  have HC := Lib.hid hc
  clear hcl hc1 hc2 hc
  cases hri : risB 0 (l - 1) E
  · have hf := Lib.hid (dmC_state HC.out hri)
    rw [hri] at HI
    clear hri
    generalize codeC p pw g l c L = cc at *
    go_wp2_with fail
    refine HI.out.mono ?_
    rintro e w2 ⟨rfl, hb2⟩
    go_wp2_with fail
    go_ret
    exact ⟨by rw [hf.out]; rfl, HB.out.trans (hb2.mono HB.out.size)⟩
  · have hf := Lib.hid (dmC_ok HC.out hri)
    rw [hri] at HI
    clear hri
    go_wp2_with fail
    refine HI.out.mono ?_
    rintro e w2 ⟨rfl, hb2⟩
    go_wp2_with fail
    go_ret
    exact ⟨by rw [hf.out, HC.out]; rfl, HB.out.trans (hb2.mono HB.out.size)⟩
end Go.Proofs.Ythbiieflmmnfcaa
