/-
  The parts CorW, CorX, CorY.
-/
import Derived.Test.YtfhkkpfiflgofaaCorI
import Derived.Test.YtfhkkpfiflgofaaBer
import Derived.Test.YtfhkkpfiflgofaaGcds
import Derived.Test.YtfhkkpfiflgofaaSyndOf
/-
  Correction: the public functions of both programs.
-/
namespace Go.Proofs.Ytfhkkpfiflgofaa
open Go.RowKit
set_option linter.unusedVariables false

noncomputable def dmC (p pw g l c : Int) (L : List (List Int)) (E : List Int) : Int := if codeC p pw g l c L = 0 then (if risB 0 (l - 1) E = true then 0 else 5) else codeC p pw g l c L
noncomputable def crB (p pw g l c : Int) (W E : List Int) : Bool := decide (onC p pw g l c (fun V => if fixB V l.toNat c.toNat W E = true then [1] else []) = [1])
noncomputable def crC (p pw g l c : Int) (W E : List Int) : Int := if dmC p pw g l c [W] E = 0 then (if crB p pw g l c W E = true then 0 else 7) else dmC p pw g l c [W] E
noncomputable def crO (p pw g l c : Int) (W E : List Int) : List Int := if crC p pw g l c W E = 0 then onC p pw g l c (fun V => fixO V l.toNat c.toNat W E) else []
noncomputable def crD (p pw g l c : Int) (W E : List Int) : List Int := if crC p pw g l c W E = 0 then onC p pw g l c (fun V => difL W (fixO V l.toNat c.toNat W E) l.toNat) else []
section
variable {p pw g l c : Int} {L : List (List Int)} {W E : List Int}
theorem dmC_bad (h : ¬ codeC p pw g l c L = 0) : dmC p pw g l c L E = codeC p pw g l c L := by unfold dmC; rw [if_neg h]
theorem dmC_state (h : codeC p pw g l c L = 0) (h2 : risB 0 (l - 1) E = false) : dmC p pw g l c L E = 5 := by unfold dmC; rw [if_pos h, if_neg (by simp [h2])]
theorem dmC_ok (h : codeC p pw g l c L = 0) (h2 : risB 0 (l - 1) E = true) : dmC p pw g l c L E = 0 := by unfold dmC; rw [if_pos h, if_pos h2]
theorem dmC_zero (h : dmC p pw g l c L E = 0) : codeC p pw g l c L = 0 ∧ risB 0 (l - 1) E = true := by
  by_cases h1 : codeC p pw g l c L = 0
  · cases h2 : risB 0 (l - 1) E
    · rw [dmC_state h1 h2] at h; omega
    · exact ⟨h1, rfl⟩
  · rw [dmC_bad h1] at h; exact absurd h h1
theorem cr_bad (h : ¬ dmC p pw g l c [W] E = 0) : crC p pw g l c W E = dmC p pw g l c [W] E ∧ crO p pw g l c W E = [] ∧ crD p pw g l c W E = [] := by
  have h1 : crC p pw g l c W E = dmC p pw g l c [W] E := by unfold crC; rw [if_neg h]
  exact ⟨h1, by unfold crO; rw [if_neg (by rw [h1]; exact h)], by unfold crD; rw [if_neg (by rw [h1]; exact h)]⟩
theorem cr_V (h : dmC p pw g l c [W] E = 0) : ∃ (V : VF) (n : Nat), SC V p pw g l c ∧ l = (n : Int) ∧ VF.els V W ∧ W.length = n ∧ RisTo 0 (l - 1) E E.length ∧
    (fixB V n c.toNat W E = true → crC p pw g l c W E = 0 ∧ crO p pw g l c W E = fixO V n c.toNat W E ∧ crD p pw g l c W E = difL W (fixO V n c.toNat W E) n) ∧
    (fixB V n c.toNat W E = false → crC p pw g l c W E = 7 ∧ crO p pw g l c W E = [] ∧ crD p pw g l c W E = []) := by
  obtain ⟨h1, h2⟩ := dmC_zero h
  obtain ⟨hv, hw⟩ := codeC_zero h1
  obtain ⟨V, hs, hon⟩ := validC_V hv
  have hw := hw W (by simp)
  obtain ⟨_, hc1, hc2, hcl, hl1, _⟩ := validC_iff hv
  have hlen : (W.length : Int) = l ∧ allB (ffOf p pw g) W = true := by unfold wordB at hw; simpa using hw
  have hb : crB p pw g l c W E = fixB V l.toNat c.toNat W E := by
    unfold crB; rw [hon]
    cases fixB V l.toNat c.toNat W E <;> simp
  refine ⟨V, l.toNat, hs, by omega, (fun z hz => by rw [hs.sf.hV]; exact allB_iff.1 hlen.2 z hz), by omega, risB_iff h2, fun hf => ?_, fun hf => ?_⟩
  · have e : crC p pw g l c W E = 0 := by unfold crC; rw [if_pos h, if_pos (hb.trans hf)]
    exact ⟨e, by unfold crO; rw [if_pos e, hon], by unfold crD; rw [if_pos e, hon]⟩
  · have e : crC p pw g l c W E = 7 := by unfold crC; rw [if_pos h, if_neg (by rw [hb, hf]; simp)]
    exact ⟨e, by unfold crO; rw [if_neg (by rw [e]; omega)], by unfold crD; rw [if_neg (by rw [e]; omega)]⟩
theorem crD_len (p pw g l c : Int) (W E : List Int) : (crD p pw g l c W E).length ≤ 1048576 := by
  by_cases h : dmC p pw g l c [W] E = 0
  · obtain ⟨V, n, hs, rfl, _, _, _, hy, hn⟩ := cr_V h
    obtain ⟨_, _, _, _, hl1, _⟩ := validC_iff hs.valid
    cases hf : fixB V n c.toNat W E
    · rw [(hn hf).2.2]; simp
    · rw [(hy hf).2.2]
      have h1 : (difL W (fixO V n c.toNat W E) n).length ≤ n := filtL_length _ _
      omega
  · rw [(cr_bad h).2.2]; simp
end
theorem callFunc_e (args : Array Value) (W : World) : (callFunc 147 args).run Try.prog W = .ok (.enter 147 args) W := by kernel_rfl
theorem TwoL.none {w W : World} (h : Below w.heap.size w W) : TwoL w W (.slice none 0 0) (.slice none 0 0) [] [] := ⟨w.heap.size, OwnL.nil _ _ h.size, OwnL.nil _ _ h.size, Nat.le_refl _, fun k h => by cases h⟩
end Go.Proofs.Ytfhkkpfiflgofaa
/-
  Correction: CorrectWord and CorrectByRegister.
-/
namespace Go.Proofs.Ytfhkkpfiflgofaa
open Go.RowKit
set_option linter.unusedVariables false
end Go.Proofs.Ytfhkkpfiflgofaa
/-
  Correction: IsCorrectable, ErrorLocator, the reference's CorrectByRegister.
-/
namespace Go.Proofs.Ytfhkkpfiflgofaa
open Go.RowKit
set_option linter.unusedVariables false

/-- The locator polynomial of what correction changes. -/
noncomputable def elR (p pw g l c : Int) (W : List Int) : List Int := if crC p pw g l c W [] = 0 then onC p pw g l c (fun V => VF.lst V (locP V l (crD p pw g l c W []))) else []
end Go.Proofs.Ytfhkkpfiflgofaa
