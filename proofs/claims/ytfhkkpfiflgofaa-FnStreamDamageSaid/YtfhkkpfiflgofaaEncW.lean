/-
  The parts EncW, EncO.
-/
import Derived.Test.YtfhkkpfiflgofaaEnc
/-
  The walks of the two EncodeWord.
-/
namespace Go.Proofs.Ytfhkkpfiflgofaa
open Go.RowKit
set_option linter.unusedVariables false

open Classical in
noncomputable def encC (p pw g l c : Int) (zs : List Int) : Int := if validC p pw g l c = true then (if (zs.length : Int) = l - c ∧ allB (ffOf p pw g) zs = true then 0 else 2) else 1
noncomputable def encWR (p pw g l c : Int) (zs : List Int) : List Int := if encC p pw g l c zs = 0 then onC p pw g l c (fun V => encL V l.toNat c.toNat zs) else []
theorem encWR_no {p pw g l c : Int} {zs : List Int} (h : ¬ encC p pw g l c zs = 0) : encWR p pw g l c zs = [] := by unfold encWR; rw [if_neg h]
theorem enc_bad {p pw g l c : Int} {zs : List Int} (h : validC p pw g l c = false) : encC p pw g l c zs = 1 ∧ encWR p pw g l c zs = [] := by
  have : encC p pw g l c zs = 1 := by unfold encC; rw [if_neg (by simp [h])]
  exact ⟨this, encWR_no (by omega)⟩
theorem enc_ok {p pw g l c : Int} {zs : List Int} (h : validC p pw g l c = true) (h2 : (zs.length : Int) = l - c) (h3 : allB (ffOf p pw g) zs = true) : ∃ V : VF, SC V p pw g l c ∧ VF.els V zs ∧ encC p pw g l c zs = 0 ∧ encWR p pw g l c zs = encL V l.toNat c.toNat zs := by
  obtain ⟨V, hs, hon⟩ := validC_V h
  have h0 : encC p pw g l c zs = 0 := by unfold encC; rw [if_pos h, if_pos ⟨h2, h3⟩]
  exact ⟨V, hs, fun z hz => by rw [hs.sf.hV]; exact allB_iff.1 h3 z hz, h0, by unfold encWR; rw [if_pos h0, hon]⟩
theorem encL_length (V : VF) (L c : Nat) (zs : List Int) : (encL V L c zs).length = zs.length + c := by unfold encL; rw [List.length_append, chkTo_length]
end Go.Proofs.Ytfhkkpfiflgofaa
/-
  The reference's encoded word: a row of the call's own.
-/
namespace Go.Proofs.Ytfhkkpfiflgofaa
open Go.RowKit
set_option linter.unusedVariables false

end Go.Proofs.Ytfhkkpfiflgofaa
