/-
  The parts EncW, EncO.
-/
import Derived.Test.YtfhkkpfiflgofaaEnc
/-
  The walks of the two EncodeWord.
-/
namespace Go.Proofs.Ytfhkkpfiflgofaa
open Go.RowKit
set_option linter.unusedVariables false

open Classical in
noncomputable def encC (p pw g l c : Int) (zs : List Int) : Int := if validC p pw g l c = true then (if (zs.length : Int) = l - c ∧ allB (ffOf p pw g) zs = true then 0 else 2) else 1
noncomputable def encWR (p pw g l c : Int) (zs : List Int) : List Int := if encC p pw g l c zs = 0 then onC p pw g l c (fun V => encL V l.toNat c.toNat zs) else []
theorem encWR_no {p pw g l c : Int} {zs : List Int} (h : ¬ encC p pw g l c zs = 0) : encWR p pw g l c zs = [] := by unfold encWR; rw [if_neg h]
theorem enc_bad {p pw g l c : Int} {zs : List Int} (h : validC p pw g l c = false) : encC p pw g l c zs = 1 ∧ encWR p pw g l c zs = [] := by
  have : encC p pw g l c zs = 1 := by unfold encC; rw [if_neg (by simp [h])]
  exact ⟨this, encWR_no (by omega)⟩
theorem enc_range {p pw g l c : Int} {zs : List Int} (h : validC p pw g l c = true) (h2 : ¬ ((zs.length : Int) = l - c ∧ allB (ffOf p pw g) zs = true)) : encC p pw g l c zs = 2 ∧ encWR p pw g l c zs = [] := by
  have : encC p pw g l c zs = 2 := by unfold encC; rw [if_pos h, if_neg h2]
  exact ⟨this, encWR_no (by omega)⟩
theorem enc_ok {p pw g l c : Int} {zs : List Int} (h : validC p pw g l c = true) (h2 : (zs.length : Int) = l - c) (h3 : allB (ffOf p pw g) zs = true) : ∃ V : VF, SC V p pw g l c ∧ VF.els V zs ∧ encC p pw g l c zs = 0 ∧ encWR p pw g l c zs = encL V l.toNat c.toNat zs := by
  obtain ⟨V, hs, hon⟩ := validC_V h
  have h0 : encC p pw g l c zs = 0 := by unfold encC; rw [if_pos h, if_pos ⟨h2, h3⟩]
  exact ⟨V, hs, fun z hz => by rw [hs.sf.hV]; exact allB_iff.1 h3 z hz, h0, by unfold encWR; rw [if_pos h0, hon]⟩
theorem encL_length (V : VF) (L c : Nat) (zs : List Int) : (encL V L c zs).length = zs.length + c := by unfold encL; rw [List.length_append, chkTo_length]
theorem encWR_len (p pw g l c : Int) (zs : List Int) : (encWR p pw g l c zs).length ≤ 1048576 := by
  cases h : validC p pw g l c
  · rw [(enc_bad h).2]; simp
  · by_cases h2 : (zs.length : Int) = l - c ∧ allB (ffOf p pw g) zs = true
    · obtain ⟨V, _, _, _, e⟩ := enc_ok h h2.1 h2.2
      obtain ⟨_, _, _, _, hl, _⟩ := validC_iff h
      rw [e, encL_length]; omega
    · rw [(enc_range h h2).2]; simp
end Go.Proofs.Ytfhkkpfiflgofaa
/-
  The reference's encoded word: a row of the call's own.
-/
namespace Go.Proofs.Ytfhkkpfiflgofaa
open Go.RowKit
set_option linter.unusedVariables false

theorem encWR_length {p pw g l c : Int} {zs : List Int} (h : encC p pw g l c zs = 0) : ((encWR p pw g l c zs).length : Int) = l ∧ 2 ≤ l ∧ validC p pw g l c = true := by
  have hv : validC p pw g l c = true := by
    cases hv : validC p pw g l c
    · rw [(enc_bad hv).1] at h; cases h
    · rfl
  obtain ⟨_, hc1, hc2, hcl, hl1, _⟩ := validC_iff hv
  have h2 : (zs.length : Int) = l - c ∧ allB (ffOf p pw g) zs = true := by
    unfold encC at h
    rw [if_pos hv] at h
    split at h
    · assumption
    · cases h
  obtain ⟨V, hs, hz, f0, f1⟩ := enc_ok hv h2.1 h2.2
  rw [f1, encL_length]
  exact ⟨by omega, by omega, hv⟩
end Go.Proofs.Ytfhkkpfiflgofaa
