/-
  Encoded words are code words; the walks of MessageOf and IsCode.
-/
import Derived.Test.YtdcmebegnekkcaaGreatEncW
import Derived.Test.YtdcmebegnekkcaaGreatSyndOf
import Derived.Test.YtdcmebegnekkcaaGreatPeel
namespace Go.Proofs.YtdcmebegnekkcaaGreat
open Go.RowKit
set_option linter.unusedVariables false


section
variable {V : VF}
end
noncomputable def moR (p pw g l c : Int) (zs : List Int) : List Int := if codeC p pw g l c [zs] = 0 then zs.take (l - c).toNat else []
theorem implIsCode_any (p pw g l c : Int) (w : World) :
    Calls Tryz.prog 148 #[cV p pw g l c] w fun e w' => e = .returned (.bool (validC p pw g l c)) ∧ Below w.heap.size w w' := by
  go_enter Tryz.func148, Tryz.ntmps148
  go_wp2_with fail
  refine (coder_any p pw g l c _).mono ?_
  rintro e w1 ⟨v, rfl, hb1, -⟩
  have HB := Lib.hid ((below1 w (.cells #[.int .i64 p, .int .i64 pw, .int .i64 g, .int .i64 l, .int .i64 c] CT)).trans (hb1.mono (by simp)))
  clear hb1
  go_wp2_with fail
  go_ret
  exact ⟨rfl, HB.out⟩
end Go.Proofs.YtdcmebegnekkcaaGreat
