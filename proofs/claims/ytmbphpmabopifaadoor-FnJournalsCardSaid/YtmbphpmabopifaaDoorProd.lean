/-
  The parts Times, SpecTimes.
-/
import Derived.Test.YtmbphpmabopifaaDoorOwn
import Derived.Test.YtmbphpmabopifaaDoorPeel
/-
  The walk of times.
-/
namespace Go.Proofs.YtmbphpmabopifaaDoor
open Go.RowKit
set_option linter.unusedVariables false

theorem drew1 (w : World) : Drew w w.drew := ⟨1, rfl⟩
theorem drew2 (w : World) (q : Nat) : Drew w (w.drew.drewN q) := ⟨q + 1, by rw [Nat.add_comm]; exact (drewN_drewN w 1 q).symm ▸ rfl⟩
theorem drew3 (w : World) (q : Nat) : Drew w (w.drewN q).drew := ⟨q + 1, (drewN_drewN w q 1).symm ▸ rfl⟩
theorem drew4 (w : World) (q : Nat) : Drew w (w.drewN q) := ⟨q, rfl⟩
theorem drew5 (w : World) (q : Nat) : Drew w (w.drewN (q + 1)) := ⟨q + 1, rfl⟩
theorem mulT_start {V : VF} (p q : List Int) : VF.ps V (p.take 0) * VF.ps V q = 0 := by rw [List.take_zero, VF.ps_nil]; grind
theorem mulT_inner {V : VF} (p q : List Int) (i : Nat) : VF.ps V (p.take i) * VF.ps V q = VF.ps V (p.take i) * VF.ps V q + VF.xp V i * PS.C (VF.of V (gi p i)) * VF.ps V (q.take 0) := by
  rw [List.take_zero, VF.ps_nil]; grind
theorem xp_add (V : VF) (i k : Nat) : VF.xp V (i + k) = VF.xp V i * VF.xp V k := by unfold VF.xp; grind
theorem mulT_next {V : VF} (p q : List Int) (i k : Nat) (hk : k < q.length) (hp : V.F.el (gi p i)) (hq : V.F.el (gi q k)) :
    VF.ps V (p.take i) * VF.ps V q + VF.xp V i * PS.C (VF.of V (gi p i)) * VF.ps V (q.take k) + VF.xp V (i + k) * PS.C (VF.of V (V.F.mul (gi p i) (gi q k))) =
    VF.ps V (p.take i) * VF.ps V q + VF.xp V i * PS.C (VF.of V (gi p i)) * VF.ps V (q.take (k + 1)) := by
  rw [VF.ps_take_succ q k hk, VF.of_mul hp hq, PS.C_mul, xp_add]
  show _ = _ + _ * (_ + _ * PS.C (VF.of V (gi q k)))
  grind
theorem mulT_end {V : VF} (p q : List Int) (i : Nat) (hi : i < p.length) :
    VF.ps V (p.take i) * VF.ps V q + VF.xp V i * PS.C (VF.of V (gi p i)) * VF.ps V (q.take q.length) = VF.ps V (p.take (i + 1)) * VF.ps V q := by
  rw [VF.ps_take_succ p i hi, List.take_length]
  show _ = (_ + _ * PS.C (VF.of V (gi p i))) * _
  grind
end Go.Proofs.YtmbphpmabopifaaDoor
/-
  The walk of the reference's product.
-/
namespace Go.Proofs.YtmbphpmabopifaaDoor
open Go.RowKit
set_option linter.unusedVariables false

theorem OutAt.chain {V : VF} {w w' : World} {B G m : Nat} {f : PS (El V)} (h : OutAt V w B G m f) (hb : Below w.heap.size w w') : OutAt V w' B G m f := h.below hb
end Go.Proofs.YtmbphpmabopifaaDoor
