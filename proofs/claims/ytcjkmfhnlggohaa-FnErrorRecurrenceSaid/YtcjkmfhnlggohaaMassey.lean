/-
  The walk of the reference's search for the shortest recurrence.
-/
import Derived.Test.YtcjkmfhnlggohaaRegs
namespace Go.Proofs.Ytcjkmfhnlggohaa
open Go.RowKit
set_option linter.unusedVariables false

def shL (s : Nat) (zs : List Int) : List Int := if zs = [] then [] else List.replicate s 0 ++ zs
theorem shift_lst {V : VF} {zs : List Int} (h : VF.isP V zs) (s : Nat) : shL s zs = VF.lst V (VF.xp V s * VF.ps V zs) := by
  unfold shL
  by_cases hz : zs = []
  · rw [if_pos hz, hz, VF.ps_nil, show VF.xp V s * (0 : PS (El V)) = 0 by grind]; exact ((VF.lst_nil PS.isPoly_zero).2 rfl).symm
  · rw [if_neg hz]; exact (VF.lst_of (VF.isP_shift h hz s) (VF.ps_shift zs s)).symm
theorem shL_len (s : Nat) (zs : List Int) : (shL s zs).length ≤ s + zs.length := by
  unfold shL; split
  · simp
  · simp
theorem bmNext_shift {V : VF} {zs : List Int} {k : Nat} (hok : BmOk V (VF.ps V zs) k) {m by' : Int} (hm : V.F.el m) (hq : VF.of V m = ((bm V (VF.ps V zs) k).now * VF.ps V zs).c k) (hb : V.F.neg (V.F.mul m (V.F.inv (bm V (VF.ps V zs) k).last.val)) = by') :
    VF.lst V (VF.ps V (VF.lst V (bm V (VF.ps V zs) k).now) + VF.ps V (VF.lst V (VF.ps V [by'] * VF.ps V (shL (bm V (VF.ps V zs) k).shift (VF.lst V (bm V (VF.ps V zs) k).before))))) = VF.lst V (bmNext V (VF.ps V zs) k) := by
  have hi := FF.inv_el V.ok (bm V (VF.ps V zs) k).last.val
  have e : VF.of V by' = -(((bm V (VF.ps V zs) k).now * VF.ps V zs).c k * VF.of V (V.F.inv (bm V (VF.ps V zs) k).last.val)) := by
    rw [← hb, VF.of_neg (FF.mul_el V.ok _ _), VF.of_mul hm hi, hq]
  rw [shift_lst (VF.lst_isP hok.before), VF.ps_single, VF.lst_eq hok.now, VF.lst_eq hok.before, VF.lst_eq ((xp_poly _).mul hok.before), e]
  rw [VF.lst_eq ((PS.isPoly_C _).mul ((xp_poly _).mul hok.before))]
  rfl
theorem Miss.zero {V : VF} (S : PS (El V)) (k : Nat) : Miss V S k 0 0 := ⟨FF.zero_el V.ok, VF.of_zero⟩
theorem Miss.full' {V : VF} {zs : List Int} {k i : Nat} {m : Int} (h : Miss V (VF.ps V zs) k i m) (hok : BmOk V (VF.ps V zs) k) (hi : (VF.lst V (bm V (VF.ps V zs) k).now).length ≤ i ∨ i = k + 1) (hk : i ≤ k + 1) :
    VF.of V m = ((bm V (VF.ps V zs) k).now * VF.ps V zs).c k := by
  rw [h.eq]
  have hd : (bm V (VF.ps V zs) k).now.dlt (VF.lst V (bm V (VF.ps V zs) k).now).length := by
    have := VF.ps_dlt (V := V) (VF.lst V (bm V (VF.ps V zs) k).now)
    rw [VF.lst_eq hok.now] at this; exact this
  exact PS.ms_full hd hi hk
end Go.Proofs.Ytcjkmfhnlggohaa
