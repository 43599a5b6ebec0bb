/-
  Appending one number inside a region that draws its order.
-/
import Derived.Test.YtenlaoadclfmaaaAppend
import Derived.Deep.RegionLaw
import Derived.Deep.RegionHeld3
namespace Go.Proofs.Ytenlaoadclfmaaa
open Go.RowKit
set_option linter.unusedVariables false

theorem step_one {W0 : World} {ops : Array Oper} {o : Oper} {a : Act} {K : Act → World → Prop} {Q : Exit → Act → World → Prop} {E : Prop} (hgd : o.guard = none) (s x : Operand) (t : TypeId)
    (ho : o.op = .call { callee := .builtin .append, args := #[s, x], argTypes := #[t, t] }) (ht : Try.prog.underlying t = some (.slice 2))
    {B : Nat} {v : Value} {zs : List Int} (z : Int) (hown : OwnL W0 B v zs) (hs : a.eval s = v) (b : Nat) (hb : b = W0.heap.size) (hx : a.eval x = .slice (some ⟨b, 0, none⟩) 1 1) (hn : zs.length ≤ 16777216)
    (h : ∀ v' w', OwnL w' B v' (zs ++ [z]) → Below B W0 w' → K (a.put o.dst v') w') :
    if Region.wanted o (yielded ops a.tmps) = true then Oper.wp Try.prog o a (W0.alloc (.cells #[.int .i64 z] 2)) K Q else E := by
  subst hb
  have hw : Region.wanted o (yielded ops a.tmps) = true := by simp [Region.wanted, hgd]
  rw [if_pos hw]
  obtain ⟨i0, hi, hz0, hz1, hz2⟩ := info_parts info_int
  obtain ⟨hB, hown⟩ := hown
  obtain ⟨v', w', hrun, h1, hg, _⟩ := run_append_own (P := Try.prog) (W0.alloc (.cells #[.int .i64 z] 2)) B t o.type 2 i0 (.int .i64 0) 1 8 ht hi hz0 hz1 hz2 rfl (by decide) v zs.length (zs.map (Value.int .i64)) (hown.alloc _) ⟨W0.heap.size, 0, none⟩ 1 1 [.int .i64 z] rfl
    (by
      intro j u hj
      match j, hj with
      | 0, hj => simp at hj; subst hj; simp [Addr.add, go_sem])
    (by intro u hu; simp at hu; subst hu; rfl) (by unfold maxLen; omega) (by omega) (by simp; omega)
  have hfin := h v' w' ⟨by have := hg.size; simp at this; omega, by simpa using h1⟩ (append_below hB hg (fun k hk => (hown.lt k hk).1))
  unfold Oper.wp
  simp [execOp, ho, resolve, invoke, builtin, hs, hx, hrun, Result.andThen]
  exact hfin
end Go.Proofs.Ytenlaoadclfmaaa
