/-
  A region that draws its order, in a round of a loop over an iterator: it is walked as anywhere.
-/
import Derived.Test.YtmbphpmabopifaaDoorPeel
import Derived.RangeFuncNested
import Derived.RangeFuncBound
import Derived.RangeFuncCalls
import Derived.RangeFuncLeaves
import Derived.OrdersIn
namespace Go.Proofs.YtmbphpmabopifaaDoor
open Go.RowKit
set_option linter.unusedVariables false

section
variable {P : Program} {Q : Exit → Act → World → Prop} {S : World → Prop} {l n : Nat}
def calmB (ops : Array Oper) : Bool := ops.all fun o => match o.op with
  | .defer _ => false
  | _ => true
theorem calm_at {ops : Array Oper} (h : calmB ops = true) {i : Nat} {o : Oper} (ho : ops[i]? = some o) : ∀ c, o.op ≠ .defer c := fun c e => by
  unfold calmB at h
  rw [Array.all_eq_true_iff_forall_mem] at h
  have := h o (Array.mem_of_getElem? ho)
  rw [e] at this
  cases this
theorem oper_round {o : Oper} (hd : ∀ c, o.op ≠ .defer c) {a : Act} {w : World} {K : Act → World → Prop} (h : o.wp P a w K Q) : o.wpIn (Fence.wide.inRound l) n P a w K Q := by
  refine ⟨fun f _ => trivial, ?_⟩
  rw [Oper.semAt_eq _ _ _ hd]
  unfold Oper.wp at h
  generalize (execOp a.eval o).run P w = r at *
  cases r with
  | ok x w' =>
    cases x <;> simp only [Oper.upon, Oper.uponIn] at h ⊢
    case value u => exact h
    case skip => exact h
    case defer d => exact h
    case enter f args => exact ⟨fun hh => (by cases hh), CallsIn.inRound l (callsIn_wide.2 h)⟩
    case row row args => exact ⟨fun hh => (by cases hh), fun c cs _ => let ⟨v, w', r, s⟩ := h c cs; ⟨v, w', r, stepsIn_wide.2 s⟩⟩
  | halt x w' => cases x <;> simp only [Oper.upon, Oper.uponIn] at h ⊢; exact h
theorem wpOp_round {ops : Array Oper} (hc : calmB ops = true) (hQ : ¬ LetsOut Q) {i : Nat} {K K' : Act → World → Prop} (hK : ∀ a w, K a w → K' a w) {a : Act} {w : World} (h : wpOp P ops Q i K a w) :
    wpOpIn (Fence.wide.inRound l) n P ops Q i K' a w := by
  unfold wpOp at h
  unfold wpOpIn
  cases ho : ops[i]? with
  | none => simp only [ho] at h ⊢; exact hK _ _ h
  | some o =>
    simp only [ho] at h ⊢
    split
    · rename_i hw
      rw [if_pos hw] at h
      rcases h with h | h
      · exact Oper.wpIn_mono hK (oper_round (calm_at hc ho) h)
      · exact absurd h.2 hQ
    · rename_i hw
      rw [if_neg hw] at h
      exact ⟨fun f _ => trivial, hK _ _ h⟩
theorem wpAny_round {ops : Array Oper} {md : Region.Mode} (hc : calmB ops = true) (hQ : ¬ LetsOut Q) : ∀ (f : Nat) (listed : Array Bool) (a : Act) (w : World), wpAny P md ops Q f listed a w →
    wpAnyIn (Fence.wide.inRound l) n P md ops Q f listed a w
  | 0, listed, a, w, h => h
  | f + 1, listed, a, w, h => ⟨h.1, fun i hi => wpOp_round hc hQ (fun a' w' h' => wpAny_round hc hQ f _ a' w' h') (h.2 i hi)⟩
theorem region_round {id : Nat} {ops : Array Oper} {a : Act} {w : World} (hm : P.follows .mixedOrders = true) (hc : calmB ops = true) (hQ : ¬ LetsOut Q)
    (h : wpAny P .any ops Q ops.size (Array.replicate ops.size false) a w.drew) : (Code.region id ops true).wpIn (Fence.wide.inRound l) n P Q a w :=
  wpIn_region_any hm (wpAny_round hc hQ _ _ _ _ h)
/-- The region without its last operation first, under S; then that one. -/
theorem region_last_round {id : Nat} {a : Act} {w : World} {ls : List Oper} (m : Nat) {s : Oper} (hm : P.follows .mixedOrders = true) (hc : calmB ls.toArray = true) (hQ : ¬ LetsOut Q) (hs : ls[m]? = some s) (hB : lastB ls m = true) (hS : S w.drew)
    (hw : S w.drew → wpAnyH P .any (ls.take m).toArray (LastQ P ls.toArray Q s) S m (Array.replicate m false) a w.drew) : (Code.region id ls.toArray true).wpIn (Fence.wide.inRound l) n P Q a w := by
  have h := lastB_ok hs hB
  refine region_round hm hc hQ ?_
  have := wpAny_last h m (Array.replicate m false) a w.drew (by simp) (hw hS)
  rw [show (Array.replicate m false).push false = Array.replicate ls.toArray.size false by simp [h.len, ← Array.replicate_succ]] at this
  rw [show ls.toArray.size = m + 1 by simp [h.len]]
  rw [show ls.toArray.size = m + 1 by simp [h.len]] at this
  exact this
theorem region_lastW_round {id : Nat} {a : Act} {w : World} {ls : List Oper} (m : Nat) {s : Oper} (hm : P.follows .mixedOrders = true) (hc : calmB ls.toArray = true) (hQ : ¬ LetsOut Q) (hs : ls[m]? = some s) (hB : lastBW ls m = true) (hS : S w.drew)
    (hw : S w.drew → wpAnyH P .any (ls.take m).toArray (LastQW P ls.toArray Q s) S m (Array.replicate m false) a w.drew) : (Code.region id ls.toArray true).wpIn (Fence.wide.inRound l) n P Q a w := by
  have h := lastB_okW hs hB
  refine region_round hm hc hQ ?_
  have := wpAny_lastW h m (Array.replicate m false) a w.drew (by simp) (hw hS)
  rw [show (Array.replicate m false).push false = Array.replicate ls.toArray.size false by simp [h.len, ← Array.replicate_succ]] at this
  rw [show ls.toArray.size = m + 1 by simp [h.len]]
  rw [show ls.toArray.size = m + 1 by simp [h.len]] at this
  exact this
theorem not_row_of {W : World} {B : Nat} {cs : Array Value} {t e : TypeId} (h : W.heap[B]? = some (.cells cs t (0, 0))) (hte : t ≠ e) {base size k : Nat} {v : Value} {xs : List Value} (hr : W.ownsRow base e size v k xs) : some B ≠ v.ownBlock := by
  rcases hr.2 with ⟨rfl, _⟩ | ⟨g, cap, cur, rfl, _, hgb, _⟩
  · simp [Value.ownBlock]
  · intro e'
    obtain rfl : B = g := by simpa [Value.ownBlock] using e'
    have := h.symm.trans hgb
    simp at this
    exact hte this.2
/-- A region under S, by the moves of wpAnyH. -/
theorem wp_region_S {id : Nat} {ops : Array Oper} {a : Act} {w : World} (k : Nat) (hk : ops.size = k) (hm : P.follows .mixedOrders = true) (hS : S w.drew)
    (h : S w.drew → wpAnyH P .any ops Q S k (Array.replicate k false) a w.drew) : (Code.region id ops true).wp P Q a w := by
  subst hk
  exact wp_region_any hm (wpAny_of_held _ _ _ _ (h hS))
theorem region_S_round {id : Nat} {ops : Array Oper} {a : Act} {w : World} (k : Nat) (hk : ops.size = k) (hm : P.follows .mixedOrders = true) (hc : calmB ops = true) (hQ : ¬ LetsOut Q) (hS : S w.drew)
    (h : S w.drew → wpAnyH P .any ops Q S k (Array.replicate k false) a w.drew) : (Code.region id ops true).wpIn (Fence.wide.inRound l) n P Q a w := by
  subst hk
  exact region_round hm hc hQ (wpAny_of_held _ _ _ _ (h hS))
theorem letsOut_own {α : Type} {Kp : World → World → Prop} {I : List α → World → Prop} {Ix : Code → List α → World → Prop} {xs : List α} {W : World} : ¬ LetsOut (ownPostK Kp I Ix xs W) := fun ⟨_, _, h⟩ => h
end
end Go.Proofs.YtmbphpmabopifaaDoor
