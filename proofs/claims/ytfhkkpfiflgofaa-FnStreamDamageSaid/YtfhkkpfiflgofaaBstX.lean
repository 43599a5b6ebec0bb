/-
  The parts BstP, BstS, BstT, BstI.
-/
import Derived.Test.YtfhkkpfiflgofaaLayP
import Derived.Test.YtfhkkpfiflgofaaOrd
import Derived.Test.YtfhkkpfiflgofaaRnd
import Derived.Test.YtfhkkpfiflgofaaOrdI
import Derived.RangeFuncBox
import Derived.BigQuiet
/-
  Bursts: windows of a stream. Plain mathematics.
-/
namespace Go.Proofs.Ytfhkkpfiflgofaa
set_option linter.unusedVariables false

/-- How many places of block x lie among the first t places. -/
def cnt (o : List (Nat × Nat)) (x t : Nat) : Nat := ((o.take t).filter fun y => y.1 == x).length
/-- How many places of block x lie from i up to j. -/
def cwn (o : List (Nat × Nat)) (x i j : Nat) : Nat := cnt o x j - cnt o x i
section
variable {o : List (Nat × Nat)} {x i j t : Nat}
theorem cnt_succ (h : t < o.length) : cnt o x (t + 1) = cnt o x t + if (o[t]).1 = x then 1 else 0 := by
  unfold cnt
  rw [List.take_succ_eq_append_getElem h, List.filter_append, List.length_append]
  by_cases e : (o[t]).1 = x
  · rw [if_pos e]; simp [e]
  · rw [if_neg e]; simp [e]
theorem cnt_mono (h : i ≤ j) (hj : j ≤ o.length) : cnt o x i ≤ cnt o x j := by
  induction j with
  | zero => obtain rfl : i = 0 := by omega
            exact Nat.le_refl _
  | succ j ih =>
    by_cases e : i = j + 1
    · subst e; exact Nat.le_refl _
    · have := ih (by omega) (by omega)
      rw [cnt_succ (by omega)]
      omega
theorem cwn_self (o : List (Nat × Nat)) (x i : Nat) : cwn o x i i = 0 := by unfold cwn; omega
theorem cwn_right (h : i ≤ j) (hj : j < o.length) : cwn o x i (j + 1) = cwn o x i j + if (o[j]).1 = x then 1 else 0 := by
  have h1 := cnt_mono (o := o) (x := x) h (by omega)
  unfold cwn
  rw [cnt_succ hj]
  split <;> omega
theorem cwn_sub {i' j' : Nat} (h1 : i ≤ i') (h2 : i' ≤ j') (h3 : j' ≤ j) (hj : j ≤ o.length) : cwn o x i' j' ≤ cwn o x i j := by
  have a := cnt_mono (o := o) (x := x) h1 (by omega)
  have b := cnt_mono (o := o) (x := x) h2 (by omega)
  have c := cnt_mono (o := o) (x := x) h3 hj
  unfold cwn; omega
end
/-- Every window of b places holds at most h of each block. -/
def okW (o : List (Nat × Nat)) (h b : Nat) : Prop := ∀ i, i + b ≤ o.length → ∀ x, cwn o x i (i + b) ≤ h
theorem okW_less {o : List (Nat × Nat)} {h b b' : Nat} (hb : okW o h b) (hl : b' ≤ b) (hlen : b ≤ o.length) : okW o h b' := fun i hi x => by
  by_cases e : i + b ≤ o.length
  · exact Nat.le_trans (cwn_sub (Nat.le_refl _) (by omega) (by omega) e) (hb i e x)
  · have h2 := hb (o.length - b) (by omega) x
    rw [show o.length - b + b = o.length by omega] at h2
    exact Nat.le_trans (cwn_sub (by omega) (by omega) (by omega) (Nat.le_refl _)) h2
/-- M is the bound: windows of M places are fine, and M is all or those of M + 1 are not. -/
structure BstN (o : List (Nat × Nat)) (h M : Nat) : Prop where
  le : M ≤ o.length
  ok : okW o h M
  top : M = o.length ∨ (M < o.length ∧ ¬ okW o h (M + 1))
theorem BstN.uniq {o : List (Nat × Nat)} {h M M' : Nat} (a : BstN o h M) (b : BstN o h M') : M = M' := by
  rcases Nat.lt_trichotomy M M' with hl | hl | hl
  · rcases a.top with h1 | ⟨h1, h2⟩
    · have := b.le; omega
    · exact absurd (okW_less b.ok (show M + 1 ≤ M' by omega) b.le) h2
  · exact hl
  · rcases b.top with h1 | ⟨h1, h2⟩
    · have := a.le; omega
    · exact absurd (okW_less a.ok (show M' + 1 ≤ M by omega) a.le) h2
/-- What the search with two ends knows: s starts are done, the last end was t. -/
structure TwoE (o : List (Nat × Nat)) (h s t best : Nat) : Prop where
  st : s ≤ t
  tl : t ≤ o.length
  fine : ∀ x, cwn o x s t ≤ h
  done : ∀ i, i < s → ∀ x, cwn o x i (i + best) ≤ h
  low : best ≤ o.length
  rest : ∀ i, i < s → i + best ≤ o.length
  hit : best = o.length ∨ (best < o.length ∧ ∃ i x, i + best < o.length ∧ h < cwn o x i (i + best + 1))
theorem TwoE.start (o : List (Nat × Nat)) (h : Nat) : TwoE o h 0 0 o.length :=
  ⟨Nat.le_refl _, Nat.zero_le _, fun x => by rw [cwn_self]; exact Nat.zero_le _, fun i hi => absurd hi (Nat.not_lt_zero i), Nat.le_refl _, fun i hi => absurd hi (Nat.not_lt_zero i), .inl rfl⟩
/-- The far end moves on. -/
theorem TwoE.far {o : List (Nat × Nat)} {h s t best : Nat} (a : TwoE o h s t best) (ht : t < o.length) (hx : cwn o (o[t]).1 s t < h) : TwoE o h s (t + 1) best :=
  ⟨by have := a.st; omega, ht, fun x => by
    rw [cwn_right a.st ht]
    have := a.fine x
    by_cases e : (o[t]).1 = x
    · subst e; rw [if_pos rfl]; omega
    · rw [if_neg e]; omega, a.done, a.low, a.rest, a.hit⟩
/-- The far end is the stream's: this is the bound. -/
theorem TwoE.last {o : List (Nat × Nat)} {h s best : Nat} (a : TwoE o h s o.length best) : BstN o h best :=
  ⟨a.low, fun i hi x => by
    by_cases e : i < s
    · exact a.done i e x
    · exact Nat.le_trans (cwn_sub (by omega) (by omega) hi (Nat.le_refl _)) (a.fine x), by
    rcases a.hit with h1 | ⟨h1, i, x, h2, h3⟩
    · exact .inl h1
    · exact .inr ⟨h1, fun hk => by have := hk i (by omega) x; rw [← Nat.add_assoc] at this; omega⟩⟩
/-- One start is done. -/
theorem TwoE.next {o : List (Nat × Nat)} {h s t best : Nat} (a : TwoE o h s t best) (ht : t < o.length) (hx : ¬ cwn o (o[t]).1 s t < h) (t' : Nat) (ht1 : t' = t ∨ (t = s ∧ t' = t + 1)) (hst : s < t') : TwoE o h (s + 1) t' (min best (t - s)) := by
  have hst0 := a.st
  have hbad : h < cwn o (o[t]).1 s (s + (t - s) + 1) := by
    rw [show s + (t - s) + 1 = t + 1 by omega, cwn_right hst0 ht, if_pos rfl]; omega
  refine ⟨by omega, by omega, fun x => ?_, fun i hi x => ?_, by have := a.low; omega, fun i hi => ?_, ?_⟩
  · rcases ht1 with rfl | ⟨rfl, rfl⟩
    · exact Nat.le_trans (cwn_sub (by omega) (by omega) (Nat.le_refl _) (by omega)) (a.fine x)
    · rw [cwn_self]; exact Nat.zero_le _
  · by_cases e : i = s
    · subst e
      refine Nat.le_trans (cwn_sub (Nat.le_refl _) (by omega) (show i + min best (t - i) ≤ t by omega) (by omega)) (a.fine x)
    · have h1 := a.rest i (by omega)
      exact Nat.le_trans (cwn_sub (Nat.le_refl _) (by omega) (show i + min best (t - s) ≤ i + best by omega) h1) (a.done i (by omega) x)
  · by_cases e : i = s
    · omega
    · have := a.rest i (by omega); omega
  · by_cases hm : best ≤ t - s
    · rw [Nat.min_eq_left hm]; exact a.hit
    · rw [Nat.min_eq_right (by omega)]
      exact .inr ⟨by omega, s, _, by omega, hbad⟩
end Go.Proofs.Ytfhkkpfiflgofaa
/-
  The reference's BurstBound.
-/
namespace Go.Proofs.Ytfhkkpfiflgofaa
open Go.RowKit
set_option linter.unusedVariables false

/-- mo is the greatest count of a block from i up to k. -/
def MostN (o : List (Nat × Nat)) (i k : Nat) (mo : Int) : Prop := 0 ≤ mo ∧ mo ≤ (k : Int) - (i : Int) ∧ ∀ h : Nat, mo ≤ (h : Int) ↔ ∀ x, cwn o x i k ≤ h
theorem MostN.start (o : List (Nat × Nat)) (i : Nat) : MostN o i i 0 := ⟨Int.le_refl _, by omega, fun h => ⟨fun _ x => by rw [cwn_self]; omega, fun _ => by omega⟩⟩
theorem MostN.next {o : List (Nat × Nat)} {i k : Nat} {mo : Int} (a : MostN o i k mo) (hik : i ≤ k) (hk : k < o.length) {mo' : Int} (hm : mo' = max mo ((cwn o (o[k]).1 i (k + 1) : Nat) : Int)) : MostN o i (k + 1) mo' := by
  have hx := cwn_right (o := o) (x := (o[k]).1) hik hk
  rw [if_pos rfl] at hx
  have hle : ((cwn o (o[k]).1 i k : Nat) : Int) ≤ mo := by
    have := (a.2.2 mo.toNat).1 (by have := a.1; omega) (o[k]).1
    have := a.1; omega
  refine ⟨by rw [hm]; have := a.1; omega, by rw [hm]; have := a.2.1; omega, fun h => ⟨fun hh y => ?_, fun hh => ?_⟩⟩
  · by_cases e : (o[k]).1 = y
    · subst e; rw [hm] at hh; omega
    · rw [cwn_right hik hk, if_neg e]
      have := (a.2.2 h).1 (by rw [hm] at hh; omega) y
      omega
  · rw [hm]
    have h1 := (a.2.2 h).2 fun y => by
      have := hh y
      rw [cwn_right hik hk] at this
      omega
    have h2 := hh (o[k]).1
    omega
end Go.Proofs.Ytfhkkpfiflgofaa
/-
  The reference's BurstBound: the greatest window that holds no block too often.
-/
namespace Go.Proofs.Ytfhkkpfiflgofaa
open Go.RowKit
set_option linter.unusedVariables false

end Go.Proofs.Ytfhkkpfiflgofaa
/-
  The implementation's BurstBound: two ends that run over the blocks of the stream.
-/
namespace Go.Proofs.Ytfhkkpfiflgofaa
open Go.RowKit
set_option linter.unusedVariables false
attribute [local go_sem] Oper.semAt_some

/-- The blocks of the places. -/
def bkL (o : List (Nat × Nat)) : List Int := o.map fun y => (y.1 : Int)
/-- The counts of a window, in a block. -/
structure CntB (W : World) (X : Nat) (T : TypeId) (o : List (Nat × Nat)) (s t : Nat) : Prop where
  blk : ∃ cs : Array Value, W.heap[X]? = some (.cells cs T (0, 0)) ∧ cs.size = 16 ∧ ∀ x, x < 16 → cs[x]? = some (.int .i64 ((cwn o x s t : Nat) : Int))
section
variable {W W' : World} {X M s t : Nat} {T : TypeId} {o : List (Nat × Nat)}
theorem CntB.lt (h : CntB W X T o s t) : X < W.heap.size := let ⟨_, h, _⟩ := h.blk; lt_of_heap h
theorem CntB.fz (h : CntB W X T o s t) (i : Nat) : W.frozen? ⟨X, i, none⟩ = false := by obtain ⟨cs, h1, -⟩ := h.blk; unfold World.frozen?; rw [h1]; simp
theorem CntB.cell (h : CntB W X T o s t) {x : Nat} (hx : x < 16) : W.cell? ⟨X, x, none⟩ = some (.int .i64 ((cwn o x s t : Nat) : Int)) := by
  obtain ⟨cs, h1, -, h2⟩ := h.blk; unfold World.cell?; rw [h1]; exact h2 x hx
theorem CntB.drew (h : CntB W X T o s t) : CntB W.drew X T o s t := let ⟨cs, e⟩ := h.blk; ⟨cs, e⟩
theorem CntB.set (h : CntB W X T o s t) {x : Nat} (hx : x < 16) {s' t' : Nat} (h1 : ∀ y, y ≠ x → cwn o y s' t' = cwn o y s t) {v : Int} (hv : v = ((cwn o x s' t' : Nat) : Int)) : CntB (W.setCell ⟨X, x, none⟩ (.int .i64 v)) X T o s' t' := by
  obtain ⟨cs, e1, e2, e3⟩ := h.blk
  refine ⟨_, heap_setCell_self _ _ _ _ _ _ _ e1, by simp [e2], fun y hy => ?_⟩
  rw [Array.getElem?_setIfInBounds]
  by_cases e : x = y
  · subst e; rw [if_pos rfl, if_pos (by omega), hv]
  · rw [if_neg e, e3 y hy, h1 y (fun h => e h.symm)]
theorem CntB.same (h : CntB W X T o s t) {s' t' : Nat} (h1 : ∀ y, cwn o y s' t' = cwn o y s t) : CntB W X T o s' t' := let ⟨cs, e1, e2, e3⟩ := h.blk; ⟨cs, e1, e2, fun y hy => by rw [h1 y]; exact e3 y hy⟩
end

end Go.Proofs.Ytfhkkpfiflgofaa
