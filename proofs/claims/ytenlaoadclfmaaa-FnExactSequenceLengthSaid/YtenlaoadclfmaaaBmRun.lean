/-
  The shortest recurrence, element by element, as both programs reckon it. Plain mathematics.
-/
import Derived.Test.YtenlaoadclfmaaaCanon
import Derived.Test.YtenlaoadclfmaaaBm
namespace Go.Proofs.Ytenlaoadclfmaaa
namespace PS
variable {K : Type} [CR K]
/-- The first i terms of the sum that ends at k. -/
def ms (f S : PS K) (k : Nat) : Nat → K
  | 0 => 0
  | i + 1 => ms f S k i + f.c i * S.c (k - i)
theorem ms_tail (f S : PS K) (k : Nat) : ∀ i, i ≤ k + 1 → ms f S (k + 1) (i + 1) = f.c 0 * S.c (k + 1) + ms f.tail S k i
  | 0, _ => by show (0 : K) + f.c 0 * S.c (k + 1 - 0) = f.c 0 * S.c (k + 1) + 0; rw [Nat.sub_zero]; grind
  | i + 1, h => by
    show ms f S (k + 1) (i + 1) + f.c (i + 1) * S.c (k + 1 - (i + 1)) = _ + (ms f.tail S k i + f.tail.c i * S.c (k - i))
    rw [ms_tail f S k i (by omega), show k + 1 - (i + 1) = k - i by omega]
    show _ + f.c (i + 1) * _ = _ + (_ + f.c (i + 1) * _)
    grind
theorem conv_ms (S : PS K) : ∀ (k : Nat) (f : PS K), conv f S k = ms f S k (k + 1)
  | 0, f => by show conv f S 0 = 0 + f.c 0 * S.c (0 - 0); show f.c 0 * S.c 0 = _; rw [Nat.sub_zero]; grind
  | k + 1, f => by
    rw [ms_tail f S k (k + 1) (Nat.le_refl _), ← conv_ms S k f.tail]
    rfl
theorem ms_zero {f S : PS K} {k m : Nat} (h : f.dlt m) : ∀ i j, m ≤ i → ms f S k (i + j) = ms f S k i
  | i, 0, _ => rfl
  | i, j + 1, hi => by
    show ms f S k (i + j) + f.c (i + j) * S.c (k - (i + j)) = _
    rw [ms_zero h i j hi, h (i + j) (by omega)]; grind
theorem ms_full {f S : PS K} {k m i : Nat} (h : f.dlt m) (hi : m ≤ i ∨ i = k + 1) (hk : i ≤ k + 1) : ms f S k i = (f * S).c k := by
  show _ = conv f S k
  rw [conv_ms]
  rcases hi with hi | rfl
  · have := ms_zero (S := S) (k := k) h i (k + 1 - i) hi
    rw [show i + (k + 1 - i) = k + 1 by omega] at this
    exact this.symm
  · rfl
end PS
open PS
variable {V : VF}
/-- The state behind k elements. -/
noncomputable def bm (V : VF) (S : PS (El V)) : Nat → St (El V)
  | 0 => start
  | k + 1 =>
    open Classical in
    if ((bm V S k).now * S).c k = 0 then { bm V S k with shift := (bm V S k).shift + 1 }
    else step k (bm V S k) (((bm V S k).now * S).c k) (((bm V S k).now * S).c k * VF.of V (V.F.inv (bm V S k).last.val)) false
theorem inv_of (a : El V) (h : a ≠ 0) : VF.of V (V.F.inv a.val) * a = 1 := by
  have h0 : a.val ≠ 0 := fun e => h (El.ext' e)
  have := VF.of_inv a.el h0
  rw [VF.val_of] at this
  grind
theorem bm_inv (S : PS (El V)) : ∀ k, Inv S k (bm V S k)
  | 0 => inv_start S
  | k + 1 => by
    have h := bm_inv S k
    unfold bm
    split
    · rename_i h0; exact inv_step_zero h h0
    · rename_i h0
      refine (inv_step h h0 ?_).1
      have := inv_of _ h.last0
      generalize VF.of V (V.F.inv (bm V S k).last.val) = x at *
      grind
theorem bm_zero (S : PS (El V)) {k : Nat} (h : ((bm V S k).now * S).c k = 0) : bm V S (k + 1) = { bm V S k with shift := (bm V S k).shift + 1 } := by
  conv => lhs; unfold bm
  rw [if_pos h]
/-- The next polynomial, where the sum is not zero. -/
noncomputable def bmNext (V : VF) (S : PS (El V)) (k : Nat) : PS (El V) :=
  (bm V S k).now + C (-(((bm V S k).now * S).c k * VF.of V (V.F.inv (bm V S k).last.val))) * ((X : PS (El V)) ^ (bm V S k).shift * (bm V S k).before)
theorem bm_long (S : PS (El V)) {k : Nat} (h : ¬ ((bm V S k).now * S).c k = 0) (hL : 2 * (bm V S k).L ≤ k) : bm V S (k + 1) = ⟨bmNext V S k, (bm V S k).now, k + 1 - (bm V S k).L, 1, ((bm V S k).now * S).c k⟩ := by
  conv => lhs; unfold bm
  rw [if_neg h]
  unfold step
  rw [if_neg (by simp), if_pos hL]; rfl
theorem bm_short (S : PS (El V)) {k : Nat} (h : ¬ ((bm V S k).now * S).c k = 0) (hL : ¬ 2 * (bm V S k).L ≤ k) : bm V S (k + 1) = { bm V S k with now := bmNext V S k, shift := (bm V S k).shift + 1 } := by
  conv => lhs; unfold bm
  rw [if_neg h]
  unfold step
  rw [if_neg (by simp), if_neg hL]; rfl
/-- What the programs keep of the state. -/
structure BmOk (V : VF) (S : PS (El V)) (k : Nat) : Prop where
  now : (bm V S k).now.IsPoly
  before : (bm V S k).before.IsPoly
  nlen : (VF.lst V (bm V S k).now).length ≤ (bm V S k).L + 1
  blen : (VF.lst V (bm V S k).before).length ≤ k + 1
  one : (bm V S k).now.c 0 = 1
  le : (bm V S k).L ≤ k
  shift : (bm V S k).shift ≤ k + 1
  last : (bm V S k).last.val ≠ 0
theorem bm_ok (S : PS (El V)) : ∀ k, BmOk V S k
  | 0 => ⟨isPoly_one, isPoly_one, by
      have := VF.lst_len (V := V) (dlt_one); exact this, by have := VF.lst_len (V := V) (dlt_one); exact this, (one_c 0).trans (if_pos rfl), Nat.le_refl _, Nat.le_refl _, fun e => (Fld.one_ne : (1 : El V) ≠ 0) (El.ext' e)⟩
  | k + 1 => by
    have ih := bm_ok S k
    have hi := bm_inv S (k + 1)
    have hn : (bm V S (k + 1)).now.IsPoly := ⟨_, hi.gen.deg⟩
    have hlast : (bm V S (k + 1)).last.val ≠ 0 := fun e => hi.last0 (El.ext' e)
    have hnl : (VF.lst V (bm V S (k + 1)).now).length ≤ (bm V S (k + 1)).L + 1 := VF.lst_len hi.gen.deg
    refine ⟨hn, ?_, hnl, ?_, hi.gen.one, hi.le, ?_, hlast⟩
    all_goals
      by_cases h0 : ((bm V S k).now * S).c k = 0
      · rw [bm_zero S h0]
        first | exact ih.before | (have := ih.blen; show (VF.lst V (bm V S k).before).length ≤ k + 1 + 1; omega) | (have := ih.shift; show (bm V S k).shift + 1 ≤ k + 1 + 1; omega)
      · by_cases hL : 2 * (bm V S k).L ≤ k
        · rw [bm_long S h0 hL]
          first | exact ih.now | (have := ih.nlen; have := ih.le; show (VF.lst V (bm V S k).now).length ≤ k + 1 + 1; omega) | (show 1 ≤ k + 1 + 1; omega)
        · rw [bm_short S h0 hL]
          first | exact ih.before | (have := ih.blen; show (VF.lst V (bm V S k).before).length ≤ k + 1 + 1; omega) | (have := ih.shift; show (bm V S k).shift + 1 ≤ k + 1 + 1; omega)
end Go.Proofs.Ytenlaoadclfmaaa
