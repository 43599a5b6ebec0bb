/-
  Correction: the program's stores, one behind the other, make the reference's word. Plain mathematics.
-/
import Derived.Test.YthbiieflmmnfcaaMrg
import Derived.Test.YthbiieflmmnfcaaCorS
import Derived.Test.YthbiieflmmnfcaaValues
namespace Go.Proofs.Ythbiieflmmnfcaa
set_option linter.unusedVariables false
variable {V : VF}

/-- The word behind the first k stores. -/
def stTo (F : FF) (word pl vr : List Int) : Nat → List Int
  | 0 => word
  | k + 1 => if gi vr k = 0 then stTo F word pl vr k else (stTo F word pl vr k).set (gi pl k).toNat (F.add (gi (stTo F word pl vr k) (gi pl k).toNat) (F.neg (gi vr k)))
/-- The indices that were stored to. -/
def chTo (pl vr : List Int) : Nat → List Int
  | 0 => []
  | k + 1 => if gi vr k = 0 then chTo pl vr k else chTo pl vr k ++ [gi pl k]
theorem stTo_no {F : FF} {word pl vr : List Int} {k : Nat} (h : gi vr k = 0) : stTo F word pl vr (k + 1) = stTo F word pl vr k := if_pos h
theorem stTo_yes {F : FF} {word pl vr : List Int} {k : Nat} (h : gi vr k ≠ 0) : stTo F word pl vr (k + 1) = (stTo F word pl vr k).set (gi pl k).toNat (F.add (gi (stTo F word pl vr k) (gi pl k).toNat) (F.neg (gi vr k))) := if_neg h
theorem chTo_no {pl vr : List Int} {k : Nat} (h : gi vr k = 0) : chTo pl vr (k + 1) = chTo pl vr k := if_pos h
theorem chTo_yes {pl vr : List Int} {k : Nat} (h : gi vr k ≠ 0) : chTo pl vr (k + 1) = chTo pl vr k ++ [gi pl k] := if_neg h
theorem stTo_length (F : FF) (word pl vr : List Int) (k : Nat) : (stTo F word pl vr k).length = word.length := by
  induction k with
  | zero => rfl
  | succ k ih =>
    by_cases h : gi vr k = 0
    · rw [stTo_no h, ih]
    · rw [stTo_yes h, List.length_set, ih]
theorem chTo_length (pl vr : List Int) (k : Nat) : (chTo pl vr k).length ≤ k := by
  induction k with
  | zero => exact Nat.le_refl _
  | succ k ih =>
    by_cases h : gi vr k = 0
    · rw [chTo_no h]; omega
    · rw [chTo_yes h, List.length_append]; simp; omega
theorem stTo_els {word pl vr : List Int} (hw : VF.els V word) (hv : VF.els V vr) (k : Nat) : VF.els V (stTo V.F word pl vr k) := by
  induction k with
  | zero => exact hw
  | succ k ih =>
    by_cases h : gi vr k = 0
    · rw [stTo_no h]; exact ih
    · rw [stTo_yes h]; exact ih.set _ (FF.add_el V.ok (ih.getD _) (FF.neg_el (hv.getD _)))
theorem stTo_at {L : Nat} {word pl vr : List Int} (hw : VF.els V word) (hv : VF.els V vr) (hwl : word.length = L) (hr : RisTo 0 ((L : Int) - 1) pl pl.length) (k : Nat) (hk : k ≤ pl.length) (i : Nat) (hi : i < L) :
    gi (stTo V.F word pl vr k) i = V.F.add (gi word i) (V.F.neg (gi (spTo L pl vr k) i)) := by
  have hse : ∀ k, VF.els V (spTo L pl vr k) := fun k => spTo_els hv k
  have hwi : V.F.el (gi word i) := hw.getD i
  induction k with
  | zero =>
    show gi word i = _
    refine VF.of_inj (V := V) hwi (FF.add_el V.ok hwi (FF.neg_el ((hse 0).getD i))) ?_
    rw [of_dif hwi (show V.F.el (gi (spTo L pl vr 0) i) from (hse 0).getD i)]
    have : gi (spTo L pl vr 0) i = 0 := gi_replicate _ _
    rw [this, VF.of_zero]; grind
  | succ k ih =>
    have ih := ih (by omega)
    obtain ⟨_, h2⟩ := spTo_at (vals := vr) hr k (by omega)
    have hb := hr k (by omega)
    have hsl := spTo_length L pl vr k
    have hstl := stTo_length V.F word pl vr k
    have e1 : spTo L pl vr (k + 1) = (spTo L pl vr k).set (gi pl k).toNat (gi vr k) := rfl
    by_cases hik : i = (gi pl k).toNat
    · have h0 : gi (spTo L pl vr k) i = 0 := h2 i fun m hm e => by
        have h4 := ris_lt hr m k hm (by omega)
        have h5 := (hr m (by omega)).1
        omega
      have hst : gi (stTo V.F word pl vr k) i = gi word i := by
        rw [ih, h0]
        refine VF.of_inj (V := V) (FF.add_el V.ok hwi (FF.neg_el (FF.zero_el V.ok))) hwi ?_
        rw [of_dif hwi (FF.zero_el V.ok), VF.of_zero]; grind
      have hsp : gi (spTo L pl vr (k + 1)) i = gi vr k := by rw [e1, hik]; exact gi_set_self _ _ _ (by omega)
      by_cases h : gi vr k = 0
      · rw [stTo_no h, ih, hsp, h0, h]
      · rw [stTo_yes h, hsp, ← hik, hst]
        exact gi_set_self _ _ _ (by omega)
    · have hsp : gi (spTo L pl vr (k + 1)) i = gi (spTo L pl vr k) i := by rw [e1]; exact gi_set_ne _ _ _ _ (by omega)
      rw [hsp, ← ih]
      by_cases h : gi vr k = 0
      · rw [stTo_no h]
      · rw [stTo_yes h]; exact gi_set_ne _ _ _ _ (by omega)
theorem stTo_end {L : Nat} {word pl vr : List Int} (hw : VF.els V word) (hv : VF.els V vr) (hwl : word.length = L) (hr : RisTo 0 ((L : Int) - 1) pl pl.length) : stTo V.F word pl vr pl.length = outTo V.F word (spread L pl vr) L :=
  gi_ext (by rw [stTo_length, outTo_length, hwl]) fun i hi => by
    rw [stTo_length, hwl] at hi
    rw [stTo_at hw hv hwl hr _ (Nat.le_refl _) i hi, outTo_gi _ _ _ hi]; rfl
theorem chTo_mem (pl vr : List Int) (z : Int) (k : Nat) : z ∈ chTo pl vr k ↔ ∃ m, m < k ∧ gi vr m ≠ 0 ∧ gi pl m = z := by
  induction k with
  | zero => constructor; (intro h; cases h); (rintro ⟨m, hm, _⟩; omega)
  | succ k ih =>
    by_cases h : gi vr k = 0
    · rw [chTo_no h, ih]
      constructor
      · rintro ⟨m, a, b, c⟩; exact ⟨m, by omega, b, c⟩
      · rintro ⟨m, a, b, c⟩
        rcases Nat.lt_or_ge m k with h1 | h1
        · exact ⟨m, h1, b, c⟩
        · obtain rfl : m = k := by omega
          exact absurd h b
    · rw [chTo_yes h, List.mem_append, ih, List.mem_singleton]
      constructor
      · rintro (⟨m, a, b, c⟩ | rfl)
        · exact ⟨m, by omega, b, c⟩
        · exact ⟨k, by omega, h, rfl⟩
      · rintro ⟨m, a, b, c⟩
        rcases Nat.lt_or_ge m k with h1 | h1
        · exact .inl ⟨m, h1, b, c⟩
        · obtain rfl : m = k := by omega
          exact .inr c.symm
theorem chTo_ris {L : Nat} {pl vr : List Int} (hr : RisTo 0 ((L : Int) - 1) pl pl.length) (k : Nat) (hk : k ≤ pl.length) : RisTo 0 ((L : Int) - 1) (chTo pl vr k) (chTo pl vr k).length := by
  induction k with
  | zero => intro j hj; exact absurd hj (by show ¬ j < 0; omega)
  | succ k ih =>
    have ih := ih (by omega)
    by_cases h : gi vr k = 0
    · rw [chTo_no h]; exact ih
    · rw [chTo_yes h]
      have hb := hr k (by omega)
      exact ih.snoc hb.1 hb.2.1 (fun z hz => by
        obtain ⟨m, hm, _, rfl⟩ := (chTo_mem pl vr z k).1 hz
        exact ris_lt hr m k hm (by omega))
theorem chTo_end {L : Nat} {word pl vr : List Int} (hw : VF.els V word) (hv : VF.els V vr) (hwl : word.length = L) (hr : RisTo 0 ((L : Int) - 1) pl pl.length) :
    chTo pl vr pl.length = difL word (outTo V.F word (spread L pl vr) L) L := by
  refine ris_ext (k := L) (chTo_ris hr _ (Nat.le_refl _)) (filtL_ris _ _ _ (by omega)) fun z => ?_
  have hse : VF.els V (spread L pl vr) := spTo_els hv _
  obtain ⟨h1, h2⟩ := spTo_at (vals := vr) hr pl.length (Nat.le_refl _)
  have key : ∀ i : Nat, i < L → (gi (outTo V.F word (spread L pl vr) L) i = gi word i ↔ gi (spread L pl vr) i = 0) := fun i hi => by
    have e := of_out (V := V) hw hse hi
    constructor
    · intro h
      rw [h] at e
      exact (VF.of_eq_zero (V := V) (show V.F.el (gi (spread L pl vr) i) from hse.getD i)).1 (by grind)
    · intro h
      rw [h, VF.of_zero] at e
      exact VF.of_inj (V := V) ((outTo_els hw hse L).getD i) (hw.getD i) (by show VF.of V (gi _ i) = VF.of V (gi word i); rw [e]; grind)
  unfold difL
  rw [chTo_mem, filtL_mem]
  constructor
  · rintro ⟨m, hm, hne, rfl⟩
    have hb := hr m hm
    refine ⟨(gi pl m).toNat, by omega, by omega, ?_⟩
    have h3 : gi (spread L pl vr) (gi pl m).toNat = gi vr m := h1 m hm
    have h4 : ¬ gi (outTo V.F word (spread L pl vr) L) (gi pl m).toNat = gi word (gi pl m).toNat := fun h => hne (by rw [← h3]; exact (key _ (by omega)).1 h)
    simp [h4]
  · rintro ⟨i, hi, rfl, h⟩
    have h4 : ¬ gi (outTo V.F word (spread L pl vr) L) i = gi word i := by simpa using h
    have h5 : gi (spread L pl vr) i ≠ 0 := fun e => h4 ((key i hi).2 e)
    apply Classical.byContradiction
    intro hno
    refine h5 (h2 i fun m hm e => hno ⟨m, hm, fun e2 => h5 ?_, by have := (hr m hm).1; omega⟩)
    have h6 := h1 m hm
    rw [e, e2] at h6
    exact h6
end Go.Proofs.Ythbiieflmmnfcaa
