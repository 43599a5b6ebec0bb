/-
  Decoding: which indices are wrong, and what the finders find. Plain mathematics over the program's words.
-/
import Derived.Test.YthbiieflmmnfcaaSpread
namespace Go.Proofs.Ythbiieflmmnfcaa
open PS (dot)
set_option linter.unusedVariables false
variable {V : VF}

/-- The indices below k with a property, in order. -/
def filtL (P : Nat → Bool) (k : Nat) : List Int := ((List.range k).filter P).map Int.ofNat
theorem filtL_yes {P : Nat → Bool} {k : Nat} (h : P k = true) : filtL P (k + 1) = filtL P k ++ [(k : Int)] := by
  unfold filtL; rw [List.range_succ, List.filter_append, List.map_append]; simp [h]
theorem filtL_no {P : Nat → Bool} {k : Nat} (h : P k = false) : filtL P (k + 1) = filtL P k := by
  unfold filtL; rw [List.range_succ, List.filter_append, List.map_append]; simp [h]
theorem filtL_length (P : Nat → Bool) (k : Nat) : (filtL P k).length ≤ k := by
  unfold filtL; rw [List.length_map]; exact Nat.le_trans (List.length_filter_le _ _) (by simp)
theorem filtL_mem {P : Nat → Bool} {k : Nat} {z : Int} : z ∈ filtL P k ↔ ∃ i : Nat, i < k ∧ z = (i : Int) ∧ P i = true := by
  unfold filtL
  rw [List.mem_map]
  constructor
  · rintro ⟨i, hi, rfl⟩
    obtain ⟨h1, h2⟩ := List.mem_filter.1 hi
    exact ⟨i, List.mem_range.1 h1, rfl, h2⟩
  · rintro ⟨i, hi, rfl, h⟩
    exact ⟨i, List.mem_filter.2 ⟨List.mem_range.2 hi, h⟩, rfl⟩
theorem filtL_ris (P : Nat → Bool) (hi : Int) (k : Nat) (hk : (k : Int) ≤ hi + 1) : RisTo 0 hi (filtL P k) (filtL P k).length := by
  induction k with
  | zero => intro j hj; exact absurd hj (by show ¬ j < 0; omega)
  | succ k ih =>
    have ih := ih (by omega)
    cases h : P k
    · rw [filtL_no h]; exact ih
    · rw [filtL_yes h]
      exact ih.snoc (by omega) (by omega) (fun z hz => by
        obtain ⟨i, hi, rfl, _⟩ := filtL_mem.1 hz
        omega)
theorem filtL_congr {P Q : Nat → Bool} {k : Nat} (h : ∀ i, i < k → P i = Q i) : filtL P k = filtL Q k := by
  unfold filtL
  congr 1
  exact List.filter_congr fun i hi => h i (List.mem_range.1 hi)
theorem gi_mem {l : List Int} {k : Nat} (h : k < l.length) : gi l k ∈ l := by
  unfold gi; rw [List.getD_eq_getElem?_getD, List.getElem?_eq_getElem h]; exact List.getElem_mem _
theorem mem_gi {l : List Int} {z : Int} (h : z ∈ l) : ∃ k, k < l.length ∧ gi l k = z := by
  obtain ⟨k, hk, rfl⟩ := List.getElem_of_mem h
  exact ⟨k, hk, by unfold gi; rw [List.getD_eq_getElem?_getD, List.getElem?_eq_getElem hk]; rfl⟩
theorem gi_ext {a b : List Int} (hl : a.length = b.length) (h : ∀ i, i < a.length → gi a i = gi b i) : a = b := by
  apply List.ext_getElem hl
  intro i h1 h2
  have := h i h1
  unfold gi at this
  rw [List.getD_eq_getElem?_getD, List.getElem?_eq_getElem h1, List.getD_eq_getElem?_getD, List.getElem?_eq_getElem h2] at this
  simpa using this
/-- A rising list below k is the list of its members. -/
theorem ris_filt {k : Nat} {zs : List Int} (h : RisTo 0 ((k : Int) - 1) zs zs.length) : zs = filtL (fun i => zs.contains (i : Int)) k := by
  induction k generalizing zs with
  | zero =>
    cases zs with
    | nil => rfl
    | cons a l => have := h 0 (by simp); omega
  | succ k ih =>
    by_cases hk : (k : Int) ∈ zs
    · -- k is the last
      rw [filtL_yes (by simpa using hk)]
      obtain ⟨j, hj, e⟩ := mem_gi hk
      have hlast : j = zs.length - 1 := by
        rcases Nat.lt_or_ge j (zs.length - 1) with h1 | h1
        · have h2 := ris_lt h j (zs.length - 1) h1 (by omega)
          have h3 := (h (zs.length - 1) (by omega)).2.1
          omega
        · omega
      have hd : zs = zs.take (zs.length - 1) ++ [(k : Int)] := by
        have h1 : zs.take (zs.length - 1 + 1) = zs.take (zs.length - 1) ++ [zs.getD (zs.length - 1) 0] := VF.take_succ_getD zs (zs.length - 1) (by omega)
        rw [show zs.length - 1 + 1 = zs.length by omega, List.take_length] at h1
        rw [← hlast] at h1 ⊢
        have e' : zs.getD j 0 = (k : Int) := e
        rw [e'] at h1; exact h1
      obtain ⟨ys, hys⟩ : ∃ ys, zs.take (zs.length - 1) = ys := ⟨_, rfl⟩
      rw [hys] at hd
      have hris : RisTo 0 ((k : Int) - 1) ys ys.length := by
        intro i hi
        have hl : zs.length = ys.length + 1 := by rw [hd]; simp
        have h1 := h i (by omega)
        have e1 : gi zs i = gi ys i := by rw [hd]; exact gi_append_left hi
        rw [e1] at h1
        refine ⟨h1.1, ?_, fun h0 => ?_⟩
        · have h2 := ris_lt h i ys.length (by omega) (by omega)
          have h3 := (h ys.length (by omega)).2.1
          rw [e1] at h2; omega
        · have h2 := h1.2.2 h0
          have e2 : gi zs (i - 1) = gi ys (i - 1) := by rw [hd]; exact gi_append_left (by omega)
          rw [e2] at h2; exact h2
      have := ih hris
      rw [show filtL (fun i => zs.contains (i : Int)) k = filtL (fun i => ys.contains (i : Int)) k from filtL_congr fun i hi => by
        rw [hd]
        have : ¬ (i : Int) = (k : Int) := by omega
        simp [this], ← this]
      exact hd
    · rw [filtL_no (by simpa using hk)]
      exact ih (fun i hi => by
        have h1 := h i hi
        have : gi zs i ≠ (k : Int) := fun e => hk (by rw [← e]; exact gi_mem hi)
        exact ⟨h1.1, by omega, h1.2.2⟩)
theorem ris_ext {k : Nat} {a b : List Int} (ha : RisTo 0 ((k : Int) - 1) a a.length) (hb : RisTo 0 ((k : Int) - 1) b b.length) (h : ∀ z, z ∈ a ↔ z ∈ b) : a = b := by
  rw [ris_filt ha, ris_filt hb]
  refine filtL_congr fun i _ => ?_
  have := h (i : Int)
  by_cases h1 : (i : Int) ∈ a
  · simp [h1, this.1 h1]
  · have h2 : ¬ (i : Int) ∈ b := fun x => h1 (this.2 x)
    simp [h1, h2]
/-- The indices outside E at which two words differ. -/
def errs (L : Nat) (word E o : List Int) : List Int := filtL (fun i => !E.contains (i : Int) && gi word i != gi o i) L
/-- o is a code word near enough. -/
structure Dec (V : VF) (L c : Nat) (word E o : List Int) : Prop where
  els : VF.els V o
  len : o.length = L
  zero : ∀ j, j < c → svTo V.F o (V.F.exp (j + 1)) L = 0
  dmg : E.length + 2 * (errs L word E o).length ≤ c
theorem svTo_add {zs a b : List Int} (hz : VF.els V zs) (ha : VF.els V a) (hb : VF.els V b) {x : Int} (hx : V.F.el x) (k : Nat) (h : ∀ i, i < k → VF.of V (gi zs i) = VF.of V (gi a i) + VF.of V (gi b i)) :
    VF.of V (svTo V.F zs x k) = VF.of V (svTo V.F a x k) + VF.of V (svTo V.F b x k) := by
  have e : ∀ (l : List Int), VF.els V l → ∀ k, VF.of V (svTo V.F l x (k + 1)) = VF.of V (svTo V.F l x k) * VF.of V x + VF.of V (gi l k) := fun l hl k => by
    show VF.of V (V.F.add (V.F.mul _ x) _) = _
    rw [VF.of_add (FF.mul_el V.ok _ _) (show V.F.el (gi l k) from hl.getD k), VF.of_mul (svTo_el V.ok hl x k) hx]
  induction k with
  | zero => show VF.of V 0 = VF.of V 0 + VF.of V 0; rw [VF.of_zero]; grind
  | succ k ih => rw [e zs hz, e a ha, e b hb, ih (fun i hi => h i (by omega)), h k (by omega)]; grind
/-- The differences at some indices. -/
def difs (F : FF) (word o pl : List Int) : List Int := pl.map fun i => F.add (gi word i.toNat) (F.neg (gi o i.toNat))
theorem difs_els {word o : List Int} (hw : VF.els V word) (ho : VF.els V o) (pl : List Int) : VF.els V (difs V.F word o pl) := fun z hz => by
  obtain ⟨i, _, rfl⟩ := List.mem_map.1 hz
  exact FF.add_el V.ok (hw.getD _) (FF.neg_el (ho.getD _))
theorem difs_gi (F : FF) (word o pl : List Int) {m : Nat} (hm : m < pl.length) : gi (difs F word o pl) m = F.add (gi word (gi pl m).toNat) (F.neg (gi o (gi pl m).toNat)) := by
  unfold difs gi
  rw [List.getD_eq_getElem?_getD, List.getElem?_map, List.getElem?_eq_getElem hm, List.getD_eq_getElem?_getD (l := pl), List.getElem?_eq_getElem hm]; rfl
theorem of_dif {a b : Int} (ha : V.F.el a) (hb : V.F.el b) : VF.of V (V.F.add a (V.F.neg b)) = VF.of V a - VF.of V b := by
  rw [VF.of_add ha (FF.neg_el hb), VF.of_neg hb]; grind
/-- A word is a code word and the differences, if these stand at all indices where the two differ. -/
theorem word_sum {L : Nat} {word o pl : List Int} (hw : VF.els V word) (ho : VF.els V o) (hr : RisTo 0 ((L : Int) - 1) pl pl.length) (hout : ∀ i, i < L → gi word i ≠ gi o i → (i : Int) ∈ pl) (i : Nat) (hi : i < L) :
    VF.of V (gi word i) = VF.of V (gi o i) + VF.of V (gi (spread L pl (difs V.F word o pl)) i) := by
  obtain ⟨h1, h2⟩ := spTo_at (vals := difs V.F word o pl) hr pl.length (Nat.le_refl _)
  by_cases hm : (i : Int) ∈ pl
  · obtain ⟨m, hm1, hm2⟩ := mem_gi hm
    have h3 := h1 m hm1
    rw [hm2, Int.toNat_natCast] at h3
    show _ = _ + VF.of V (gi (spTo L pl _ pl.length) i)
    rw [h3, difs_gi _ _ _ _ hm1, hm2, Int.toNat_natCast, of_dif (show V.F.el (gi word i) from hw.getD i) (show V.F.el (gi o i) from ho.getD i)]; grind
  · have h3 := h2 i (fun m hm1 e => hm (by
      have h4 := (hr m hm1).1
      have : (i : Int) = gi pl m := by omega
      rw [this]; exact gi_mem hm1))
    show _ = _ + VF.of V (gi (spTo L pl _ pl.length) i)
    rw [h3, VF.of_zero]
    have : gi word i = gi o i := Classical.byContradiction fun e => hm (hout i hi e)
    rw [this]; grind
theorem Dec.cons {L c : Nat} {word E o pl : List Int} (h : Dec V L c word E o) (hw : VF.els V word) (hwl : word.length = L) (hr : RisTo 0 ((L : Int) - 1) pl pl.length) (hout : ∀ i, i < L → gi word i ≠ gi o i → (i : Int) ∈ pl) :
    Cons V L c (syn V.F word c) pl (fun m => VF.of V (gi (difs V.F word o pl) m)) := fun j hj => by
  rw [syn_gi V.F _ hj, hwl]
  rw [svTo_add hw h.els (spTo_els (difs_els hw h.els pl) _) (FF.exp_el V.ok _) L (fun i hi => word_sum hw h.els hr hout i hi), h.zero j hj, VF.of_zero]
  have := spread_val (V := V) (vals := difs V.F word o pl) hr (difs_els hw h.els pl) j pl.length (Nat.le_refl _)
  rw [this]; grind
end Go.Proofs.Ythbiieflmmnfcaa
