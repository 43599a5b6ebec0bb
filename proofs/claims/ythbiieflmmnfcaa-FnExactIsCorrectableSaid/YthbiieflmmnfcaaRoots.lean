/-
  Indices whose locators' inverses are roots: the walks of rootIndices and l05Find.
-/
import Derived.Test.YthbiieflmmnfcaaLocs
import Derived.Test.YthbiieflmmnfcaaFits
namespace Go.Proofs.Ythbiieflmmnfcaa
open Go.RowKit
set_option linter.unusedVariables false

/-- The value at the inverse of a locator. -/
def rootV (F : FF) (l : Int) (zs : List Int) (i : Nat) : Int := evI F zs (F.inv (locI F l (i : Int)))
/-- The indices below k at which a polynomial has a root. -/
def rootTo (F : FF) (l : Int) (zs : List Int) (k : Nat) : List Int := ((List.range k).filter fun i => rootV F l zs i == 0).map Int.ofNat
theorem rootTo_yes {F : FF} {l : Int} {zs : List Int} {k : Nat} (h : rootV F l zs k = 0) : rootTo F l zs (k + 1) = rootTo F l zs k ++ [(k : Int)] := by
  unfold rootTo; rw [List.range_succ, List.filter_append, List.map_append]; simp [h]
theorem rootTo_no {F : FF} {l : Int} {zs : List Int} {k : Nat} (h : ¬ rootV F l zs k = 0) : rootTo F l zs (k + 1) = rootTo F l zs k := by
  unfold rootTo; rw [List.range_succ, List.filter_append, List.map_append]; simp [h]
theorem rootTo_length (F : FF) (l : Int) (zs : List Int) (k : Nat) : (rootTo F l zs k).length ≤ k := by
  unfold rootTo; rw [List.length_map]; exact Nat.le_trans (List.length_filter_le _ _) (by simp)
theorem gi_append_last (l : List Int) (x : Int) : gi (l ++ [x]) l.length = x := by
  unfold gi; rw [List.getD_eq_getElem?_getD, List.getElem?_append_right (Nat.le_refl _), Nat.sub_self]; rfl
theorem RisTo.snoc {lo hi x : Int} {zs : List Int} (h : RisTo lo hi zs zs.length) (h1 : lo ≤ x) (h2 : x ≤ hi) (h3 : ∀ z ∈ zs, z < x) : RisTo lo hi (zs ++ [x]) (zs ++ [x]).length := by
  rw [List.length_append]
  intro k hk
  rcases Nat.lt_or_ge k zs.length with hl | hl
  · obtain ⟨a, b, c⟩ := h k hl
    rw [gi_append_left hl]
    exact ⟨a, b, fun h0 => by rw [gi_append_left (by omega)]; exact c h0⟩
  · have : k = zs.length := by simp at hk; omega
    subst this
    rw [gi_append_last]
    refine ⟨h1, h2, fun h0 => ?_⟩
    rw [gi_append_left (by omega)]
    refine h3 _ ?_
    unfold gi
    rw [List.getD_eq_getElem?_getD, List.getElem?_eq_getElem (by omega)]
    exact List.getElem_mem _
theorem rootTo_lt (F : FF) (l : Int) (zs : List Int) (k : Nat) : ∀ z ∈ rootTo F l zs k, 0 ≤ z ∧ z < (k : Int) := fun z hz => by
  unfold rootTo at hz
  obtain ⟨i, hi, rfl⟩ := List.mem_map.1 hz
  have := List.mem_range.1 (List.mem_filter.1 hi).1
  exact ⟨Int.natCast_nonneg _, by show ((i : Nat) : Int) < _; omega⟩
theorem rootTo_ris (F : FF) (l : Int) (zs : List Int) (hi : Int) (k : Nat) (hk : (k : Int) ≤ hi + 1) : RisTo 0 hi (rootTo F l zs k) (rootTo F l zs k).length := by
  induction k with
  | zero => intro j hj; exact absurd hj (by show ¬ j < 0; omega)
  | succ k ih =>
    have ih := ih (by omega)
    by_cases h : rootV F l zs k = 0
    · rw [rootTo_yes h]
      exact ih.snoc (by omega) (by omega) (fun z hz => (rootTo_lt F l zs k z hz).2)
    · rw [rootTo_no h]; exact ih
theorem rootTo_mem {F : FF} {l : Int} {zs : List Int} {k : Nat} {z : Int} : z ∈ rootTo F l zs k ↔ ∃ i : Nat, i < k ∧ z = (i : Int) ∧ rootV F l zs i = 0 := by
  unfold rootTo
  rw [List.mem_map]
  constructor
  · rintro ⟨i, hi, rfl⟩
    obtain ⟨h1, h2⟩ := List.mem_filter.1 hi
    exact ⟨i, List.mem_range.1 h1, rfl, by simpa using h2⟩
  · rintro ⟨i, hi, rfl, h⟩
    exact ⟨i, List.mem_filter.2 ⟨List.mem_range.2 hi, by simpa using h⟩, rfl⟩
/-- The locators of different indices differ. -/
theorem locI_inj {V : VF} {l i j : Int} (hl : l < V.F.size) (hi0 : 0 ≤ i) (hi1 : i ≤ l - 1) (hj0 : 0 ≤ j) (hj1 : j ≤ l - 1) (e : locI V.F l i = locI V.F l j) : i = j := by
  unfold locI at e
  have hN := FF.N_size V.ok
  have := FF.exp_inj V.ok _ _ (by omega) (by omega) e
  omega
theorem locI_ne {V : VF} (l i : Int) : locI V.F l i ≠ 0 := FF.exp_ne_zero V.ok _
theorem nodup_of_ris {lo hi : Int} {zs : List Int} (h : RisTo lo hi zs zs.length) : zs.Nodup := by
  rw [List.nodup_iff_pairwise_ne, List.pairwise_iff_getElem]
  have hs : ∀ i j (hij : i < j) (hj : j < zs.length), gi zs i < gi zs j := by
    intro i j hij
    induction j with
    | zero => omega
    | succ j ih =>
      intro hj
      have h1 := (h (j + 1) hj).2.2 (by omega)
      rw [Nat.add_sub_cancel] at h1
      rcases Nat.lt_or_ge i j with h2 | h2
      · have := ih h2 (by omega); omega
      · have : i = j := by omega
        subst this; exact h1
  intro i j hi hj hij e
  have := hs i j hij hj
  unfold gi at this
  rw [List.getD_eq_getElem?_getD, List.getElem?_eq_getElem hi, List.getD_eq_getElem?_getD, List.getElem?_eq_getElem hj] at this
  simp only [Option.getD_some] at this
  omega
theorem ris_mem {lo hi : Int} {zs : List Int} (h : RisTo lo hi zs zs.length) {z : Int} (hz : z ∈ zs) : lo ≤ z ∧ z ≤ hi := by
  obtain ⟨k, hk, rfl⟩ := List.getElem_of_mem hz
  have := h k hk
  unfold gi at this
  rw [List.getD_eq_getElem?_getD, List.getElem?_eq_getElem hk] at this
  exact ⟨this.1, this.2.1⟩
theorem locs_nodup {V : VF} {l : Int} (hl : l < V.F.size) {zs : List Int} (h : RisTo 0 (l - 1) zs zs.length) : (zs.map fun i => VF.of V (locI V.F l i)).Nodup := by
  rw [List.nodup_iff_pairwise_ne, List.pairwise_map]
  refine List.Pairwise.imp_of_mem (fun {a b} ha hb hab e => hab ?_) (List.nodup_iff_pairwise_ne.1 (nodup_of_ris h))
  obtain ⟨h1, h2⟩ := ris_mem h ha
  obtain ⟨h3, h4⟩ := ris_mem h hb
  exact locI_inj hl h1 h2 h3 h4 (VF.of_inj (locI_el V l a) (locI_el V l b) e)
theorem loc_inv {V : VF} (l i : Int) : VF.of V (locI V.F l i) * VF.of V (V.F.inv (locI V.F l i)) = 1 := VF.of_inv (locI_el V l i) (locI_ne l i)
theorem rootV_ev {V : VF} {l : Int} {zs : List Int} (hz : VF.els V zs) (i : Nat) : VF.of V (rootV V.F l zs i) = PS.ev (VF.ps V zs) (VF.of V (V.F.inv (locI V.F l i))) := evI_of hz (FF.inv_el V.ok _)
theorem rootV_el {V : VF} {l : Int} {zs : List Int} (hz : VF.els V zs) (i : Nat) : V.F.el (rootV V.F l zs i) := evI_el V.ok hz _
/-- A polynomial that starts with 1 is the locator polynomial of its roots exactly if it has as many as its degree. -/
theorem roots_loc {V : VF} {l : Int} {L : Nat} (hL : l = (L : Int)) (hl : l < V.F.size) {zs : List Int} (hz : VF.isP V zs) (h0 : zs ≠ []) :
    (gi zs 0 = 1 ∧ (rootTo V.F l zs L).length = zs.length - 1) ↔ VF.lst V (locP V l (rootTo V.F l zs L)) = zs := by
  subst hL
  have hpos : 0 < zs.length := List.length_pos_iff.2 h0
  have hris := rootTo_ris V.F (L : Int) zs ((L : Int) - 1) L (by omega)
  constructor
  · rintro ⟨h1, h2⟩
    obtain ⟨c, hc, hd⟩ := PS.lam_dvd ((rootTo V.F (L : Int) zs L).map fun i => VF.of V (locI V.F (L : Int) i)) (VF.ps V zs) zs.length (VF.ps_dlt zs) (locs_nodup hl hris) (by
      intro a ha
      obtain ⟨z, hzm, rfl⟩ := List.mem_map.1 ha
      obtain ⟨i, hi, rfl, hr⟩ := rootTo_mem.1 hzm
      refine ⟨_, loc_inv _ _, ?_⟩
      rw [← rootV_ev hz.els i, hr]; exact VF.of_zero)
    rw [List.length_map, h2, show zs.length - (zs.length - 1) = 1 by omega] at hd
    have hc0 : c = PS.C (c.c 0) := PS.ext' fun n => by
      cases n with
      | zero => rw [PS.C_c_zero]
      | succ n => rw [PS.C_c_succ, hd _ (by omega)]
    have h3 : (VF.ps V zs).c 0 = 1 := by rw [VF.ps_c]; show VF.of V (gi zs 0) = 1; rw [h1]; exact VF.of_one
    rw [hc, PS.mul_c_zero, PS.lam_c_zero] at h3
    have h4 : c.c 0 = 1 := by grind
    rw [h4, PS.C_one] at hc0
    refine VF.lst_of hz ?_
    show _ = PS.lam _
    rw [hc, hc0]; grind
  · intro e
    have hne : ∀ x : PS (El V), x.dlt 0 → x = 0 := fun x h => PS.eq_zero_of_dlt h
    have h1 := VF.lst_eq (locP_poly V (L : Int) (rootTo V.F (L : Int) zs L))
    rw [e] at h1
    refine ⟨?_, ?_⟩
    · have h2 : (VF.ps V zs).c 0 = 1 := by rw [h1]; exact PS.lam_c_zero _
      rw [VF.ps_c] at h2
      exact VF.of_inj (hz.els.getD 0) (FF.one_el V.ok) (h2.trans VF.of_one.symm)
    · have hlen := locP_len V (L : Int) (rootTo V.F (L : Int) zs L)
      rw [e] at hlen
      -- the product of m factors has a top coefficient
      have htop : (locP V (L : Int) (rootTo V.F (L : Int) zs L)).c (rootTo V.F (L : Int) zs L).length ≠ 0 := by
        unfold locP
        generalize rootTo V.F (L : Int) zs L = rs
        induction rs with
        | nil => show (1 : PS (El V)).c 0 ≠ 0; rw [PS.one_c]; exact Fld.one_ne
        | cons a rs ih =>
          show (PS.lf (VF.of V (locI V.F (L : Int) a)) * PS.lam (rs.map fun i => VF.of V (locI V.F (L : Int) i)) : PS (El V)).c (rs.length + 1) ≠ 0
          have hd := PS.dlt_lam (rs.map fun i => VF.of V (locI V.F (L : Int) i))
          rw [List.length_map] at hd
          have := PS.mul_top hd 1 (PS.lf (VF.of V (locI V.F (L : Int) a))) (PS.dlt_lf _)
          rw [Nat.add_comm 1] at this
          rw [this]
          refine mul_ne ?_ ih
          show (1 - PS.C _ * PS.X : PS (El V)).c 1 ≠ 0
          rw [PS.sub_c, PS.one_c, PS.C_mul_c]
          show (if 1 = 0 then (1 : El V) else 0) - VF.of V (locI V.F (L : Int) a) * (if 1 = 1 then (1 : El V) else 0) ≠ 0
          simp only [if_neg (show ¬ (1 : Nat) = 0 by omega), if_true]
          intro h0
          have h1 : VF.of V (locI V.F (L : Int) a) = 0 := by grind
          exact locI_ne (V := V) _ _ ((VF.of_eq_zero (locI_el V _ _)).1 h1)
      have : (rootTo V.F (L : Int) zs L).length < zs.length := by
        apply Classical.byContradiction; intro hn
        apply htop
        rw [← h1]
        exact VF.ps_dlt zs _ (by omega)
      omega
end Go.Proofs.Ythbiieflmmnfcaa
