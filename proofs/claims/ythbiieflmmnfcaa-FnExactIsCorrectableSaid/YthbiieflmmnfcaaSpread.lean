/-
  A word with values at given indices, and its syndromes. Plain mathematics over the program's words.
-/
import Derived.Test.YthbiieflmmnfcaaFor
namespace Go.Proofs.Ythbiieflmmnfcaa
open PS (dot)
set_option linter.unusedVariables false
variable {V : VF}

/-- The word of length L after k values have been set. -/
def spTo (L : Nat) (idx vals : List Int) : Nat → List Int
  | 0 => List.replicate L 0
  | k + 1 => (spTo L idx vals k).set (gi idx k).toNat (gi vals k)
theorem spTo_length (L : Nat) (idx vals : List Int) (k : Nat) : (spTo L idx vals k).length = L := by
  induction k with
  | zero => show (List.replicate L (0 : Int)).length = L; simp
  | succ k ih => show (List.set _ _ _).length = L; rw [List.length_set, ih]
def spread (L : Nat) (idx vals : List Int) : List Int := spTo L idx vals idx.length
theorem spTo_els {L : Nat} {idx vals : List Int} (hv : VF.els V vals) (k : Nat) : VF.els V (spTo L idx vals k) := by
  induction k with
  | zero => exact VF.els_replicate _
  | succ k ih => exact ih.set _ (hv.getD k)
theorem gi_set_ne (l : List Int) (i j : Nat) (x : Int) (h : j ≠ i) : gi (l.set i x) j = gi l j := by
  unfold gi; rw [List.getD_eq_getElem?_getD, List.getElem?_set_ne (fun e => h e.symm), List.getD_eq_getElem?_getD]
theorem gi_set_self (l : List Int) (i : Nat) (x : Int) (h : i < l.length) : gi (l.set i x) i = x := by
  unfold gi; rw [List.getD_eq_getElem?_getD, List.getElem?_set_self h]; rfl
theorem ris_lt {lo hi : Int} {zs : List Int} {m : Nat} (h : RisTo lo hi zs m) : ∀ i j, i < j → j < m → gi zs i < gi zs j := by
  intro i j hij
  induction j with
  | zero => omega
  | succ j ih =>
    intro hj
    have h1 := (h (j + 1) hj).2.2 (by omega)
    rw [Nat.add_sub_cancel] at h1
    rcases Nat.lt_or_ge i j with h2 | h2
    · have := ih h2 (by omega); omega
    · have : i = j := by omega
      subst this; exact h1
/-- The places of the first k indices hold their values, all others 0. -/
theorem spTo_at {L : Nat} {idx vals : List Int} (hr : RisTo 0 ((L : Int) - 1) idx idx.length) (k : Nat) (hk : k ≤ idx.length) :
    (∀ m, m < k → gi (spTo L idx vals k) (gi idx m).toNat = gi vals m) ∧ ∀ j, (∀ m, m < k → (gi idx m).toNat ≠ j) → gi (spTo L idx vals k) j = 0 := by
  induction k with
  | zero => exact ⟨fun m hm => by omega, fun j _ => gi_replicate _ _⟩
  | succ k ih =>
    obtain ⟨h1, h2⟩ := ih (by omega)
    have hk2 := hr k (by omega)
    refine ⟨fun m hm => ?_, fun j hj => ?_⟩
    · show gi ((spTo L idx vals k).set (gi idx k).toNat (gi vals k)) _ = _
      by_cases e : m = k
      · subst e; exact gi_set_self _ _ _ (by rw [spTo_length]; omega)
      · have := ris_lt hr m k (by omega) (by omega)
        have h3 := (hr m (by omega)).1
        rw [gi_set_ne _ _ _ _ (by omega)]
        exact h1 m (by omega)
    · show gi ((spTo L idx vals k).set (gi idx k).toNat (gi vals k)) _ = _
      rw [gi_set_ne _ _ _ _ (fun e => hj k (by omega) e.symm)]
      exact h2 j (fun m hm => hj m (by omega))
/-- A word's value when one place is set. -/
theorem svTo_set {zs : List Int} (hz : VF.els V zs) {x : Int} (hx : V.F.el x) {i : Nat} (hi : i < zs.length) (h0 : gi zs i = 0) {v : Int} (hv : V.F.el v) (k : Nat) :
    VF.of V (svTo V.F (zs.set i v) x k) = VF.of V (svTo V.F zs x k) + (if i < k then VF.of V v * VF.of V x ^ (k - 1 - i) else 0) := by
  induction k with
  | zero => show VF.of V 0 = VF.of V 0 + _; rw [if_neg (by omega)]; grind
  | succ k ih =>
    have hs := hz.set i hv
    have e1 : VF.of V (svTo V.F (zs.set i v) x (k + 1)) = VF.of V (svTo V.F (zs.set i v) x k) * VF.of V x + VF.of V (gi (zs.set i v) k) := by
      show VF.of V (V.F.add (V.F.mul _ x) _) = _
      rw [VF.of_add (FF.mul_el V.ok _ _) (show V.F.el (gi (zs.set i v) k) from hs.getD k), VF.of_mul (svTo_el V.ok hs x k) hx]
    have e2 : VF.of V (svTo V.F zs x (k + 1)) = VF.of V (svTo V.F zs x k) * VF.of V x + VF.of V (gi zs k) := by
      show VF.of V (V.F.add (V.F.mul _ x) _) = _
      rw [VF.of_add (FF.mul_el V.ok _ _) (show V.F.el (gi zs k) from hz.getD k), VF.of_mul (svTo_el V.ok hz x k) hx]
    rw [e1, e2, ih]
    by_cases h1 : k = i
    · subst h1
      rw [gi_set_self _ _ _ hi, h0, if_neg (by omega), if_pos (by omega), VF.of_zero, show k + 1 - 1 - k = 0 by omega]; grind
    · rw [gi_set_ne _ _ _ _ h1]
      by_cases h2 : i < k
      · rw [if_pos h2, if_pos (by omega), show k + 1 - 1 - i = (k - 1 - i) + 1 by omega]; grind
      · rw [if_neg h2, if_neg (by omega)]; grind
theorem svTo_zero (L : Nat) (x : Int) (k : Nat) : svTo V.F (List.replicate L 0) x k = 0 := by
  induction k with
  | zero => rfl
  | succ k ih => show V.F.add (V.F.mul (svTo V.F _ x k) x) (gi (List.replicate L 0) k) = 0; rw [ih, gi_replicate, FF.zero_mul', FF.add_zero' (FF.zero_el V.ok)]
theorem pow_swap (a b : Nat) : VF.of V (V.F.exp a) ^ b = VF.of V (V.F.exp (a * b)) := by
  rw [← VF.of_pow (FF.exp_el V.ok a), FF.pow_exp V.ok]
theorem spread_val {L : Nat} {idx vals : List Int} (hr : RisTo 0 ((L : Int) - 1) idx idx.length) (hv : VF.els V vals) (j : Nat) (k : Nat) (hk : k ≤ idx.length) :
    VF.of V (svTo V.F (spTo L idx vals k) (V.F.exp (j + 1)) L) = dot (fun m => locX V L idx m ^ (j + 1)) (fun m => VF.of V (gi vals m)) k := by
  induction k with
  | zero => show VF.of V (svTo V.F (List.replicate L 0) _ L) = 0; rw [svTo_zero]; exact VF.of_zero
  | succ k ih =>
    have hk2 := hr k (by omega)
    show VF.of V (svTo V.F ((spTo L idx vals k).set (gi idx k).toNat (gi vals k)) _ L) = dot _ _ k + _
    rw [svTo_set (spTo_els hv k) (FF.exp_el V.ok _) (by rw [spTo_length]; omega) ((spTo_at hr k (by omega)).2 _ (fun m hm e => by
      have := ris_lt hr m k hm (by omega)
      have := (hr m (by omega)).1
      omega)) (show V.F.el (gi vals k) from hv.getD k), ih (by omega), if_pos (by omega)]
    have e : VF.of V (V.F.exp (j + 1)) ^ (L - 1 - (gi idx k).toNat) = locX V L idx k ^ (j + 1) := by
      unfold locX locI
      rw [pow_swap, pow_swap, Nat.mul_comm]
      congr 3
      omega
    rw [e]; grind
/-- The syndromes of a word of values. -/
theorem spread_syn {L c : Nat} {idx vals : List Int} (hr : RisTo 0 ((L : Int) - 1) idx idx.length) (hv : VF.els V vals) {S : List Int} (hS : VF.els V S) (hSl : S.length = c) :
    syn V.F (spread L idx vals) c = S ↔ Cons V L c S idx (fun m => VF.of V (gi vals m)) := by
  have hel : ∀ j, V.F.el (svTo V.F (spread L idx vals) (V.F.exp (j + 1)) (spread L idx vals).length) := fun j => svTo_el V.ok (spTo_els hv _) _ _
  have key : ∀ j, j < c → VF.of V (gi (syn V.F (spread L idx vals) c) j) = dot (fun m => locX V L idx m ^ (j + 1)) (fun m => VF.of V (gi vals m)) idx.length := fun j hj => by
    rw [syn_gi V.F _ hj]
    unfold spread
    rw [spTo_length]
    exact spread_val hr hv j _ (Nat.le_refl _)
  constructor
  · intro e j hj
    rw [← key j hj, e]
  · intro h
    apply List.ext_getElem
    · rw [syn_length, hSl]
    · intro j h1 h2
      rw [syn_length] at h1
      have h3 := (key j h1).trans (h j h1).symm
      have h4 := VF.of_inj (V := V) (by rw [syn_gi V.F _ h1]; exact hel j) (show V.F.el (gi S j) from hS.getD j) h3
      unfold gi at h4
      rw [List.getD_eq_getElem?_getD, List.getElem?_eq_getElem (by rw [syn_length]; exact h1), List.getD_eq_getElem?_getD, List.getElem?_eq_getElem h2] at h4
      simpa using h4
theorem valsL_els (V : VF) (l : Int) (c : Nat) (S idx : List Int) : VF.els V (valsL V l c S idx) := fun z hz => by
  obtain ⟨i, _, rfl⟩ := List.mem_map.1 hz
  exact FF.neg_el (FF.mul_el V.ok _ _)
theorem valsL_gi (l : Int) (c : Nat) (S idx : List Int) (m : Nat) (hm : m < idx.length) : gi (valsL V l c S idx) m = forV V l c S idx (gi idx m) := by
  unfold valsL gi
  rw [List.getD_eq_getElem?_getD, List.getElem?_map, List.getElem?_eq_getElem hm, List.getD_eq_getElem?_getD, List.getElem?_eq_getElem hm]; rfl
/-- Forney's values give the syndromes if any values do. -/
theorem vals_cons {L c : Nat} (hl : (L : Int) < V.F.size) {S idx : List Int} (hr : RisTo 0 ((L : Int) - 1) idx idx.length) (hn : idx.length ≤ c) {w : Nat → El V} (h : Cons V L c S idx w) :
    Cons V L c S idx (fun m => VF.of V (gi (valsL V L c S idx) m)) := fun j hj => by
  rw [h j hj]
  refine PS.dot_congr _ fun m hm => ⟨rfl, ?_⟩
  rw [valsL_gi _ _ _ _ _ hm, forney_vals hl hr hn h m hm]
/-- Whether there are values that give the syndromes. -/
noncomputable def valB (V : VF) (l : Int) (c : Nat) (S idx : List Int) : Bool := decide (syn V.F (spread l.toNat idx (valsL V l c S idx)) c = S)
theorem valB_iff {L c : Nat} (hl : (L : Int) < V.F.size) {S idx : List Int} (hr : RisTo 0 ((L : Int) - 1) idx idx.length) (hn : idx.length ≤ c) (hS : VF.els V S) (hSl : S.length = c) :
    valB V L c S idx = true ↔ ∃ w, Cons V L c S idx w := by
  unfold valB
  rw [decide_eq_true_iff, Int.toNat_natCast, spread_syn hr (valsL_els V _ _ _ _) hS hSl]
  exact ⟨fun h => ⟨_, h⟩, fun ⟨w, h⟩ => vals_cons hl hr hn h⟩
/-- A solution of the first equations: its word has these syndromes exactly if Forney's has, and then they are the same. -/
theorem sol_vals {L c : Nat} (hl : (L : Int) < V.F.size) {S idx : List Int} (hr : RisTo 0 ((L : Int) - 1) idx idx.length) (hn : idx.length ≤ c) (hS : VF.els V S) (hSl : S.length = c) {vs : List Int} (hv : VF.els V vs) (hvl : vs.length = idx.length)
    (hs : PS.Sol idx.length (MX V L S idx) (fun m => VF.of V (gi vs m))) :
    (syn V.F (spread L idx vs) c = S ↔ valB V L c S idx = true) ∧ (valB V L c S idx = true → vs = valsL V L c S idx) := by
  have hu : ∀ w, Cons V L c S idx w → ∀ m, m < idx.length → VF.of V (gi vs m) = w m := fun w h m hm => hs.uniq (MX_nons hl S hr) (h.sol hn) m hm
  refine ⟨?_, fun h => ?_⟩
  · rw [spread_syn hr hv hS hSl, valB_iff hl hr hn hS hSl]
    refine ⟨fun h => ⟨_, h⟩, fun ⟨w, h⟩ j hj => ?_⟩
    rw [h j hj]
    exact PS.dot_congr _ fun m hm => ⟨rfl, (hu w h m hm).symm⟩
  · obtain ⟨w, hw⟩ := (valB_iff hl hr hn hS hSl).1 h
    apply List.ext_getElem
    · rw [hvl]; unfold valsL; simp
    · intro m h1 h2
      have hm : m < idx.length := by omega
      have h3 : VF.of V (gi vs m) = VF.of V (gi (valsL V L c S idx) m) := by rw [hu w hw m hm, valsL_gi _ _ _ _ _ hm, forney_vals hl hr hn hw m hm]
      have h4 := VF.of_inj (V := V) (show V.F.el (gi vs m) from hv.getD m) (show V.F.el (gi (valsL V L c S idx) m) from (valsL_els V _ _ _ _).getD m) h3
      unfold gi at h4
      rw [List.getD_eq_getElem?_getD, List.getElem?_eq_getElem h1, List.getD_eq_getElem?_getD, List.getElem?_eq_getElem h2] at h4
      simpa using h4
end Go.Proofs.Ythbiieflmmnfcaa
