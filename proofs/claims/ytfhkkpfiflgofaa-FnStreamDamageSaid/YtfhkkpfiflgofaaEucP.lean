/-
  The parts For, Spread, DecP, EucP.
-/
import Derived.Test.YtfhkkpfiflgofaaRoots
import Derived.Test.YtfhkkpfiflgofaaMathG
/-
  Values of errors: what determines them. Plain mathematics over the program's words.
-/
namespace Go.Proofs.Ytfhkkpfiflgofaa
open PS (dot Mx Sol NonS)
set_option linter.unusedVariables false
variable {V : VF}

noncomputable def locX (V : VF) (l : Int) (idx : List Int) (m : Nat) : El V := VF.of V (locI V.F l (gi idx m))
noncomputable def Eof (V : VF) (l : Int) (idx : List Int) (w : Nat → El V) (n : Nat) : List (El V × El V) := (List.range n).map fun m => (locX V l idx m, w m)
theorem Eof_length (l : Int) (idx : List Int) (w : Nat → El V) (n : Nat) : (Eof V l idx w n).length = n := by unfold Eof; simp
theorem Eof_succ (l : Int) (idx : List Int) (w : Nat → El V) (n : Nat) : Eof V l idx w (n + 1) = Eof V l idx w n ++ [(locX V l idx n, w n)] := by unfold Eof; rw [List.range_succ, List.map_append]; rfl
theorem gsE_c (l : Int) (idx : List Int) (w : Nat → El V) (j : Nat) : ∀ n, (PS.gs (Eof V l idx w n)).c j = dot (fun m => locX V l idx m ^ (j + 1)) w n
  | 0 => rfl
  | n + 1 => by
    rw [Eof_succ, PS.gs_append, PS.add_c, gsE_c l idx w j n]
    show _ + (PS.C (w n * locX V l idx n) * PS.geom (locX V l idx n) + 0 : PS (El V)).c j = dot _ w n + locX V l idx n ^ (j + 1) * w n
    rw [PS.add_c, PS.C_mul_c]
    show _ + (w n * locX V l idx n * locX V l idx n ^ j + 0) = _
    grind
theorem range_map_gi {α : Type} (f : Int → α) (l : List Int) : (List.range l.length).map (fun m => f (gi l m)) = l.map f := by
  apply List.ext_getElem
  · simp
  · intro i h1 h2
    simp only [List.getElem_map, List.getElem_range]
    congr 1
    unfold gi
    rw [List.getD_eq_getElem?_getD, List.getElem?_eq_getElem (by simpa using h2)]; rfl
theorem Eof_fst (l : Int) (idx : List Int) (w : Nat → El V) : (Eof V l idx w idx.length).map (·.1) = idx.map fun i => VF.of V (locI V.F l i) := by
  unfold Eof
  rw [List.map_map, ← range_map_gi]; rfl
theorem lamE (l : Int) (idx : List Int) (w : Nat → El V) : PS.lam ((Eof V l idx w idx.length).map (·.1)) = locP V l idx := by rw [Eof_fst]; rfl
theorem locX_ne (l : Int) (idx : List Int) (m : Nat) : locX V l idx m ≠ 0 := fun h => locI_ne (V := V) l (gi idx m) ((VF.of_eq_zero (locI_el V _ _)).1 h)
/-- The system for the values. -/
noncomputable def MX (V : VF) (l : Int) (S idx : List Int) : Mx (El V) := fun j m => if m < idx.length then locX V l idx m ^ (j + 1) else VF.of V (gi S j)
theorem MX_dot (l : Int) (S idx : List Int) (x : Nat → El V) (j : Nat) : dot (MX V l S idx j) x idx.length = dot (fun m => locX V l idx m ^ (j + 1)) x idx.length :=
  PS.dot_congr _ fun m hm => ⟨by unfold MX; rw [if_pos hm], rfl⟩
theorem MX_nons {l : Int} (hl : l < V.F.size) (S : List Int) {idx : List Int} (hr : RisTo 0 (l - 1) idx idx.length) : NonS idx.length (MX V l S idx) := by
  intro x hx m hm
  have := PS.values_zero (Eof V l idx x idx.length) (by rw [Eof_fst]; exact locs_nodup hl hr) (by
    intro p hp
    obtain ⟨k, _, rfl⟩ := List.mem_map.1 hp
    exact locX_ne _ _ _) (by
    intro j hj
    rw [Eof_length] at hj
    rw [gsE_c, ← MX_dot l S idx x j]
    exact hx j hj)
  exact this (locX V l idx m, x m) (List.mem_map.2 ⟨m, List.mem_range.2 hm, rfl⟩)
/-- Values that give the syndromes. -/
def Cons (V : VF) (l : Int) (c : Nat) (S idx : List Int) (w : Nat → El V) : Prop := ∀ j, j < c → VF.of V (gi S j) = dot (fun m => locX V l idx m ^ (j + 1)) w idx.length
theorem Cons.sol {l : Int} {c : Nat} {S idx : List Int} {w : Nat → El V} (h : Cons V l c S idx w) (hn : idx.length ≤ c) : Sol idx.length (MX V l S idx) w := fun j hj => by
  rw [MX_dot, ← h j (by omega)]
  unfold MX; rw [if_neg (by omega)]
/-- The list of a polynomial's first n coefficients. -/
noncomputable def omL (V : VF) (l : Int) (c : Nat) (S idx : List Int) : List Int := VF.trim ((VF.lst V (VF.ps V (VF.trim S) * locP V l idx)).take c)
noncomputable def slL (V : VF) (l : Int) (idx : List Int) : List Int := VF.lst V (PS.D (locP V l idx))
/-- A value as Forney's formula has it. -/
noncomputable def forV (V : VF) (l : Int) (c : Nat) (S idx : List Int) (i : Int) : Int :=
  V.F.neg (V.F.mul (evI V.F (omL V l c S idx) (V.F.inv (locI V.F l i))) (V.F.inv (evI V.F (slL V l idx) (V.F.inv (locI V.F l i)))))
noncomputable def valsL (V : VF) (l : Int) (c : Nat) (S idx : List Int) : List Int := idx.map (forV V l c S idx)
theorem trim_els {S : List Int} (h : VF.els V S) : VF.els V (VF.trim S) := h.take _
theorem omL_els (V : VF) (l : Int) (c : Nat) (S idx : List Int) : VF.els V (omL V l c S idx) := (VF.lst_isP ((VF.ps_poly _).mul (locP_poly V l idx))).els.take _ |>.take _
theorem omL_c (l : Int) (c : Nat) (S idx : List Int) (i : Nat) : (VF.ps V (omL V l c S idx)).c i = if i < c then (VF.ps V S * locP V l idx).c i else 0 := by
  unfold omL
  rw [VF.ps_trim, VF.ps_c, VF.getD_take]
  split
  · rw [← VF.ps_c, VF.lst_eq ((VF.ps_poly _).mul (locP_poly V l idx)), VF.ps_trim]
  · exact VF.of_zero
/-- The low coefficients of a product. -/
theorem mul_low {K : Type} [CR K] (n : Nat) : ∀ (k : Nat) (f f' g : PS K), k < n → (∀ i, i < n → f.c i = f'.c i) → (f * g).c k = (f' * g).c k := by
  intro k f f' g hk h
  rw [PS.mul_c, PS.mul_c, PS.conv_ms, PS.conv_ms]
  have : ∀ i, i ≤ k + 1 → PS.ms f g k i = PS.ms f' g k i := by
    intro i
    induction i with
    | zero => intro _; rfl
    | succ i ih => intro hi; show PS.ms f g k i + f.c i * _ = PS.ms f' g k i + f'.c i * _; rw [ih (by omega), h i (by omega)]
  exact this _ (Nat.le_refl _)
theorem forney_vals {l : Int} (hl : l < V.F.size) {c : Nat} {S idx : List Int} (hr : RisTo 0 (l - 1) idx idx.length) (hn : idx.length ≤ c) {w : Nat → El V} (hc : Cons V l c S idx w) (m : Nat) (hm : m < idx.length) :
    VF.of V (forV V l c S idx (gi idx m)) = w m := by
  have hom : VF.ps V (omL V l c S idx) = PS.om (Eof V l idx w idx.length) := PS.ext' fun i => by
    rw [omL_c]
    split
    · rename_i hi
      have e := PS.lam_gs (Eof V l idx w idx.length)
      rw [lamE] at e
      rw [← e, show locP V l idx * PS.gs (Eof V l idx w idx.length) = PS.gs (Eof V l idx w idx.length) * locP V l idx by grind]
      refine mul_low c i _ _ _ hi (fun j hj => ?_)
      rw [gsE_c, ← hc j hj]; rfl
    · rename_i hi
      have := PS.dlt_om (Eof V l idx w idx.length)
      rw [Eof_length] at this
      rw [this i (by omega)]
  have hsplit : Eof V l idx w idx.length = Eof V l idx w m ++ (locX V l idx m, w m) :: ((List.range idx.length).drop (m + 1)).map (fun k => (locX V l idx k, w k)) := by
    unfold Eof
    have e : List.range idx.length = List.range m ++ m :: (List.range idx.length).drop (m + 1) := by
      have h1 : List.range idx.length = (List.range idx.length).take m ++ (List.range idx.length).drop m := (List.take_append_drop _ _).symm
      have h2 : (List.range idx.length).take m = List.range m := by rw [List.take_range]; congr 1; omega
      have h3 : (List.range idx.length).drop m = m :: (List.range idx.length).drop (m + 1) := by
        rw [List.drop_eq_getElem_cons (by simpa using hm)]; simp
      rw [h2, h3] at h1; exact h1
    conv => lhs; rw [e]
    rw [List.map_append]; rfl
  have hnd := locs_nodup (V := V) hl hr
  rw [← Eof_fst l idx w] at hnd
  have hf := PS.forney (Eof V l idx w m) (((List.range idx.length).drop (m + 1)).map (fun k => (locX V l idx k, w k))) (locX V l idx m) (w m) (VF.of V (V.F.inv (locI V.F l (gi idx m)))) (loc_inv l (gi idx m)) (by rw [← hsplit]; exact hnd)
  rw [← hsplit, lamE, ← hom] at hf
  have hxe := FF.inv_el V.ok (locI V.F l (gi idx m))
  have h1 := evI_of (omL_els V l c S idx) hxe
  have h2 := evI_lst (V := V) (PS.isPoly_D (locP_poly V l idx)) hxe
  have he1 := evI_el V.ok (omL_els V l c S idx) (V.F.inv (locI V.F l (gi idx m)))
  have he2 : V.F.el (evI V.F (slL V l idx) (V.F.inv (locI V.F l (gi idx m)))) := evI_el V.ok (VF.lst_isP (PS.isPoly_D (locP_poly V l idx))).els _
  have h2' : VF.of V (evI V.F (slL V l idx) (V.F.inv (locI V.F l (gi idx m)))) = PS.ev (PS.D (locP V l idx)) (VF.of V (V.F.inv (locI V.F l (gi idx m)))) := h2
  have hne : evI V.F (slL V l idx) (V.F.inv (locI V.F l (gi idx m))) ≠ 0 := fun h => hf.1 (by rw [← h2', h]; exact VF.of_zero)
  have h3 := VF.of_inv (V := V) he2 hne
  unfold forV
  rw [VF.of_neg (FF.mul_el V.ok _ _), VF.of_mul he1 (FF.inv_el V.ok _), h1, hf.2, ← h2']
  grind
end Go.Proofs.Ytfhkkpfiflgofaa
/-
  A word with values at given indices, and its syndromes. Plain mathematics over the program's words.
-/
namespace Go.Proofs.Ytfhkkpfiflgofaa
open PS (dot)
set_option linter.unusedVariables false
variable {V : VF}

/-- The word of length L after k values have been set. -/
def spTo (L : Nat) (idx vals : List Int) : Nat → List Int
  | 0 => List.replicate L 0
  | k + 1 => (spTo L idx vals k).set (gi idx k).toNat (gi vals k)
theorem spTo_length (L : Nat) (idx vals : List Int) (k : Nat) : (spTo L idx vals k).length = L := by
  induction k with
  | zero => show (List.replicate L (0 : Int)).length = L; simp
  | succ k ih => show (List.set _ _ _).length = L; rw [List.length_set, ih]
def spread (L : Nat) (idx vals : List Int) : List Int := spTo L idx vals idx.length
theorem spTo_els {L : Nat} {idx vals : List Int} (hv : VF.els V vals) (k : Nat) : VF.els V (spTo L idx vals k) := by
  induction k with
  | zero => exact VF.els_replicate _
  | succ k ih => exact ih.set _ (hv.getD k)
theorem gi_set_ne (l : List Int) (i j : Nat) (x : Int) (h : j ≠ i) : gi (l.set i x) j = gi l j := by
  unfold gi; rw [List.getD_eq_getElem?_getD, List.getElem?_set_ne (fun e => h e.symm), List.getD_eq_getElem?_getD]
theorem gi_set_self (l : List Int) (i : Nat) (x : Int) (h : i < l.length) : gi (l.set i x) i = x := by
  unfold gi; rw [List.getD_eq_getElem?_getD, List.getElem?_set_self h]; rfl
theorem ris_lt {lo hi : Int} {zs : List Int} {m : Nat} (h : RisTo lo hi zs m) : ∀ i j, i < j → j < m → gi zs i < gi zs j := by
  intro i j hij
  induction j with
  | zero => omega
  | succ j ih =>
    intro hj
    have h1 := (h (j + 1) hj).2.2 (by omega)
    rw [Nat.add_sub_cancel] at h1
    rcases Nat.lt_or_ge i j with h2 | h2
    · have := ih h2 (by omega); omega
    · have : i = j := by omega
      subst this; exact h1
/-- The places of the first k indices hold their values, all others 0. -/
theorem spTo_at {L : Nat} {idx vals : List Int} (hr : RisTo 0 ((L : Int) - 1) idx idx.length) (k : Nat) (hk : k ≤ idx.length) :
    (∀ m, m < k → gi (spTo L idx vals k) (gi idx m).toNat = gi vals m) ∧ ∀ j, (∀ m, m < k → (gi idx m).toNat ≠ j) → gi (spTo L idx vals k) j = 0 := by
  induction k with
  | zero => exact ⟨fun m hm => by omega, fun j _ => gi_replicate _ _⟩
  | succ k ih =>
    obtain ⟨h1, h2⟩ := ih (by omega)
    have hk2 := hr k (by omega)
    refine ⟨fun m hm => ?_, fun j hj => ?_⟩
    · show gi ((spTo L idx vals k).set (gi idx k).toNat (gi vals k)) _ = _
      by_cases e : m = k
      · subst e; exact gi_set_self _ _ _ (by rw [spTo_length]; omega)
      · have := ris_lt hr m k (by omega) (by omega)
        have h3 := (hr m (by omega)).1
        rw [gi_set_ne _ _ _ _ (by omega)]
        exact h1 m (by omega)
    · show gi ((spTo L idx vals k).set (gi idx k).toNat (gi vals k)) _ = _
      rw [gi_set_ne _ _ _ _ (fun e => hj k (by omega) e.symm)]
      exact h2 j (fun m hm => hj m (by omega))
/-- A word's value when one place is set. -/
theorem svTo_set {zs : List Int} (hz : VF.els V zs) {x : Int} (hx : V.F.el x) {i : Nat} (hi : i < zs.length) (h0 : gi zs i = 0) {v : Int} (hv : V.F.el v) (k : Nat) :
    VF.of V (svTo V.F (zs.set i v) x k) = VF.of V (svTo V.F zs x k) + (if i < k then VF.of V v * VF.of V x ^ (k - 1 - i) else 0) := by
  induction k with
  | zero => show VF.of V 0 = VF.of V 0 + _; rw [if_neg (by omega)]; grind
  | succ k ih =>
    have hs := hz.set i hv
    have e1 : VF.of V (svTo V.F (zs.set i v) x (k + 1)) = VF.of V (svTo V.F (zs.set i v) x k) * VF.of V x + VF.of V (gi (zs.set i v) k) := by
      show VF.of V (V.F.add (V.F.mul _ x) _) = _
      rw [VF.of_add (FF.mul_el V.ok _ _) (show V.F.el (gi (zs.set i v) k) from hs.getD k), VF.of_mul (svTo_el V.ok hs x k) hx]
    have e2 : VF.of V (svTo V.F zs x (k + 1)) = VF.of V (svTo V.F zs x k) * VF.of V x + VF.of V (gi zs k) := by
      show VF.of V (V.F.add (V.F.mul _ x) _) = _
      rw [VF.of_add (FF.mul_el V.ok _ _) (show V.F.el (gi zs k) from hz.getD k), VF.of_mul (svTo_el V.ok hz x k) hx]
    rw [e1, e2, ih]
    by_cases h1 : k = i
    · subst h1
      rw [gi_set_self _ _ _ hi, h0, if_neg (by omega), if_pos (by omega), VF.of_zero, show k + 1 - 1 - k = 0 by omega]; grind
    · rw [gi_set_ne _ _ _ _ h1]
      by_cases h2 : i < k
      · rw [if_pos h2, if_pos (by omega), show k + 1 - 1 - i = (k - 1 - i) + 1 by omega]; grind
      · rw [if_neg h2, if_neg (by omega)]; grind
theorem svTo_zero (L : Nat) (x : Int) (k : Nat) : svTo V.F (List.replicate L 0) x k = 0 := by
  induction k with
  | zero => rfl
  | succ k ih => show V.F.add (V.F.mul (svTo V.F _ x k) x) (gi (List.replicate L 0) k) = 0; rw [ih, gi_replicate, FF.zero_mul', FF.add_zero' (FF.zero_el V.ok)]
theorem pow_swap (a b : Nat) : VF.of V (V.F.exp a) ^ b = VF.of V (V.F.exp (a * b)) := by
  rw [← VF.of_pow (FF.exp_el V.ok a), FF.pow_exp V.ok]
theorem spread_val {L : Nat} {idx vals : List Int} (hr : RisTo 0 ((L : Int) - 1) idx idx.length) (hv : VF.els V vals) (j : Nat) (k : Nat) (hk : k ≤ idx.length) :
    VF.of V (svTo V.F (spTo L idx vals k) (V.F.exp (j + 1)) L) = dot (fun m => locX V L idx m ^ (j + 1)) (fun m => VF.of V (gi vals m)) k := by
  induction k with
  | zero => show VF.of V (svTo V.F (List.replicate L 0) _ L) = 0; rw [svTo_zero]; exact VF.of_zero
  | succ k ih =>
    have hk2 := hr k (by omega)
    show VF.of V (svTo V.F ((spTo L idx vals k).set (gi idx k).toNat (gi vals k)) _ L) = dot _ _ k + _
    rw [svTo_set (spTo_els hv k) (FF.exp_el V.ok _) (by rw [spTo_length]; omega) ((spTo_at hr k (by omega)).2 _ (fun m hm e => by
      have := ris_lt hr m k hm (by omega)
      have := (hr m (by omega)).1
      omega)) (show V.F.el (gi vals k) from hv.getD k), ih (by omega), if_pos (by omega)]
    have e : VF.of V (V.F.exp (j + 1)) ^ (L - 1 - (gi idx k).toNat) = locX V L idx k ^ (j + 1) := by
      unfold locX locI
      rw [pow_swap, pow_swap, Nat.mul_comm]
      congr 3
      omega
    rw [e]; grind
/-- The syndromes of a word of values. -/
theorem spread_syn {L c : Nat} {idx vals : List Int} (hr : RisTo 0 ((L : Int) - 1) idx idx.length) (hv : VF.els V vals) {S : List Int} (hS : VF.els V S) (hSl : S.length = c) :
    syn V.F (spread L idx vals) c = S ↔ Cons V L c S idx (fun m => VF.of V (gi vals m)) := by
  have hel : ∀ j, V.F.el (svTo V.F (spread L idx vals) (V.F.exp (j + 1)) (spread L idx vals).length) := fun j => svTo_el V.ok (spTo_els hv _) _ _
  have key : ∀ j, j < c → VF.of V (gi (syn V.F (spread L idx vals) c) j) = dot (fun m => locX V L idx m ^ (j + 1)) (fun m => VF.of V (gi vals m)) idx.length := fun j hj => by
    rw [syn_gi V.F _ hj]
    unfold spread
    rw [spTo_length]
    exact spread_val hr hv j _ (Nat.le_refl _)
  constructor
  · intro e j hj
    rw [← key j hj, e]
  · intro h
    apply List.ext_getElem
    · rw [syn_length, hSl]
    · intro j h1 h2
      rw [syn_length] at h1
      have h3 := (key j h1).trans (h j h1).symm
      have h4 := VF.of_inj (V := V) (by rw [syn_gi V.F _ h1]; exact hel j) (show V.F.el (gi S j) from hS.getD j) h3
      unfold gi at h4
      rw [List.getD_eq_getElem?_getD, List.getElem?_eq_getElem (by rw [syn_length]; exact h1), List.getD_eq_getElem?_getD, List.getElem?_eq_getElem h2] at h4
      simpa using h4
theorem valsL_els (V : VF) (l : Int) (c : Nat) (S idx : List Int) : VF.els V (valsL V l c S idx) := fun z hz => by
  obtain ⟨i, _, rfl⟩ := List.mem_map.1 hz
  exact FF.neg_el (FF.mul_el V.ok _ _)
theorem valsL_gi (l : Int) (c : Nat) (S idx : List Int) (m : Nat) (hm : m < idx.length) : gi (valsL V l c S idx) m = forV V l c S idx (gi idx m) := by
  unfold valsL gi
  rw [List.getD_eq_getElem?_getD, List.getElem?_map, List.getElem?_eq_getElem hm, List.getD_eq_getElem?_getD, List.getElem?_eq_getElem hm]; rfl
/-- Forney's values give the syndromes if any values do. -/
theorem vals_cons {L c : Nat} (hl : (L : Int) < V.F.size) {S idx : List Int} (hr : RisTo 0 ((L : Int) - 1) idx idx.length) (hn : idx.length ≤ c) {w : Nat → El V} (h : Cons V L c S idx w) :
    Cons V L c S idx (fun m => VF.of V (gi (valsL V L c S idx) m)) := fun j hj => by
  rw [h j hj]
  refine PS.dot_congr _ fun m hm => ⟨rfl, ?_⟩
  rw [valsL_gi _ _ _ _ _ hm, forney_vals hl hr hn h m hm]
/-- Whether there are values that give the syndromes. -/
noncomputable def valB (V : VF) (l : Int) (c : Nat) (S idx : List Int) : Bool := decide (syn V.F (spread l.toNat idx (valsL V l c S idx)) c = S)
theorem valB_iff {L c : Nat} (hl : (L : Int) < V.F.size) {S idx : List Int} (hr : RisTo 0 ((L : Int) - 1) idx idx.length) (hn : idx.length ≤ c) (hS : VF.els V S) (hSl : S.length = c) :
    valB V L c S idx = true ↔ ∃ w, Cons V L c S idx w := by
  unfold valB
  rw [decide_eq_true_iff, Int.toNat_natCast, spread_syn hr (valsL_els V _ _ _ _) hS hSl]
  exact ⟨fun h => ⟨_, h⟩, fun ⟨w, h⟩ => vals_cons hl hr hn h⟩
/-- A solution of the first equations: its word has these syndromes exactly if Forney's has, and then they are the same. -/
theorem sol_vals {L c : Nat} (hl : (L : Int) < V.F.size) {S idx : List Int} (hr : RisTo 0 ((L : Int) - 1) idx idx.length) (hn : idx.length ≤ c) (hS : VF.els V S) (hSl : S.length = c) {vs : List Int} (hv : VF.els V vs) (hvl : vs.length = idx.length)
    (hs : PS.Sol idx.length (MX V L S idx) (fun m => VF.of V (gi vs m))) :
    (syn V.F (spread L idx vs) c = S ↔ valB V L c S idx = true) ∧ (valB V L c S idx = true → vs = valsL V L c S idx) := by
  have hu : ∀ w, Cons V L c S idx w → ∀ m, m < idx.length → VF.of V (gi vs m) = w m := fun w h m hm => hs.uniq (MX_nons hl S hr) (h.sol hn) m hm
  refine ⟨?_, fun h => ?_⟩
  · rw [spread_syn hr hv hS hSl, valB_iff hl hr hn hS hSl]
    refine ⟨fun h => ⟨_, h⟩, fun ⟨w, h⟩ j hj => ?_⟩
    rw [h j hj]
    exact PS.dot_congr _ fun m hm => ⟨rfl, (hu w h m hm).symm⟩
  · obtain ⟨w, hw⟩ := (valB_iff hl hr hn hS hSl).1 h
    apply List.ext_getElem
    · rw [hvl]; unfold valsL; simp
    · intro m h1 h2
      have hm : m < idx.length := by omega
      have h3 : VF.of V (gi vs m) = VF.of V (gi (valsL V L c S idx) m) := by rw [hu w hw m hm, valsL_gi _ _ _ _ _ hm, forney_vals hl hr hn hw m hm]
      have h4 := VF.of_inj (V := V) (show V.F.el (gi vs m) from hv.getD m) (show V.F.el (gi (valsL V L c S idx) m) from (valsL_els V _ _ _ _).getD m) h3
      unfold gi at h4
      rw [List.getD_eq_getElem?_getD, List.getElem?_eq_getElem h1, List.getD_eq_getElem?_getD, List.getElem?_eq_getElem h2] at h4
      simpa using h4
end Go.Proofs.Ytfhkkpfiflgofaa
/-
  Decoding: which indices are wrong, and what the finders find. Plain mathematics over the program's words.
-/
namespace Go.Proofs.Ytfhkkpfiflgofaa
open PS (dot)
set_option linter.unusedVariables false
variable {V : VF}

/-- The indices below k with a property, in order. -/
def filtL (P : Nat → Bool) (k : Nat) : List Int := ((List.range k).filter P).map Int.ofNat
theorem filtL_yes {P : Nat → Bool} {k : Nat} (h : P k = true) : filtL P (k + 1) = filtL P k ++ [(k : Int)] := by
  unfold filtL; rw [List.range_succ, List.filter_append, List.map_append]; simp [h]
theorem filtL_no {P : Nat → Bool} {k : Nat} (h : P k = false) : filtL P (k + 1) = filtL P k := by
  unfold filtL; rw [List.range_succ, List.filter_append, List.map_append]; simp [h]
theorem filtL_length (P : Nat → Bool) (k : Nat) : (filtL P k).length ≤ k := by
  unfold filtL; rw [List.length_map]; exact Nat.le_trans (List.length_filter_le _ _) (by simp)
theorem filtL_mem {P : Nat → Bool} {k : Nat} {z : Int} : z ∈ filtL P k ↔ ∃ i : Nat, i < k ∧ z = (i : Int) ∧ P i = true := by
  unfold filtL
  rw [List.mem_map]
  constructor
  · rintro ⟨i, hi, rfl⟩
    obtain ⟨h1, h2⟩ := List.mem_filter.1 hi
    exact ⟨i, List.mem_range.1 h1, rfl, h2⟩
  · rintro ⟨i, hi, rfl, h⟩
    exact ⟨i, List.mem_filter.2 ⟨List.mem_range.2 hi, h⟩, rfl⟩
theorem filtL_ris (P : Nat → Bool) (hi : Int) (k : Nat) (hk : (k : Int) ≤ hi + 1) : RisTo 0 hi (filtL P k) (filtL P k).length := by
  induction k with
  | zero => intro j hj; exact absurd hj (by show ¬ j < 0; omega)
  | succ k ih =>
    have ih := ih (by omega)
    cases h : P k
    · rw [filtL_no h]; exact ih
    · rw [filtL_yes h]
      exact ih.snoc (by omega) (by omega) (fun z hz => by
        obtain ⟨i, hi, rfl, _⟩ := filtL_mem.1 hz
        omega)
theorem filtL_congr {P Q : Nat → Bool} {k : Nat} (h : ∀ i, i < k → P i = Q i) : filtL P k = filtL Q k := by
  unfold filtL
  congr 1
  exact List.filter_congr fun i hi => h i (List.mem_range.1 hi)
theorem gi_mem {l : List Int} {k : Nat} (h : k < l.length) : gi l k ∈ l := by
  unfold gi; rw [List.getD_eq_getElem?_getD, List.getElem?_eq_getElem h]; exact List.getElem_mem _
theorem mem_gi {l : List Int} {z : Int} (h : z ∈ l) : ∃ k, k < l.length ∧ gi l k = z := by
  obtain ⟨k, hk, rfl⟩ := List.getElem_of_mem h
  exact ⟨k, hk, by unfold gi; rw [List.getD_eq_getElem?_getD, List.getElem?_eq_getElem hk]; rfl⟩
theorem gi_ext {a b : List Int} (hl : a.length = b.length) (h : ∀ i, i < a.length → gi a i = gi b i) : a = b := by
  apply List.ext_getElem hl
  intro i h1 h2
  have := h i h1
  unfold gi at this
  rw [List.getD_eq_getElem?_getD, List.getElem?_eq_getElem h1, List.getD_eq_getElem?_getD, List.getElem?_eq_getElem h2] at this
  simpa using this
/-- A rising list below k is the list of its members. -/
theorem ris_filt {k : Nat} {zs : List Int} (h : RisTo 0 ((k : Int) - 1) zs zs.length) : zs = filtL (fun i => zs.contains (i : Int)) k := by
  induction k generalizing zs with
  | zero =>
    cases zs with
    | nil => rfl
    | cons a l => have := h 0 (by simp); omega
  | succ k ih =>
    by_cases hk : (k : Int) ∈ zs
    · -- k is the last
      rw [filtL_yes (by simpa using hk)]
      obtain ⟨j, hj, e⟩ := mem_gi hk
      have hlast : j = zs.length - 1 := by
        rcases Nat.lt_or_ge j (zs.length - 1) with h1 | h1
        · have h2 := ris_lt h j (zs.length - 1) h1 (by omega)
          have h3 := (h (zs.length - 1) (by omega)).2.1
          omega
        · omega
      have hd : zs = zs.take (zs.length - 1) ++ [(k : Int)] := by
        have h1 : zs.take (zs.length - 1 + 1) = zs.take (zs.length - 1) ++ [zs.getD (zs.length - 1) 0] := VF.take_succ_getD zs (zs.length - 1) (by omega)
        rw [show zs.length - 1 + 1 = zs.length by omega, List.take_length] at h1
        rw [← hlast] at h1 ⊢
        have e' : zs.getD j 0 = (k : Int) := e
        rw [e'] at h1; exact h1
      obtain ⟨ys, hys⟩ : ∃ ys, zs.take (zs.length - 1) = ys := ⟨_, rfl⟩
      rw [hys] at hd
      have hris : RisTo 0 ((k : Int) - 1) ys ys.length := by
        intro i hi
        have hl : zs.length = ys.length + 1 := by rw [hd]; simp
        have h1 := h i (by omega)
        have e1 : gi zs i = gi ys i := by rw [hd]; exact gi_append_left hi
        rw [e1] at h1
        refine ⟨h1.1, ?_, fun h0 => ?_⟩
        · have h2 := ris_lt h i ys.length (by omega) (by omega)
          have h3 := (h ys.length (by omega)).2.1
          rw [e1] at h2; omega
        · have h2 := h1.2.2 h0
          have e2 : gi zs (i - 1) = gi ys (i - 1) := by rw [hd]; exact gi_append_left (by omega)
          rw [e2] at h2; exact h2
      have := ih hris
      rw [show filtL (fun i => zs.contains (i : Int)) k = filtL (fun i => ys.contains (i : Int)) k from filtL_congr fun i hi => by
        rw [hd]
        have : ¬ (i : Int) = (k : Int) := by omega
        simp [this], ← this]
      exact hd
    · rw [filtL_no (by simpa using hk)]
      exact ih (fun i hi => by
        have h1 := h i hi
        have : gi zs i ≠ (k : Int) := fun e => hk (by rw [← e]; exact gi_mem hi)
        exact ⟨h1.1, by omega, h1.2.2⟩)
theorem ris_ext {k : Nat} {a b : List Int} (ha : RisTo 0 ((k : Int) - 1) a a.length) (hb : RisTo 0 ((k : Int) - 1) b b.length) (h : ∀ z, z ∈ a ↔ z ∈ b) : a = b := by
  rw [ris_filt ha, ris_filt hb]
  refine filtL_congr fun i _ => ?_
  have := h (i : Int)
  by_cases h1 : (i : Int) ∈ a
  · simp [h1, this.1 h1]
  · have h2 : ¬ (i : Int) ∈ b := fun x => h1 (this.2 x)
    simp [h1, h2]
/-- The indices outside E at which two words differ. -/
def errs (L : Nat) (word E o : List Int) : List Int := filtL (fun i => !E.contains (i : Int) && gi word i != gi o i) L
/-- o is a code word near enough. -/
structure Dec (V : VF) (L c : Nat) (word E o : List Int) : Prop where
  els : VF.els V o
  len : o.length = L
  zero : ∀ j, j < c → svTo V.F o (V.F.exp (j + 1)) L = 0
  dmg : E.length + 2 * (errs L word E o).length ≤ c
theorem svTo_add {zs a b : List Int} (hz : VF.els V zs) (ha : VF.els V a) (hb : VF.els V b) {x : Int} (hx : V.F.el x) (k : Nat) (h : ∀ i, i < k → VF.of V (gi zs i) = VF.of V (gi a i) + VF.of V (gi b i)) :
    VF.of V (svTo V.F zs x k) = VF.of V (svTo V.F a x k) + VF.of V (svTo V.F b x k) := by
  have e : ∀ (l : List Int), VF.els V l → ∀ k, VF.of V (svTo V.F l x (k + 1)) = VF.of V (svTo V.F l x k) * VF.of V x + VF.of V (gi l k) := fun l hl k => by
    show VF.of V (V.F.add (V.F.mul _ x) _) = _
    rw [VF.of_add (FF.mul_el V.ok _ _) (show V.F.el (gi l k) from hl.getD k), VF.of_mul (svTo_el V.ok hl x k) hx]
  induction k with
  | zero => show VF.of V 0 = VF.of V 0 + VF.of V 0; rw [VF.of_zero]; grind
  | succ k ih => rw [e zs hz, e a ha, e b hb, ih (fun i hi => h i (by omega)), h k (by omega)]; grind
/-- The differences at some indices. -/
def difs (F : FF) (word o pl : List Int) : List Int := pl.map fun i => F.add (gi word i.toNat) (F.neg (gi o i.toNat))
theorem difs_els {word o : List Int} (hw : VF.els V word) (ho : VF.els V o) (pl : List Int) : VF.els V (difs V.F word o pl) := fun z hz => by
  obtain ⟨i, _, rfl⟩ := List.mem_map.1 hz
  exact FF.add_el V.ok (hw.getD _) (FF.neg_el (ho.getD _))
theorem difs_gi (F : FF) (word o pl : List Int) {m : Nat} (hm : m < pl.length) : gi (difs F word o pl) m = F.add (gi word (gi pl m).toNat) (F.neg (gi o (gi pl m).toNat)) := by
  unfold difs gi
  rw [List.getD_eq_getElem?_getD, List.getElem?_map, List.getElem?_eq_getElem hm, List.getD_eq_getElem?_getD (l := pl), List.getElem?_eq_getElem hm]; rfl
theorem of_dif {a b : Int} (ha : V.F.el a) (hb : V.F.el b) : VF.of V (V.F.add a (V.F.neg b)) = VF.of V a - VF.of V b := by
  rw [VF.of_add ha (FF.neg_el hb), VF.of_neg hb]; grind
/-- A word is a code word and the differences, if these stand at all indices where the two differ. -/
theorem word_sum {L : Nat} {word o pl : List Int} (hw : VF.els V word) (ho : VF.els V o) (hr : RisTo 0 ((L : Int) - 1) pl pl.length) (hout : ∀ i, i < L → gi word i ≠ gi o i → (i : Int) ∈ pl) (i : Nat) (hi : i < L) :
    VF.of V (gi word i) = VF.of V (gi o i) + VF.of V (gi (spread L pl (difs V.F word o pl)) i) := by
  obtain ⟨h1, h2⟩ := spTo_at (vals := difs V.F word o pl) hr pl.length (Nat.le_refl _)
  by_cases hm : (i : Int) ∈ pl
  · obtain ⟨m, hm1, hm2⟩ := mem_gi hm
    have h3 := h1 m hm1
    rw [hm2, Int.toNat_natCast] at h3
    show _ = _ + VF.of V (gi (spTo L pl _ pl.length) i)
    rw [h3, difs_gi _ _ _ _ hm1, hm2, Int.toNat_natCast, of_dif (show V.F.el (gi word i) from hw.getD i) (show V.F.el (gi o i) from ho.getD i)]; grind
  · have h3 := h2 i (fun m hm1 e => hm (by
      have h4 := (hr m hm1).1
      have : (i : Int) = gi pl m := by omega
      rw [this]; exact gi_mem hm1))
    show _ = _ + VF.of V (gi (spTo L pl _ pl.length) i)
    rw [h3, VF.of_zero]
    have : gi word i = gi o i := Classical.byContradiction fun e => hm (hout i hi e)
    rw [this]; grind
theorem Dec.cons {L c : Nat} {word E o pl : List Int} (h : Dec V L c word E o) (hw : VF.els V word) (hwl : word.length = L) (hr : RisTo 0 ((L : Int) - 1) pl pl.length) (hout : ∀ i, i < L → gi word i ≠ gi o i → (i : Int) ∈ pl) :
    Cons V L c (syn V.F word c) pl (fun m => VF.of V (gi (difs V.F word o pl) m)) := fun j hj => by
  rw [syn_gi V.F _ hj, hwl]
  rw [svTo_add hw h.els (spTo_els (difs_els hw h.els pl) _) (FF.exp_el V.ok _) L (fun i hi => word_sum hw h.els hr hout i hi), h.zero j hj, VF.of_zero]
  have := spread_val (V := V) (vals := difs V.F word o pl) hr (difs_els hw h.els pl) j pl.length (Nat.le_refl _)
  rw [this]; grind
end Go.Proofs.Ytfhkkpfiflgofaa
/-
  The finders of locator polynomials. Plain mathematics over the program's words.
-/
namespace Go.Proofs.Ytfhkkpfiflgofaa
open PS (dot)
set_option linter.unusedVariables false
variable {V : VF}

theorem gs_perm {K : Type} [CR K] {E D : List (K × K)} (h : E.Perm D) : PS.gs E = PS.gs D := by
  induction h with
  | nil => rfl
  | cons x _ ih => show _ + PS.gs _ = _ + PS.gs _; rw [ih]
  | swap x y l => show _ + (_ + PS.gs l) = _ + (_ + PS.gs l); grind
  | trans _ _ h1 h2 => rw [h1, h2]
theorem errs_mem {L : Nat} {word E o : List Int} {z : Int} : z ∈ errs L word E o ↔ ∃ i : Nat, i < L ∧ z = (i : Int) ∧ ¬ (i : Int) ∈ E ∧ gi word i ≠ gi o i := by
  unfold errs
  rw [filtL_mem]
  simp
theorem errs_ris (L : Nat) (word E o : List Int) : RisTo 0 ((L : Int) - 1) (errs L word E o) (errs L word E o).length := filtL_ris _ _ _ (by omega)
/-- What a word's difference is at an index. -/
noncomputable def dd (V : VF) (word o : List Int) (i : Int) : El V := VF.of V (gi word i.toNat) - VF.of V (gi o i.toNat)
noncomputable def EF (V : VF) (L : Nat) (word o pl : List Int) : List (El V × El V) := pl.map fun i => (VF.of V (locI V.F L i), dd V word o i)
theorem EF_Eof {L : Nat} {word o : List Int} (hw : VF.els V word) (ho : VF.els V o) (pl : List Int) : Eof V L pl (fun m => VF.of V (gi (difs V.F word o pl) m)) pl.length = EF V L word o pl := by
  unfold Eof EF
  rw [← range_map_gi]
  refine List.map_congr_left fun m hm => ?_
  show (locX V L pl m, VF.of V (gi (difs V.F word o pl) m)) = _
  rw [difs_gi _ _ _ _ (List.mem_range.1 hm), of_dif (show V.F.el (gi word _) from hw.getD _) (show V.F.el (gi o _) from ho.getD _)]; rfl
theorem EF_fst (L : Nat) (word o pl : List Int) : (EF V L word o pl).map (·.1) = pl.map fun i => VF.of V (locI V.F L i) := by
  unfold EF; rw [List.map_map]; rfl
theorem EF_append (L : Nat) (word o a b : List Int) : EF V L word o (a ++ b) = EF V L word o a ++ EF V L word o b := by unfold EF; rw [List.map_append]
/-- A series that starts with n zeros. -/
theorem shift_of {K : Type} [CR K] {f : PS K} {n : Nat} (h : ∀ i, i < n → f.c i = 0) : ∃ g : PS K, f = (PS.X : PS K) ^ n * g ∧ ∀ i, g.c i = f.c (n + i) :=
  ⟨⟨fun i => f.c (n + i)⟩, PS.ext' fun i => by
    rw [PS.Xpow_c]
    split
    · rename_i hi
      show _ = f.c (n + (i - n))
      rw [show n + (i - n) = i by omega]
    · rename_i hi; exact h i (by omega), fun i => rfl⟩
/-- What the finders start from. -/
structure Start (V : VF) (L c : Nat) (word E o : List Int) (O w : PS (El V)) : Prop where
  eq : locP V L (errs L word E o) * VF.ps V (omL V L c (syn V.F word c) E) = O + (PS.X : PS (El V)) ^ c * w
  wp : w.IsPoly
  od : O.dlt ((errs L word E o).length + E.length)
  inv : ∀ a ∈ (errs L word E o).map fun i => VF.of V (locI V.F L i), ∃ b, a * b = 1 ∧ PS.ev O b ≠ 0
theorem Dec.start {L c : Nat} (hL : (L : Int) < V.F.size) {word E o : List Int} (h : Dec V L c word E o) (hw : VF.els V word) (hwl : word.length = L) (hE : RisTo 0 ((L : Int) - 1) E E.length) : ∃ O w, Start V L c word E o O w := by
  have hFr := errs_ris L word E o
  obtain ⟨F, hF⟩ : ∃ F, errs L word E o = F := ⟨_, rfl⟩
  have hFm : ∀ z, z ∈ F → ∃ i : Nat, i < L ∧ z = (i : Int) ∧ ¬ (i : Int) ∈ E ∧ gi word i ≠ gi o i := fun z hz => errs_mem.1 (by rw [hF]; exact hz)
  have hFm2 : ∀ i : Nat, i < L → ¬ (i : Int) ∈ E → gi word i ≠ gi o i → (i : Int) ∈ F := fun i h1 h2 h3 => by rw [← hF]; exact errs_mem.2 ⟨i, h1, rfl, h2, h3⟩
  rw [hF] at hFr
  -- all places
  obtain ⟨pl, hpl⟩ : ∃ pl, filtL (fun i => F.contains (i : Int) || E.contains (i : Int)) L = pl := ⟨_, rfl⟩
  have hplr : RisTo 0 ((L : Int) - 1) pl pl.length := by rw [← hpl]; exact filtL_ris _ _ _ (by omega)
  have hplm : ∀ z, z ∈ pl ↔ z ∈ F ++ E := fun z => by
    rw [← hpl, filtL_mem, List.mem_append]
    constructor
    · rintro ⟨i, _, rfl, h1⟩
      simpa using h1
    · intro h1
      rcases h1 with h1 | h1
      · obtain ⟨i, hi, rfl, _⟩ := hFm z h1
        exact ⟨i, hi, rfl, by simp [h1]⟩
      · obtain ⟨h2, h3⟩ := ris_mem hE h1
        exact ⟨z.toNat, by omega, by omega, by rw [show ((z.toNat : Nat) : Int) = z by omega]; simp [h1]⟩
  have hFE : (F ++ E).Nodup := by
    rw [List.nodup_append]
    refine ⟨nodup_of_ris hFr, nodup_of_ris hE, fun a ha b hb e => ?_⟩
    obtain ⟨i, _, rfl, h1, _⟩ := hFm a ha
    exact h1 (by rw [e]; exact hb)
  have hperm : pl.Perm (F ++ E) := (List.perm_ext_iff_of_nodup (nodup_of_ris hplr) hFE).2 hplm
  have hcons := h.cons hw hwl hplr (fun i hi hne => (hplm _).2 (by
    by_cases hm : (i : Int) ∈ E
    · exact List.mem_append_right _ hm
    · exact List.mem_append_left _ (hFm2 i hi hm hne)))
  have hgs : ∀ j, j < c → (PS.gs (EF V L word o (F ++ E))).c j = VF.of V (gi (syn V.F word c) j) := fun j hj => by
    have e1 : PS.gs (EF V L word o (F ++ E)) = PS.gs (EF V L word o pl) := (gs_perm (hperm.map _)).symm
    rw [e1, ← EF_Eof hw h.els pl, gsE_c, hcons j hj]
  have hlam := PS.lam_gs (EF V L word o (F ++ E))
  rw [EF_fst, List.map_append, PS.lam_append] at hlam
  -- the low part
  have hlow : ∀ i, i < c → (VF.ps V (omL V L c (syn V.F word c) E) - PS.gs (EF V L word o (F ++ E)) * locP V L E).c i = 0 := fun i hi => by
    rw [PS.sub_c, omL_c, if_pos hi]
    rw [mul_low c i (VF.ps V (syn V.F word c)) (PS.gs (EF V L word o (F ++ E))) (locP V L E) hi (fun j hj => by rw [hgs j hj]; rfl)]
    grind
  obtain ⟨w1, hw1, _⟩ := shift_of hlow
  have hFpoly := locP_poly V (L : Int) F
  have hOp := PS.isPoly_om (EF V L word o (F ++ E))
  have hEq : locP V L F * VF.ps V (omL V L c (syn V.F word c) E) = PS.om (EF V L word o (F ++ E)) + (PS.X : PS (El V)) ^ c * (locP V L F * w1) := by
    have e1 : VF.ps V (omL V L c (syn V.F word c) E) = PS.gs (EF V L word o (F ++ E)) * locP V L E + (PS.X : PS (El V)) ^ c * w1 := by rw [← hw1]; grind
    rw [e1, ← hlam]
    show locP V L F * (PS.gs (EF V L word o (F ++ E)) * locP V L E + (PS.X : PS (El V)) ^ c * w1) = locP V L F * locP V L E * PS.gs (EF V L word o (F ++ E)) + (PS.X : PS (El V)) ^ c * (locP V L F * w1)
    grind
  refine ⟨PS.om (EF V L word o (F ++ E)), locP V L F * w1, ⟨by rw [hF]; exact hEq, ?_, ?_, ?_⟩⟩
  · -- a polynomial
    obtain ⟨n, hn⟩ := (hFpoly.mul (VF.ps_poly (V := V) (omL V L c (syn V.F word c) E))).sub hOp
    refine ⟨n, fun i hi => ?_⟩
    have h1 : ((PS.X : PS (El V)) ^ c * (locP V L F * w1)).c (c + i) = 0 := by
      have e2 : (PS.X : PS (El V)) ^ c * (locP V L F * w1) = locP V L F * VF.ps V (omL V L c (syn V.F word c) E) - PS.om (EF V L word o (F ++ E)) := by rw [hEq]; grind
      rw [e2]; exact hn _ (by omega)
    rw [PS.Xpow_c, if_pos (by omega), Nat.add_sub_cancel_left] at h1
    exact h1
  · have := PS.dlt_om (EF V L word o (F ++ E))
    unfold EF at this
    rw [List.length_map, List.length_append] at this
    rw [hF]; exact this
  · rw [hF]
    intro a ha
    obtain ⟨i, hi, rfl⟩ := List.mem_map.1 ha
    refine ⟨_, loc_inv L i, ?_⟩
    obtain ⟨F1, F2, rfl⟩ := List.append_of_mem hi
    obtain ⟨n, hn, rfl, hnE, hne⟩ := hFm i hi
    have hsplit : EF V L word o (F1 ++ (n : Int) :: F2 ++ E) = EF V L word o F1 ++ (VF.of V (locI V.F L (n : Int)), dd V word o (n : Int)) :: EF V L word o (F2 ++ E) := by
      rw [List.append_assoc, List.cons_append, EF_append]; rfl
    rw [hsplit, PS.ev_om_at _ _ _ _ _ (loc_inv L (n : Int)), EF_fst, EF_fst]
    have hinj : ∀ z, z ∈ F1 ++ (n : Int) :: F2 ++ E → 0 ≤ z ∧ z ≤ (L : Int) - 1 := fun z hz => by
      rcases List.mem_append.1 hz with h1 | h1
      · exact ris_mem hFr h1
      · exact ris_mem hE h1
    have hnot : ∀ (l : List Int), (∀ z ∈ l, z ∈ F1 ++ (n : Int) :: F2 ++ E) → ¬ (n : Int) ∈ l → PS.ev (PS.lam (l.map fun i => VF.of V (locI V.F L i))) (VF.of V (V.F.inv (locI V.F L (n : Int)))) ≠ 0 := fun l h1 h2 h3 => by
      obtain ⟨z, hz, e⟩ := List.mem_map.1 ((PS.ev_lam_zero _ (loc_inv L (n : Int))).1 h3)
      have e2 := VF.of_inj (V := V) (locI_el V L z) (locI_el V L (n : Int)) e
      obtain ⟨a1, a2⟩ := hinj z (h1 z hz)
      have := locI_inj hL a1 a2 (by omega) (by omega) e2
      exact h2 (by rw [← this]; exact hz)
    have hdn : dd V word o (n : Int) ≠ 0 := fun e => hne (by
      unfold dd at e
      rw [Int.toNat_natCast] at e
      exact VF.of_inj (V := V) (show V.F.el (gi word n) from hw.getD n) (show V.F.el (gi o n) from h.els.getD n) (by grind))
    have hnd2 := hFE
    rw [List.append_assoc, List.cons_append, List.nodup_append] at hnd2
    have h4 := List.nodup_cons.1 hnd2.2.1
    refine mul_ne (mul_ne hdn (fun e => locI_ne (V := V) L (n : Int) ((VF.of_eq_zero (locI_el V L _)).1 e))) (mul_ne (hnot F1 (fun z hz => by simp [hz]) ?_) (hnot (F2 ++ E) (fun z hz => by rcases List.mem_append.1 hz with h | h <;> simp [h]) h4.1))
    intro h5
    exact hnd2.2.2 (n : Int) h5 (n : Int) (by simp) rfl
/-- The state of Euclid's algorithm. -/
structure EI (V : VF) (d : Nat) (sp : PS (El V)) (a b : List Int) (u v : PS (El V)) : Prop where
  ha : VF.isP V a
  hb : VF.isP V b
  lt : b.length < a.length
  la : a.length ≤ d + 1
  up : u.IsPoly
  vp : v.IsPoly
  du : u.dlt (d + 2 - a.length)
  dv : v.dlt (d + 2 - a.length)
  ex : ∃ p q : PS (El V), p.IsPoly ∧ q.IsPoly ∧ VF.ps V a = p * (PS.X : PS (El V)) ^ d + u * sp ∧ VF.ps V b = q * (PS.X : PS (El V)) ^ d + v * sp ∧ (p * v - q * u = 1 ∨ p * v - q * u = -1)
theorem DivOf.qlen {p d q r : List Int} (hd : VF.isP V d) (h : VF.DivOf V p d q r) (h0 : q ≠ []) : q.length + d.length ≤ p.length + 1 := by
  have hq := List.length_pos_iff.2 h0
  have hdl : 0 < d.length := by have := h.len; omega
  obtain ⟨m, hm⟩ : ∃ m, q.length = m + 1 := ⟨q.length - 1, by omega⟩
  obtain ⟨n, hn⟩ : ∃ n, d.length = n + 1 := ⟨d.length - 1, by omega⟩
  have h1 : (VF.ps V q).dlt (m + 1) := by rw [← hm]; exact VF.ps_dlt q
  have h2 : (VF.ps V d).dlt (n + 1) := by rw [← hn]; exact VF.ps_dlt d
  have htop := PS.mul_top h2 m (VF.ps V q) h1
  have e1 := h.hq.top hq
  have e2 := hd.top hdl
  rw [hm, Nat.add_sub_cancel] at e1
  rw [hn, Nat.add_sub_cancel] at e2
  have hr : (VF.ps V r).c (m + n) = 0 := VF.ps_dlt r _ (by have := h.len; omega)
  have hc : (VF.ps V p).c (m + n) ≠ 0 := by
    rw [h.eq, PS.add_c, htop, hr]
    intro e
    exact mul_ne e1 e2 (by grind)
  apply Classical.byContradiction; intro hlt
  exact hc (VF.ps_dlt p _ (by omega))
theorem EI.step {d : Nat} {sp : PS (El V)} {a b q r : List Int} {u v : PS (El V)} (h : EI V d sp a b u v) (hb0 : b ≠ []) (hd : VF.DivOf V a b q r) : EI V d sp b r v (u - VF.ps V q * v) := by
  have hq0 : q ≠ [] := fun e => by
    have := hd.eq
    rw [e, VF.ps_nil] at this
    have e2 : VF.ps V a = VF.ps V r := by rw [this]; grind
    have h1 := VF.isP_inj h.ha hd.hr e2
    have h2 := hd.len
    have h3 := h.lt
    rw [h1] at h3; omega
  have hql := DivOf.qlen h.hb hd hq0
  have hlt := h.lt
  have hla := h.la
  have hbl : 0 < b.length := List.length_pos_iff.2 hb0
  obtain ⟨p, qc, hp, hqc, e1, e2, e3⟩ := h.ex
  refine ⟨h.hb, hd.hr, hd.len, by omega, h.vp, h.up.sub ((VF.ps_poly q).mul h.vp), h.dv.mono (by omega), ?_, ⟨qc, p - VF.ps V q * qc, hqc, hp.sub ((VF.ps_poly q).mul hqc), e2, ?_, ?_⟩⟩
  · refine PS.dlt_sub (h.du.mono (by omega)) ?_
    obtain ⟨m, hm⟩ : ∃ m, q.length = m + 1 := ⟨q.length - 1, by have := List.length_pos_iff.2 hq0; omega⟩
    obtain ⟨n, hn⟩ : ∃ n, d + 2 - a.length = n + 1 := ⟨d + 1 - a.length, by omega⟩
    have h1 : (VF.ps V q).dlt (m + 1) := by rw [← hm]; exact VF.ps_dlt q
    have h2 := h.dv
    rw [hn] at h2
    exact (PS.dlt_mul h2 m (VF.ps V q) h1).mono (by omega)
  · have : VF.ps V r = VF.ps V a - VF.ps V q * VF.ps V b := by rw [hd.eq]; grind
    rw [this, e1, e2]; grind
  · rcases e3 with e3 | e3
    · right; grind
    · left; grind
/-- Where Euclid's algorithm stops, there stands the locator polynomial. -/
theorem EI.done {L c : Nat} (hL : (L : Int) < V.F.size) {word E o : List Int} {O w : PS (El V)} (hD : Dec V L c word E o) (hS : Start V L c word E o O w) {a b : List Int} {u v : PS (El V)}
    (h : EI V c (VF.ps V (omL V L c (syn V.F word c) E)) a b u v) (hEc : E.length ≤ c) (hb : b.length ≤ (c + E.length + 1) / 2) (ha : (c + E.length + 1) / 2 < a.length) :
    ∃ k : El V, k ≠ 0 ∧ v = PS.C k * locP V L (errs L word E o) := by
  obtain ⟨p, q, hp, hq, e1, e2, e3⟩ := h.ex
  have hdm := hD.dmg
  have hr := errs_ris L word E o
  have hla := h.la
  refine PS.euclid_key c ((c - E.length) / 2) ((c + E.length + 1) / 2) (S := VF.ps V (omL V L c (syn V.F word c) E)) (O := O) (w := w) (v := v) (r := VF.ps V b) (u := q) (ua := p) (va := u)
    ((errs L word E o).map fun i => VF.of V (locI V.F L i)) (locs_nodup hL hr) hS.inv hS.eq hS.wp ⟨_, hS.od⟩ e2 e3 hp h.up ?_ ?_ ?_ ?_ ?_
  · exact h.dv.mono (by omega)
  · rw [List.length_map]; omega
  · exact (VF.ps_dlt b).mono hb
  · exact hS.od.mono (by omega)
  · omega
end Go.Proofs.Ytfhkkpfiflgofaa
