/-
  Values of errors: what determines them. Plain mathematics over the program's words.
-/
import Derived.Test.YthbiieflmmnfcaaRoots
import Derived.Test.YthbiieflmmnfcaaGaussP
namespace Go.Proofs.Ythbiieflmmnfcaa
open PS (dot Mx Sol NonS)
set_option linter.unusedVariables false
variable {V : VF}

noncomputable def locX (V : VF) (l : Int) (idx : List Int) (m : Nat) : El V := VF.of V (locI V.F l (gi idx m))
noncomputable def Eof (V : VF) (l : Int) (idx : List Int) (w : Nat → El V) (n : Nat) : List (El V × El V) := (List.range n).map fun m => (locX V l idx m, w m)
theorem Eof_length (l : Int) (idx : List Int) (w : Nat → El V) (n : Nat) : (Eof V l idx w n).length = n := by unfold Eof; simp
theorem Eof_succ (l : Int) (idx : List Int) (w : Nat → El V) (n : Nat) : Eof V l idx w (n + 1) = Eof V l idx w n ++ [(locX V l idx n, w n)] := by unfold Eof; rw [List.range_succ, List.map_append]; rfl
theorem gsE_c (l : Int) (idx : List Int) (w : Nat → El V) (j : Nat) : ∀ n, (PS.gs (Eof V l idx w n)).c j = dot (fun m => locX V l idx m ^ (j + 1)) w n
  | 0 => rfl
  | n + 1 => by
    rw [Eof_succ, PS.gs_append, PS.add_c, gsE_c l idx w j n]
    show _ + (PS.C (w n * locX V l idx n) * PS.geom (locX V l idx n) + 0 : PS (El V)).c j = dot _ w n + locX V l idx n ^ (j + 1) * w n
    rw [PS.add_c, PS.C_mul_c]
    show _ + (w n * locX V l idx n * locX V l idx n ^ j + 0) = _
    grind
theorem range_map_gi {α : Type} (f : Int → α) (l : List Int) : (List.range l.length).map (fun m => f (gi l m)) = l.map f := by
  apply List.ext_getElem
  · simp
  · intro i h1 h2
    simp only [List.getElem_map, List.getElem_range]
    congr 1
    unfold gi
    rw [List.getD_eq_getElem?_getD, List.getElem?_eq_getElem (by simpa using h2)]; rfl
theorem Eof_fst (l : Int) (idx : List Int) (w : Nat → El V) : (Eof V l idx w idx.length).map (·.1) = idx.map fun i => VF.of V (locI V.F l i) := by
  unfold Eof
  rw [List.map_map, ← range_map_gi]; rfl
theorem lamE (l : Int) (idx : List Int) (w : Nat → El V) : PS.lam ((Eof V l idx w idx.length).map (·.1)) = locP V l idx := by rw [Eof_fst]; rfl
theorem locX_ne (l : Int) (idx : List Int) (m : Nat) : locX V l idx m ≠ 0 := fun h => locI_ne (V := V) l (gi idx m) ((VF.of_eq_zero (locI_el V _ _)).1 h)
/-- The system for the values. -/
noncomputable def MX (V : VF) (l : Int) (S idx : List Int) : Mx (El V) := fun j m => if m < idx.length then locX V l idx m ^ (j + 1) else VF.of V (gi S j)
theorem MX_dot (l : Int) (S idx : List Int) (x : Nat → El V) (j : Nat) : dot (MX V l S idx j) x idx.length = dot (fun m => locX V l idx m ^ (j + 1)) x idx.length :=
  PS.dot_congr _ fun m hm => ⟨by unfold MX; rw [if_pos hm], rfl⟩
theorem MX_nons {l : Int} (hl : l < V.F.size) (S : List Int) {idx : List Int} (hr : RisTo 0 (l - 1) idx idx.length) : NonS idx.length (MX V l S idx) := by
  intro x hx m hm
  have := PS.values_zero (Eof V l idx x idx.length) (by rw [Eof_fst]; exact locs_nodup hl hr) (by
    intro p hp
    obtain ⟨k, _, rfl⟩ := List.mem_map.1 hp
    exact locX_ne _ _ _) (by
    intro j hj
    rw [Eof_length] at hj
    rw [gsE_c, ← MX_dot l S idx x j]
    exact hx j hj)
  exact this (locX V l idx m, x m) (List.mem_map.2 ⟨m, List.mem_range.2 hm, rfl⟩)
/-- Values that give the syndromes. -/
def Cons (V : VF) (l : Int) (c : Nat) (S idx : List Int) (w : Nat → El V) : Prop := ∀ j, j < c → VF.of V (gi S j) = dot (fun m => locX V l idx m ^ (j + 1)) w idx.length
theorem Cons.sol {l : Int} {c : Nat} {S idx : List Int} {w : Nat → El V} (h : Cons V l c S idx w) (hn : idx.length ≤ c) : Sol idx.length (MX V l S idx) w := fun j hj => by
  rw [MX_dot, ← h j (by omega)]
  unfold MX; rw [if_neg (by omega)]
/-- The list of a polynomial's first n coefficients. -/
noncomputable def omL (V : VF) (l : Int) (c : Nat) (S idx : List Int) : List Int := VF.trim ((VF.lst V (VF.ps V (VF.trim S) * locP V l idx)).take c)
noncomputable def slL (V : VF) (l : Int) (idx : List Int) : List Int := VF.lst V (PS.D (locP V l idx))
/-- A value as Forney's formula has it. -/
noncomputable def forV (V : VF) (l : Int) (c : Nat) (S idx : List Int) (i : Int) : Int :=
  V.F.neg (V.F.mul (evI V.F (omL V l c S idx) (V.F.inv (locI V.F l i))) (V.F.inv (evI V.F (slL V l idx) (V.F.inv (locI V.F l i)))))
noncomputable def valsL (V : VF) (l : Int) (c : Nat) (S idx : List Int) : List Int := idx.map (forV V l c S idx)
theorem trim_els {S : List Int} (h : VF.els V S) : VF.els V (VF.trim S) := h.take _
theorem omL_els (V : VF) (l : Int) (c : Nat) (S idx : List Int) : VF.els V (omL V l c S idx) := (VF.lst_isP ((VF.ps_poly _).mul (locP_poly V l idx))).els.take _ |>.take _
theorem omL_c (l : Int) (c : Nat) (S idx : List Int) (i : Nat) : (VF.ps V (omL V l c S idx)).c i = if i < c then (VF.ps V S * locP V l idx).c i else 0 := by
  unfold omL
  rw [VF.ps_trim, VF.ps_c, VF.getD_take]
  split
  · rw [← VF.ps_c, VF.lst_eq ((VF.ps_poly _).mul (locP_poly V l idx)), VF.ps_trim]
  · exact VF.of_zero
theorem slope_ne {l : Int} (hl : l < V.F.size) {idx : List Int} (hr : RisTo 0 (l - 1) idx idx.length) {i : Int} (hi : i ∈ idx) :
    PS.ev (PS.D (locP V l idx)) (VF.of V (V.F.inv (locI V.F l i))) ≠ 0 := by
  obtain ⟨a, b, rfl⟩ := List.append_of_mem hi
  have hnd := locs_nodup (V := V) hl hr
  have e : ((a.map fun i => (VF.of V (locI V.F l i), (0 : El V))) ++ (VF.of V (locI V.F l i), (0 : El V)) :: b.map fun i => (VF.of V (locI V.F l i), (0 : El V))).map (·.1) = (a ++ i :: b).map fun i => VF.of V (locI V.F l i) := by
    rw [List.map_append, List.map_cons, List.map_map, List.map_map, List.map_append, List.map_cons]; rfl
  have := (PS.forney ((a.map fun i => (VF.of V (locI V.F l i), (0 : El V)))) (b.map fun i => (VF.of V (locI V.F l i), (0 : El V))) (VF.of V (locI V.F l i)) 0 (VF.of V (V.F.inv (locI V.F l i))) (loc_inv l i) (by rw [e]; exact hnd)).1
  rw [e] at this
  exact this
theorem slope_val {l : Int} (hl : l < V.F.size) {idx : List Int} (hr : RisTo 0 (l - 1) idx idx.length) {i : Int} (hi : i ∈ idx) : evI V.F (slL V l idx) (V.F.inv (locI V.F l i)) ≠ 0 := fun h => by
  have h1 := evI_lst (V := V) (PS.isPoly_D (locP_poly V l idx)) (FF.inv_el V.ok (locI V.F l i))
  have h2 : evI V.F (VF.lst V (PS.D (locP V l idx))) (V.F.inv (locI V.F l i)) = 0 := h
  rw [h2, VF.of_zero] at h1
  exact slope_ne hl hr hi h1.symm
/-- The low coefficients of a product. -/
theorem mul_low {K : Type} [CR K] (n : Nat) : ∀ (k : Nat) (f f' g : PS K), k < n → (∀ i, i < n → f.c i = f'.c i) → (f * g).c k = (f' * g).c k := by
  intro k f f' g hk h
  rw [PS.mul_c, PS.mul_c, PS.conv_ms, PS.conv_ms]
  have : ∀ i, i ≤ k + 1 → PS.ms f g k i = PS.ms f' g k i := by
    intro i
    induction i with
    | zero => intro _; rfl
    | succ i ih => intro hi; show PS.ms f g k i + f.c i * _ = PS.ms f' g k i + f'.c i * _; rw [ih (by omega), h i (by omega)]
  exact this _ (Nat.le_refl _)
theorem forney_vals {l : Int} (hl : l < V.F.size) {c : Nat} {S idx : List Int} (hr : RisTo 0 (l - 1) idx idx.length) (hn : idx.length ≤ c) {w : Nat → El V} (hc : Cons V l c S idx w) (m : Nat) (hm : m < idx.length) :
    VF.of V (forV V l c S idx (gi idx m)) = w m := by
  have hom : VF.ps V (omL V l c S idx) = PS.om (Eof V l idx w idx.length) := PS.ext' fun i => by
    rw [omL_c]
    split
    · rename_i hi
      have e := PS.lam_gs (Eof V l idx w idx.length)
      rw [lamE] at e
      rw [← e, show locP V l idx * PS.gs (Eof V l idx w idx.length) = PS.gs (Eof V l idx w idx.length) * locP V l idx by grind]
      refine mul_low c i _ _ _ hi (fun j hj => ?_)
      rw [gsE_c, ← hc j hj]; rfl
    · rename_i hi
      have := PS.dlt_om (Eof V l idx w idx.length)
      rw [Eof_length] at this
      rw [this i (by omega)]
  have hsplit : Eof V l idx w idx.length = Eof V l idx w m ++ (locX V l idx m, w m) :: ((List.range idx.length).drop (m + 1)).map (fun k => (locX V l idx k, w k)) := by
    unfold Eof
    have e : List.range idx.length = List.range m ++ m :: (List.range idx.length).drop (m + 1) := by
      have h1 : List.range idx.length = (List.range idx.length).take m ++ (List.range idx.length).drop m := (List.take_append_drop _ _).symm
      have h2 : (List.range idx.length).take m = List.range m := by rw [List.take_range]; congr 1; omega
      have h3 : (List.range idx.length).drop m = m :: (List.range idx.length).drop (m + 1) := by
        rw [List.drop_eq_getElem_cons (by simpa using hm)]; simp
      rw [h2, h3] at h1; exact h1
    conv => lhs; rw [e]
    rw [List.map_append]; rfl
  have hnd := locs_nodup (V := V) hl hr
  rw [← Eof_fst l idx w] at hnd
  have hf := PS.forney (Eof V l idx w m) (((List.range idx.length).drop (m + 1)).map (fun k => (locX V l idx k, w k))) (locX V l idx m) (w m) (VF.of V (V.F.inv (locI V.F l (gi idx m)))) (loc_inv l (gi idx m)) (by rw [← hsplit]; exact hnd)
  rw [← hsplit, lamE, ← hom] at hf
  have hxe := FF.inv_el V.ok (locI V.F l (gi idx m))
  have h1 := evI_of (omL_els V l c S idx) hxe
  have h2 := evI_lst (V := V) (PS.isPoly_D (locP_poly V l idx)) hxe
  have he1 := evI_el V.ok (omL_els V l c S idx) (V.F.inv (locI V.F l (gi idx m)))
  have he2 : V.F.el (evI V.F (slL V l idx) (V.F.inv (locI V.F l (gi idx m)))) := evI_el V.ok (VF.lst_isP (PS.isPoly_D (locP_poly V l idx))).els _
  have h2' : VF.of V (evI V.F (slL V l idx) (V.F.inv (locI V.F l (gi idx m)))) = PS.ev (PS.D (locP V l idx)) (VF.of V (V.F.inv (locI V.F l (gi idx m)))) := h2
  have hne : evI V.F (slL V l idx) (V.F.inv (locI V.F l (gi idx m))) ≠ 0 := fun h => hf.1 (by rw [← h2', h]; exact VF.of_zero)
  have h3 := VF.of_inv (V := V) he2 hne
  unfold forV
  rw [VF.of_neg (FF.mul_el V.ok _ _), VF.of_mul he1 (FF.inv_el V.ok _), h1, hf.2, ← h2']
  grind
end Go.Proofs.Ythbiieflmmnfcaa
