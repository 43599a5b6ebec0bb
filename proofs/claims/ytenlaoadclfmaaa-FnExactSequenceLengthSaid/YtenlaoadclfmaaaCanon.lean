/-
  The one list of a polynomial. Plain mathematics.
-/
import Derived.Test.YtenlaoadclfmaaaLists
namespace Go.Proofs.Ytenlaoadclfmaaa
namespace VF
variable {V : VF}

open Classical in
/-- The list of a polynomial, with no zero at its end. -/
noncomputable def lst (V : VF) (f : PS (El V)) : List Int := if h : ∃ l, isP V l ∧ ps V l = f then Classical.choose h else []
theorem lst_of {l : List Int} (h : isP V l) {f : PS (El V)} (e : ps V l = f) : lst V f = l := by
  have hx : ∃ l, isP V l ∧ ps V l = f := ⟨l, h, e⟩
  unfold lst
  rw [dif_pos hx]
  have h2 := Classical.choose_spec hx
  exact isP_inj h2.1 h (h2.2.trans e.symm)
theorem lst_ps {l : List Int} (h : isP V l) : lst V (ps V l) = l := lst_of h rfl
def cut (V : VF) (f : PS (El V)) (n : Nat) : List Int := (List.range n).map fun i => (f.c i).val
theorem cut_getD (f : PS (El V)) (n i : Nat) : (cut V f n).getD i 0 = if i < n then (f.c i).val else 0 := by
  unfold cut
  rw [List.getD_eq_getElem?_getD]
  split
  · rename_i h; simp [h]
  · rename_i h; simp [h]
theorem cut_els (f : PS (El V)) (n : Nat) : els V (cut V f n) := fun z hz => by
  unfold cut at hz
  obtain ⟨i, _, rfl⟩ := List.mem_map.1 hz
  exact (f.c i).el
theorem cut_ps {f : PS (El V)} {n : Nat} (h : f.dlt n) : ps V (cut V f n) = f := PS.ext' fun i => by
  rw [ps_c, cut_getD]
  split
  · exact val_of _
  · rw [h i (by omega)]; exact of_zero
theorem lst_ok {f : PS (El V)} (h : f.IsPoly) : isP V (lst V f) ∧ ps V (lst V f) = f := by
  obtain ⟨n, hn⟩ := h
  have h1 : isP V (trim (cut V f n)) := isP_trim (cut_els _ _)
  have h2 : ps V (trim (cut V f n)) = f := by rw [ps_trim, cut_ps hn]
  rw [lst_of h1 h2]
  exact ⟨h1, h2⟩
theorem lst_isP {f : PS (El V)} (h : f.IsPoly) : isP V (lst V f) := (lst_ok h).1
theorem lst_eq {f : PS (El V)} (h : f.IsPoly) : ps V (lst V f) = f := (lst_ok h).2
theorem lst_len {f : PS (El V)} {n : Nat} (h : f.dlt n) : (lst V f).length ≤ n := (lst_isP ⟨n, h⟩).len_le (by rw [lst_eq ⟨n, h⟩]; exact h)
theorem lst_nil {f : PS (El V)} (h : f.IsPoly) : lst V f = [] ↔ f = 0 := by
  constructor
  · intro e; have := lst_eq h; rw [e, ps_nil] at this; exact this.symm
  · intro e; subst e; exact lst_of isP_nil ps_nil
theorem trim_lst {l : List Int} (h : els V l) : trim l = lst V (ps V l) := (lst_of (isP_trim h) (ps_trim l)).symm
theorem mulL {p q : List Int} : (ps V p * ps V q).IsPoly := (ps_poly p).mul (ps_poly q)
theorem lst_mul_len (p q : List Int) : (lst V (ps V p * ps V q)).length ≤ p.length + q.length := lst_len (PS.dlt_mul' (ps_dlt p) (ps_dlt q))
/-- A scaled list. -/
def scl (F : FF) (by' : Int) (l : List Int) : List Int := l.map fun x => F.mul x by'
theorem scl_getD {F : FF} (a : Int) (l : List Int) (i : Nat) : (scl F a l).getD i 0 = F.mul (l.getD i 0) a := by
  unfold scl
  rw [List.getD_eq_getElem?_getD, List.getElem?_map, List.getD_eq_getElem?_getD]
  cases l[i]? with
  | none => simp [FF.zero_mul']
  | some x => rfl
theorem scl_els (a : Int) (l : List Int) : els V (scl V.F a l) := fun z hz => by
  unfold scl at hz
  obtain ⟨x, _, rfl⟩ := List.mem_map.1 hz
  exact FF.mul_el V.ok _ _
theorem scl_ps {a : Int} (ha : V.F.el a) {l : List Int} (hl : els V l) : ps V (scl V.F a l) = PS.C (of V a) * ps V l := PS.ext' fun i => by
  rw [ps_c, scl_getD, of_mul (hl.getD i) ha, PS.C_mul_c, ps_c]; grind
theorem scl_isP {a : Int} (h0 : a ≠ 0) {l : List Int} (hl : isP V l) : isP V (scl V.F a l) := ⟨scl_els a l, fun h => by
  have hlen : (scl V.F a l).length = l.length := by unfold scl; simp
  rw [scl_getD, hlen]
  rw [hlen] at h
  exact FF.mul_ne_zero V.ok (hl.tight h) h0⟩
theorem isP_shift {l : List Int} (h : isP V l) (hn : l ≠ []) (k : Nat) : isP V (List.replicate k 0 ++ l) := by
  have hl : 0 < l.length := List.length_pos_iff.2 hn
  refine ⟨els_append.2 ⟨els_replicate _, h.els⟩, fun _ => ?_⟩
  have := h.tight hl
  rw [List.getD_eq_getElem?_getD] at this ⊢
  rw [List.length_append, List.length_replicate, List.getElem?_append_right (by rw [List.length_replicate]; omega), List.length_replicate, show k + l.length - 1 - k = l.length - 1 by omega]
  exact this
theorem ps_shift (l : List Int) (k : Nat) : ps V (List.replicate k 0 ++ l) = xp V k * ps V l := by
  rw [ps_append, ps_replicate, List.length_replicate]; grind
/-- p = q * d + r. -/
structure DivOf (V : VF) (p d q r : List Int) : Prop where
  hq : isP V q
  hr : isP V r
  eq : ps V p = ps V q * ps V d + ps V r
  len : r.length < d.length
theorem DivOf.uniq {p d q r q' r' : List Int} (hd : isP V d) (h : DivOf V p d q r) (h' : DivOf V p d q' r') : q = q' ∧ r = r' := by
  have hl := h.len
  obtain ⟨m, hm⟩ : ∃ m, d.length = m + 1 := ⟨d.length - 1, by omega⟩
  have h1 : (ps V d).dlt (m + 1) := by rw [← hm]; exact ps_dlt d
  have h2 : (ps V d).c m ≠ 0 := by have := hd.top (by omega); rw [hm] at this; exact this
  have hr : (ps V r).dlt m := (ps_dlt r).mono (by omega)
  have hr' : (ps V r').dlt m := (ps_dlt r').mono (by have := h'.len; omega)
  have := PS.div_unique h1 h2 (ps_poly q) (ps_poly q') hr hr' (h.eq.symm.trans h'.eq)
  exact ⟨isP_inj h.hq h'.hq this.1, isP_inj h.hr h'.hr this.2⟩
open Classical in
noncomputable def dqr (V : VF) (p d : List Int) : List Int × List Int := if h : ∃ x : List Int × List Int, DivOf V p d x.1 x.2 then Classical.choose h else ([], [])
theorem dqr_of {p d q r : List Int} (hd : isP V d) (h : DivOf V p d q r) : dqr V p d = (q, r) := by
  have hx : ∃ x : List Int × List Int, DivOf V p d x.1 x.2 := ⟨(q, r), h⟩
  unfold dqr
  rw [dif_pos hx]
  have h2 := (Classical.choose_spec hx).uniq hd h
  exact Prod.ext h2.1 h2.2
theorem DivOf.small {p d : List Int} (hp : isP V p) (h : p.length < d.length) : DivOf V p d [] p := ⟨isP_nil, hp, by rw [ps_nil]; grind, h⟩
end VF
end Go.Proofs.Ytenlaoadclfmaaa
