/-
  At most one code word is near enough; code words differ at more indices than there are check elements. Plain mathematics.
-/
import Derived.Test.YtcjkmfhnlggohaaGreatTwo
namespace Go.Proofs.YtcjkmfhnlggohaaGreat
set_option linter.unusedVariables false
variable {V : VF}

theorem Dec.unique {L c : Nat} (hL : (L : Int) < V.F.size) (hc : c ≤ 64) {word E o o' : List Int} (hw : VF.els V word) (hwl : word.length = L) (hE : RisTo 0 ((L : Int) - 1) E E.length) (h : Dec V L c word E o) (h' : Dec V L c word E o') : o = o' := by
  have hdm := h.dmg
  have hdm' := h'.dmg
  have hf := ber_fok hL hc hw hwl hE (c := c) (by omega)
  have e1 := (impl_ok hL hw hwl hE h hf).2
  have e2 := (impl_ok hL hw hwl hE h' hf).2
  have hpl := plL_len (errs_ris L word E o) hE
  have o1 := (h.out (pl := plL L (errs L word E o) E L) hL hw hwl (plL_ris _ _ _) (by omega) cover).2
  have hpl' := plL_len (errs_ris L word E o') hE
  have o2 := (h'.out (pl := plL L (errs L word E o') E L) hL hw hwl (plL_ris _ _ _) (by omega) cover).2
  rw [← e1] at o1
  rw [← e2] at o2
  exact o1.symm.trans o2
theorem Dec.fix {L c : Nat} (hL : (L : Int) < V.F.size) (hc : c ≤ 64) {word E o : List Int} (hw : VF.els V word) (hwl : word.length = L) (hE : RisTo 0 ((L : Int) - 1) E E.length) (h : Dec V L c word E o) : fixB V L c word E = true ∧ fixO V L c word E = o :=
  ⟨fix_of h, Dec.unique hL hc hw hwl hE (fix_spec (fix_of h)) h⟩
/-- Two different code words differ at more than c indices. -/
theorem code_dist {L c : Nat} (hL : (L : Int) < V.F.size) (hc : c ≤ 64) {a b : List Int} (ha : VF.els V a) (hb : VF.els V b) (hal : a.length = L) (hbl : b.length = L) (hza : ∀ j, j < c → svTo V.F a (V.F.exp (j + 1)) L = 0) (hzb : ∀ j, j < c → svTo V.F b (V.F.exp (j + 1)) L = 0) (hne : a ≠ b) : c < (difL a b L).length := by
  apply Classical.byContradiction
  intro hlt
  have hris : RisTo 0 ((L : Int) - 1) (difL a b L) (difL a b L).length := filtL_ris _ _ _ (by omega)
  have hno : ∀ o, (∀ i, i < L → gi a i ≠ gi o i → (i : Int) ∈ difL a b L) → errs L a (difL a b L) o = [] := fun o h => by
    cases hh : errs L a (difL a b L) o with
    | nil => rfl
    | cons z l =>
      have hz : z ∈ errs L a (difL a b L) o := by rw [hh]; simp
      obtain ⟨i, hi, rfl, h1, h2⟩ := errs_mem.1 hz
      exact absurd (h i hi h2) h1
  have h1 : Dec V L c a (difL a b L) a := ⟨ha, hal, hza, by rw [hno a (fun i _ h => absurd rfl h)]; simp; omega⟩
  have h2 : Dec V L c a (difL a b L) b := ⟨hb, hbl, hzb, by
    rw [hno b (fun i hi h => by
      unfold difL
      refine filtL_mem.2 ⟨i, hi, rfl, ?_⟩
      have : ¬ gi b i = gi a i := fun e => h e.symm
      simp [this])]; simp; omega⟩
  exact hne (Dec.unique hL hc ha hal hris h1 h2)
end Go.Proofs.YtcjkmfhnlggohaaGreat
