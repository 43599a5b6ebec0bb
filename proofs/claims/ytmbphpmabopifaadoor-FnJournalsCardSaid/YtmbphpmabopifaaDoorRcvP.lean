/-
  Journals with which a string begins, in plain Lean.
-/
import Derived.Test.YtmbphpmabopifaaDoorJouS
namespace Go.Proofs.YtmbphpmabopifaaDoor
open Go.RowKit
set_option linter.unusedVariables false

theorem dg_bd {d : Nat} (h : d < 10) : (dg d).toNat = 48 + d := by have := dg_z h; omega
theorem dec_chars (n : Nat) : ∀ c ∈ Lib.decDigits n, 48 ≤ c.toNat ∧ c.toNat ≤ 57 := by
  induction n using Nat.strongRecOn with
  | _ n ih =>
  by_cases h : n < 10
  · rw [dec_small h]
    intro c hc
    rw [List.mem_singleton.1 hc, dg_bd h]; omega
  · rw [dec_big h]
    intro c hc
    rcases List.mem_append.1 hc with h1 | h1
    · exact ih (n / 10) (by omega) c h1
    · rw [List.mem_singleton.1 h1, dg_bd (by omega)]; omega
theorem itoa_nat {n : Int} (h : 0 ≤ n) : Lib.itoa n = Lib.decDigits n.toNat := by
  obtain ⟨m, rfl⟩ := Int.eq_ofNat_of_zero_le h
  rw [Lib.itoa_nonneg]; rfl
theorem itoa_chars {n : Int} (h : 0 ≤ n) : ∀ c ∈ Lib.itoa n, 48 ≤ c.toNat ∧ c.toNat ≤ 57 := by rw [itoa_nat h]; exact dec_chars _
theorem wrdL_chars (k : Int) : ∀ c ∈ wrdL k, 97 ≤ c.toNat ∧ c.toNat ≤ 122 := by
  unfold wrdL
  split
  · decide
  · split
    · decide
    · split <;> decide
/-- The value of a numeral. -/
def valF (l : List UInt8) : Nat := l.foldl (fun n c => 10 * n + (c.toNat - 48)) 0
theorem valF_snoc (l : List UInt8) (c : UInt8) : valF (l ++ [c]) = 10 * valF l + (c.toNat - 48) := by unfold valF; rw [List.foldl_append]; rfl
theorem valF_dec (n : Nat) : valF (Lib.decDigits n) = n := by
  induction n using Nat.strongRecOn with
  | _ n ih =>
  by_cases h : n < 10
  · rw [dec_small h]
    have h1 : valF [dg n] = 10 * 0 + ((dg n).toNat - 48) := rfl
    rw [h1, dg_bd h]; omega
  · rw [dec_big h, valF_snoc, ih (n / 10) (by omega), dg_bd (by omega)]; omega
theorem dec_inj {a b : Nat} (h : Lib.decDigits a = Lib.decDigits b) : a = b := by rw [← valF_dec a, h, valF_dec]
theorem itoa_inj {a b : Int} (ha : 0 ≤ a) (hb : 0 ≤ b) (h : Lib.itoa a = Lib.itoa b) : a = b := by
  rw [itoa_nat ha, itoa_nat hb] at h
  have := dec_inj h
  omega
theorem wrdL_inj {a b : Int} (ha : 1 ≤ a ∧ a ≤ 4) (hb : 1 ≤ b ∧ b ≤ 4) (h : wrdL a = wrdL b) : a = b := by
  rcases (show a = 1 ∨ a = 2 ∨ a = 3 ∨ a = 4 by omega) with rfl | rfl | rfl | rfl <;> rcases (show b = 1 ∨ b = 2 ∨ b = 3 ∨ b = 4 by omega) with rfl | rfl | rfl | rfl <;> first | rfl | (exact absurd h (by decide))
/-- None of the bytes is b. -/
def noB (b : UInt8) (l : List UInt8) : Prop := ∀ c ∈ l, c ≠ b
theorem noB_app {b : UInt8} {l m : List UInt8} (h : noB b l) (k : noB b m) : noB b (l ++ m) := fun c hc => (List.mem_append.1 hc).elim (h c) (k c)
theorem noB_itoa {n : Int} (h : 0 ≤ n) {b : UInt8} (hb : b.toNat < 48) : noB b (Lib.itoa n) := fun c hc e => by have := itoa_chars h c hc; rw [e] at this; omega
theorem noB_wrd (k : Int) {b : UInt8} (hb : b.toNat < 48) : noB b (wrdL k) := fun c hc e => by have := wrdL_chars k c hc; rw [e] at this; omega
theorem noB_sp : noB 10 [32] := by intro c hc; rw [List.mem_singleton.1 hc]; decide
theorem noB_body {n : Int} {r : Int × Int} (h0 : 0 ≤ n) (h2 : 0 ≤ r.2) : noB 10 (bodyL n r) :=
  noB_app (noB_app (noB_app (noB_app (noB_itoa h0 (by decide)) noB_sp) (noB_wrd _ (by decide))) noB_sp) (noB_itoa h2 (by decide))
theorem noB_line {n : Int} {r : Int × Int} {s : Int} (h0 : 0 ≤ n) (h2 : 0 ≤ r.2) (h4 : 0 ≤ s) (h5 : s < 65521) : noB 10 (lineL n r s) :=
  noB_app (noB_app (noB_body h0 h2) noB_sp) (noB_itoa (sumL_bd h4 h5 _).1 (by decide))
/-- Splitting: the pieces that are done, and the last one. -/
def splF (b : UInt8) (p : List (List UInt8) × List UInt8) (l : List UInt8) : List (List UInt8) × List UInt8 := l.foldl (fun p c => if c = b then (p.1 ++ [p.2], []) else (p.1, p.2 ++ [c])) p
def splitL (b : UInt8) (l : List UInt8) : List (List UInt8) := (splF b ([], []) l).1 ++ [(splF b ([], []) l).2]
theorem splF_app (b : UInt8) (p : List (List UInt8) × List UInt8) (l m : List UInt8) : splF b p (l ++ m) = splF b (splF b p l) m := by unfold splF; rw [List.foldl_append]
theorem splF_no {b : UInt8} (l : List UInt8) (h : noB b l) (d : List (List UInt8)) (c : List UInt8) : splF b (d, c) l = (d, c ++ l) := by
  induction l generalizing c with
  | nil => simp [splF]
  | cons x l ih =>
    have hx : x ≠ b := h x (by simp)
    have h2 : splF b (d, c) (x :: l) = splF b (d, c ++ [x]) l := by unfold splF; simp [hx]
    rw [h2, ih (fun y hy => h y (by simp [hy]))]
    simp
theorem splF_pre (b : UInt8) (l : List UInt8) (d d' : List (List UInt8)) (c : List UInt8) : splF b (d ++ d', c) l = (d ++ (splF b (d', c) l).1, (splF b (d', c) l).2) := by
  induction l generalizing d' c with
  | nil => simp [splF]
  | cons x l ih =>
    by_cases hx : x = b
    · have h2 : ∀ e, splF b (e, c) (x :: l) = splF b (e ++ [c], []) l := fun e => by unfold splF; simp [hx]
      rw [h2, h2, List.append_assoc, ih]
    · have h2 : ∀ e, splF b (e, c) (x :: l) = splF b (e, c ++ [x]) l := fun e => by unfold splF; simp [hx]
      rw [h2, h2, ih]
theorem splitL_cons {b : UInt8} {l : List UInt8} (h : noB b l) (m : List UInt8) : splitL b (l ++ b :: m) = l :: splitL b m := by
  unfold splitL
  rw [splF_app, splF_no l h]
  have h2 : splF b ([], [] ++ l) (b :: m) = splF b ([l] ++ [], []) m := by unfold splF; simp
  rw [h2, splF_pre]
  simp
theorem splitL_one {b : UInt8} {l : List UInt8} (h : noB b l) : splitL b l = [l] := by unfold splitL; rw [splF_no l h]; simp
theorem splitL_pos (b : UInt8) (l : List UInt8) : 1 ≤ (splitL b l).length := by unfold splitL; simp
theorem first_cut {b : UInt8} (l : List UInt8) (h : b ∈ l) : ∃ p m, l = p ++ b :: m ∧ noB b p := by
  induction l with
  | nil => cases h
  | cons x l ih =>
    by_cases hx : x = b
    · exact ⟨[], l, by rw [hx]; rfl, fun c hc => by cases hc⟩
    · obtain ⟨p, m, h1, h2⟩ := ih (by rcases List.mem_cons.1 h with h | h; exact absurd h.symm hx; exact h)
      exact ⟨x :: p, m, by rw [h1]; rfl, fun c hc => by rcases List.mem_cons.1 hc with h | h; rw [h]; exact hx; exact h2 c h⟩
/-- The words of a line. -/
theorem words_line {n : Int} {r : Int × Int} {s : Int} (h0 : 0 ≤ n) (h2 : 0 ≤ r.2) (h4 : 0 ≤ s) (h5 : s < 65521) : splitL 32 (lineL n r s) = [Lib.itoa n, wrdL r.1, Lib.itoa r.2, Lib.itoa (sumL s (bodyL n r))] := by
  have e : lineL n r s = Lib.itoa n ++ 32 :: (wrdL r.1 ++ 32 :: (Lib.itoa r.2 ++ 32 :: Lib.itoa (sumL s (bodyL n r)))) := by unfold lineL; rw [show bodyL n r = Lib.itoa n ++ [32] ++ wrdL r.1 ++ [32] ++ Lib.itoa r.2 from rfl]; simp
  rw [e, splitL_cons (noB_itoa h0 (by decide)), splitL_cons (noB_wrd _ (by decide)), splitL_cons (noB_itoa h2 (by decide)), splitL_one (noB_itoa (sumL_bd h4 h5 _).1 (by decide))]
theorem line_inj {n : Int} {r r' : Int × Int} {s : Int} (h0 : 0 ≤ n) (h4 : 0 ≤ s) (h5 : s < 65521) (hr : recB r.1 r.2 = true) (hr' : recB r'.1 r'.2 = true) (h : lineL n r s = lineL n r' s) : r = r' := by
  have b1 := recB_bd hr
  have b2 := recB_bd hr'
  have e := words_line (r := r) h0 b1.2.2.1 h4 h5
  rw [h, words_line (r := r') h0 b2.2.2.1 h4 h5] at e
  simp only [List.cons.injEq, true_and] at e
  exact Prod.ext (wrdL_inj ⟨b1.1, b1.2.1⟩ ⟨b2.1, b2.2.1⟩ e.1.symm) (itoa_inj b1.2.2.1 b2.2.2.1 e.2.1.symm)
theorem nl_inj {l l' R : List UInt8} (h : noB 10 l) (h' : noB 10 l') (p : (l ++ [10]) <+: R) (p' : (l' ++ [10]) <+: R) : l = l' := by
  have key : ∀ {a a' : List UInt8}, noB 10 a' → (a ++ [10]) <+: R → (a' ++ [10]) <+: R → a.length < a'.length → False := by
    intro a a' hn q q' hl
    have h1 : (a ++ [10]) <+: (a' ++ [10]) := List.prefix_of_prefix_length_le q q' (by simp; omega)
    have h2 : (a ++ [10]) <+: a' := List.prefix_of_prefix_length_le h1 (List.prefix_append a' [10]) (by simp; omega)
    exact hn 10 (h2.subset (by simp)) rfl
  rcases Nat.lt_trichotomy l.length l'.length with hl | hl | hl
  · exact absurd hl (fun _ => key h' p p' hl)
  · have h1 : (l ++ [10]) <+: (l' ++ [10]) := List.prefix_of_prefix_length_le p p' (by simp; omega)
    have h2 := h1.eq_of_length (by simp; omega)
    exact List.append_cancel_right h2
  · exact absurd hl (fun _ => key h p' p hl)
/-- A list of valid records. -/
def okL (L : List (Int × Int)) : Prop := ∀ k, k < L.length → recB (gr L k).1 (gr L k).2 = true
/-- L is the list of the longest journal with which S begins. -/
def RecP (S : List UInt8) (L : List (Int × Int)) : Prop := L.length ≤ 300 ∧ okL L ∧ (jouL L L.length).1 <+: S ∧ (L.length = 300 ∨ ∀ r : Int × Int, recB r.1 r.2 = true → ¬ ((jouL L L.length).1 ++ (lineL (L.length : Int) r (jouL L L.length).2 ++ [10])) <+: S)
theorem jouL_congr {L M : List (Int × Int)} {k : Nat} (h : ∀ j, j < k → gr L j = gr M j) : jouL L k = jouL M k := by
  induction k with
  | zero => rfl
  | succ k ih =>
    have e := ih fun j hj => h j (by omega)
    show ((jouL L k).1 ++ (lineL (k : Int) (gr L k) (jouL L k).2 ++ [10]), sumL (jouL L k).2 (bodyL (k : Int) (gr L k))) = _
    rw [e, h k (by omega)]; rfl
theorem jouL_mono (L : List (Int × Int)) {j k : Nat} (h : j ≤ k) : (jouL L j).1 <+: (jouL L k).1 := by
  induction k with
  | zero => obtain rfl : j = 0 := by omega
            exact List.prefix_refl _
  | succ k ih =>
    by_cases e : j = k + 1
    · subst e; exact List.prefix_refl _
    · exact (ih (by omega)).trans (List.prefix_append _ _)
theorem step_inj {T S : List UInt8} {k : Int} {s : Int} {r r' : Int × Int} (h0 : 0 ≤ k) (h4 : 0 ≤ s) (h5 : s < 65521) (hr : recB r.1 r.2 = true) (hr' : recB r'.1 r'.2 = true)
    (h : (T ++ (lineL k r s ++ [10])) <+: S) (h' : (T ++ (lineL k r' s ++ [10])) <+: S) : r = r' := by
  obtain ⟨R, hR⟩ := (List.prefix_append T _).trans h
  rw [← hR] at h h'
  rw [List.prefix_append_right_inj] at h h'
  exact line_inj h0 h4 h5 hr hr' (nl_inj (noB_line h0 (recB_bd hr).2.2.1 h4 h5) (noB_line h0 (recB_bd hr').2.2.1 h4 h5) h h')
theorem RecP.agree {S : List UInt8} {L M : List (Int × Int)} (hL : RecP S L) (hM : RecP S M) (k : Nat) (hk : k ≤ L.length) (hk' : k ≤ M.length) : ∀ j, j < k → gr L j = gr M j := by
  induction k with
  | zero => intro j hj; omega
  | succ k ih =>
    have h := ih (by omega) (by omega)
    intro j hj
    by_cases e : j = k
    · subst e
      have e1 := jouL_congr h
      have hs := jouL_sum L j
      refine step_inj (T := (jouL L j).1) (S := S) (k := (j : Int)) (s := (jouL L j).2) (by omega) hs.1 hs.2 (hL.2.1 j (by omega)) (hM.2.1 j (by omega)) ?_ ?_
      · exact (jouL_mono L (show j + 1 ≤ L.length by omega)).trans hL.2.2.1
      · rw [e1]; exact (jouL_mono M (show j + 1 ≤ M.length by omega)).trans hM.2.2.1
    · exact h j (by omega)
theorem RecP.le {S : List UInt8} {L M : List (Int × Int)} (hL : RecP S L) (hM : RecP S M) : M.length ≤ L.length := by
  rcases Nat.lt_or_ge L.length M.length with hl | hl
  · have ha := hL.agree hM L.length (Nat.le_refl _) (by omega)
    have e1 := jouL_congr ha
    rcases hL.2.2.2 with h3 | h3
    · have := hM.1; omega
    · refine absurd ?_ (h3 (gr M L.length) (hM.2.1 _ hl))
      rw [e1]
      exact (jouL_mono M (show L.length + 1 ≤ M.length by omega)).trans hM.2.2.1
  · exact hl
theorem RecP.uniq {S : List UInt8} {L M : List (Int × Int)} (hL : RecP S L) (hM : RecP S M) : L = M := by
  have e : L.length = M.length := Nat.le_antisymm (hM.le hL) (hL.le hM)
  have ha := hL.agree hM L.length (Nat.le_refl _) (by omega)
  apply List.ext_getElem e
  intro j h1 h2
  have := ha j h1
  unfold gr at this
  rw [List.getD_eq_getElem?_getD, List.getD_eq_getElem?_getD, List.getElem?_eq_getElem h1, List.getElem?_eq_getElem h2] at this
  exact this
/-- The lines of a journal, ahead of the rest's. -/
theorem lines_split (L : List (Int × Int)) (hL : okL L) (k : Nat) (hk : k ≤ L.length) (R : List UInt8) : ∃ D : List (List UInt8), D.length = k ∧ splitL 10 ((jouL L k).1 ++ R) = D ++ splitL 10 R := by
  induction k generalizing R with
  | zero => exact ⟨[], rfl, rfl⟩
  | succ k ih =>
    have hs := jouL_sum L k
    obtain ⟨D, h1, h2⟩ := ih (by omega) (lineL (k : Int) (gr L k) (jouL L k).2 ++ 10 :: R)
    refine ⟨D ++ [lineL (k : Int) (gr L k) (jouL L k).2], by rw [List.length_append, h1]; rfl, ?_⟩
    have e : (jouL L (k + 1)).1 ++ R = (jouL L k).1 ++ (lineL (k : Int) (gr L k) (jouL L k).2 ++ 10 :: R) := by
      show ((jouL L k).1 ++ (lineL (k : Int) (gr L k) (jouL L k).2 ++ [10])) ++ R = _
      simp
    rw [e, h2, splitL_cons (noB_line (by omega) (recB_bd (hL k (by omega))).2.2.1 hs.1 hs.2)]
    simp
theorem gr_app_lt {L : List (Int × Int)} {j : Nat} (h : j < L.length) (M : List (Int × Int)) : gr (L ++ M) j = gr L j := by
  unfold gr; rw [List.getD_eq_getElem?_getD, List.getD_eq_getElem?_getD, List.getElem?_append_left h]
theorem gr_app_at (L : List (Int × Int)) (r : Int × Int) : gr (L ++ [r]) L.length = r := by
  unfold gr; rw [List.getD_eq_getElem?_getD]; simp
theorem okL_snoc {L : List (Int × Int)} (h : okL L) {r : Int × Int} (hr : recB r.1 r.2 = true) : okL (L ++ [r]) := by
  intro k hk
  rw [List.length_append] at hk
  simp only [List.length_cons, List.length_nil] at hk
  by_cases e : k < L.length
  · rw [gr_app_lt e]; exact h k e
  · obtain rfl : k = L.length := by omega
    rw [gr_app_at]; exact hr
theorem jouL_pre (L : List (Int × Int)) (r : Int × Int) : jouL (L ++ [r]) L.length = jouL L L.length := jouL_congr fun j hj => gr_app_lt hj [r]
theorem jouL_snoc (L : List (Int × Int)) (r : Int × Int) : jouL (L ++ [r]) (L.length + 1) = ((jouL L L.length).1 ++ (lineL (L.length : Int) r (jouL L L.length).2 ++ [10]), sumL (jouL L L.length).2 (bodyL (L.length : Int) r)) := by
  show ((jouL (L ++ [r]) L.length).1 ++ (lineL (L.length : Int) (gr (L ++ [r]) L.length) (jouL (L ++ [r]) L.length).2 ++ [10]), sumL (jouL (L ++ [r]) L.length).2 (bodyL (L.length : Int) (gr (L ++ [r]) L.length))) = _
  rw [jouL_pre, gr_app_at]
/-- No line follows. -/
theorem no_line {S : List UInt8} {L : List (Int × Int)} (hL : okL L) (hp : (jouL L L.length).1 <+: S) (hn : ¬ L.length + 1 < (splitL 10 S).length) (r : Int × Int) : ¬ ((jouL L L.length).1 ++ (lineL (L.length : Int) r (jouL L L.length).2 ++ [10])) <+: S := by
  intro h
  obtain ⟨R, rfl⟩ := hp
  rw [List.prefix_append_right_inj] at h
  obtain ⟨D, h1, h2⟩ := lines_split L hL L.length (Nat.le_refl _) R
  have h10 : (10 : UInt8) ∈ R := h.subset (by simp)
  obtain ⟨p, m, rfl, hnp⟩ := first_cut R h10
  rw [h2, splitL_cons hnp, List.length_append, h1, List.length_cons] at hn
  have := splitL_pos 10 m
  omega
/-- The line that follows. -/
theorem next_line {S : List UInt8} {L : List (Int × Int)} (hL : okL L) (hp : (jouL L L.length).1 <+: S) (hn : L.length + 1 < (splitL 10 S).length) : ∃ p m, S = (jouL L L.length).1 ++ (p ++ 10 :: m) ∧ noB 10 p ∧ (splitL 10 S)[L.length]? = some p := by
  obtain ⟨R, rfl⟩ := hp
  obtain ⟨D, h1, h2⟩ := lines_split L hL L.length (Nat.le_refl _) R
  by_cases h10 : (10 : UInt8) ∈ R
  · obtain ⟨p, m, rfl, hnp⟩ := first_cut R h10
    refine ⟨p, m, rfl, hnp, ?_⟩
    rw [h2, splitL_cons hnp, List.getElem?_append_right (by omega), h1, Nat.sub_self]; rfl
  · exfalso
    have hno : noB 10 R := fun c hc e => h10 (e ▸ hc)
    rw [h2, splitL_one hno, List.length_append, h1] at hn
    simp at hn
theorem line_is {S p m : List UInt8} {T : List UInt8} {n : Int} {r : Int × Int} {s : Int} (hS : S = T ++ (p ++ 10 :: m)) (hnp : noB 10 p) (h0 : 0 ≤ n) (hr : recB r.1 r.2 = true) (h4 : 0 ≤ s) (h5 : s < 65521) (h : (T ++ (lineL n r s ++ [10])) <+: S) : p = lineL n r s := by
  subst hS
  rw [List.prefix_append_right_inj] at h
  exact nl_inj hnp (noB_line h0 (recB_bd hr).2.2.1 h4 h5) ⟨m, by simp⟩ h
theorem line_pre {S p m T : List UInt8} (hS : S = T ++ (p ++ 10 :: m)) : (T ++ (p ++ [10])) <+: S := by
  subst hS; exact ⟨m, by simp⟩
theorem splF_cnt {b : UInt8} (m : List UInt8) (d : List (List UInt8)) (c : List UInt8) : (splF b (d, c) m).1.length ≤ d.length + m.length := by
  induction m generalizing d c with
  | nil => exact Nat.le_refl _
  | cons x m ih =>
    by_cases hx : x = b
    · have h2 : splF b (d, c) (x :: m) = splF b (d ++ [c], []) m := by unfold splF; simp [hx]
      rw [h2]
      have := ih (d ++ [c]) []
      simp only [List.length_append, List.length_cons, List.length_nil] at this ⊢
      omega
    · have h2 : splF b (d, c) (x :: m) = splF b (d, c ++ [x]) m := by unfold splF; simp [hx]
      rw [h2]
      have := ih d (c ++ [x])
      simp only [List.length_cons] at this ⊢
      omega
theorem splitL_cnt (b : UInt8) (l : List UInt8) : (splitL b l).length ≤ l.length + 1 := by
  unfold splitL
  have := splF_cnt (b := b) l [] []
  simp at this ⊢
  omega
end Go.Proofs.YtmbphpmabopifaaDoor
