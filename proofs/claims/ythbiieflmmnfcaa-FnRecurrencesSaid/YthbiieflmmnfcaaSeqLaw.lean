/-
  A continued sequence satisfies its recurrence, and no shorter one. Plain mathematics.
-/
import Derived.Test.YthbiieflmmnfcaaCont
import Derived.Test.YthbiieflmmnfcaaPolyE
namespace Go.Proofs.Ythbiieflmmnfcaa
open PS
set_option linter.unusedVariables false

section
variable {K : Type} [CR K]
theorem ms_congr {f S T : PS K} {k : Nat} (h : ∀ i, i ≤ k → S.c i = T.c i) (i : Nat) : ms f S k i = ms f T k i := by
  induction i with
  | zero => rfl
  | succ i ih =>
    show ms f S k i + f.c i * S.c (k - i) = ms f T k i + f.c i * T.c (k - i)
    rw [ih, h _ (Nat.sub_le _ _)]
theorem mul_agree {f S T : PS K} {k : Nat} (h : ∀ i, i ≤ k → S.c i = T.c i) : (f * S).c k = (f * T).c k := by
  show conv f S k = conv f T k
  rw [conv_ms, conv_ms, ms_congr h]
theorem ms_last {f S T : PS K} {k : Nat} (h : ∀ i, i < k → S.c i = T.c i) (i : Nat) (hi : i ≤ k) : ms f S k (i + 1) = ms f T k (i + 1) + f.c 0 * (S.c k - T.c k) := by
  induction i with
  | zero =>
    show (0 : K) + f.c 0 * S.c (k - 0) = 0 + f.c 0 * T.c (k - 0) + f.c 0 * (S.c k - T.c k)
    rw [Nat.sub_zero]; grind
  | succ i ih =>
    show ms f S k (i + 1) + f.c (i + 1) * S.c (k - (i + 1)) = ms f T k (i + 1) + f.c (i + 1) * T.c (k - (i + 1)) + _
    rw [ih (by omega), h (k - (i + 1)) (by omega)]; grind
end
variable {V : VF}
theorem VF_same {V V' : VF} (h : V.F = V'.F) : V = V' := by
  cases V with
  | mk F ok => cases V' with
    | mk F' ok' =>
      have : F = F' := h
      subst this; rfl
theorem of_sum {cs zs : List Int} (hc : VF.els V cs) (hz : VF.els V zs) (k i : Nat) : VF.of V (sumTo V.F cs zs k i) = ms (VF.ps V cs) (VF.ps V zs) k i := by
  induction i with
  | zero => exact VF.of_zero
  | succ i ih =>
    have h1 : V.F.el (gi cs i) := hc.getD _
    have h2 : V.F.el (gi zs (k - i)) := hz.getD _
    show VF.of V (V.F.add (sumTo V.F cs zs k i) (V.F.mul (gi cs i) (gi zs (k - i)))) = _
    rw [VF.of_add (sumTo_el V.ok _ _ _ _) (FF.mul_el V.ok _ _), VF.of_mul h1 h2, ih]; rfl
theorem sat_gen {p pw g : Int} {zs cs : List Int} {f : PS (El V)} {L : Nat} (hsf : SF V p pw g) (hq : seqC p pw g zs = 0) (hf : f.IsPoly) (hcs : cs = VF.lst V f) (hL : L ≤ 64) (hg : Gen (VF.ps V zs) f L zs.length) : satB p pw g zs cs (L : Int) = true := by
  have hP : VF.isP V cs := by rw [hcs]; exact VF.lst_isP hf
  have hps : VF.ps V cs = f := by rw [hcs]; exact VF.lst_eq hf
  have hlen : cs.length ≤ L + 1 := by rw [hcs]; exact VF.lst_len hg.deg
  have hz : VF.els V zs := fun z h => by rw [hsf.hV]; exact (seqC_zero hq).2.2 z h
  have h0 : VF.of V (gi cs 0) = 1 := by
    have h1 : (VF.ps V cs).c 0 = VF.of V (gi cs 0) := VF.ps_c cs 0
    rw [hps, hg.one] at h1; exact h1.symm
  have g0 : gi cs 0 = 1 := VF.of_inj (hP.els.getD 0) (FF.one_el V.ok) (h0.trans VF.of_one.symm)
  have hne : cs.length ≠ 0 := fun e => by
    have e2 : cs = [] := List.eq_nil_of_length_eq_zero e
    rw [e2] at g0
    exact absurd g0 (by decide)
  refine satB_yes hq (polyB_of hsf hP (by omega)) cs.length rfl hne g0 (inR_iff.2 ⟨by omega, by omega⟩) (by omega) fun k h1 h2 => ?_
  rw [← hsf.hV]
  refine (VF.of_eq_zero (sumTo_el V.ok _ _ _ _)).1 ?_
  rw [of_sum hP.els hz, hps, ms_full (m := cs.length) (by rw [← hps]; exact VF.ps_dlt cs) (Or.inl (Nat.le_refl _)) (by omega)]
  exact hg.zero k (by omega) h2
theorem bm_agree {S T : PS (El V)} {n : Nat} (h : ∀ i, i < n → S.c i = T.c i) (k : Nat) (hk : k ≤ n) : bm V S k = bm V T k := by
  induction k with
  | zero => rfl
  | succ k ih =>
    have e : ((bm V T k).now * S).c k = ((bm V T k).now * T).c k := mul_agree fun i hi => h i (by omega)
    unfold bm
    rw [ih (by omega), e]
theorem cont_pre (F : FF) (cs zs : List Int) (m : Nat) : ∃ t, contTo F cs zs m = zs ++ t := by
  induction m with
  | zero => exact ⟨[], (List.append_nil _).symm⟩
  | succ m ih =>
    obtain ⟨t, ht⟩ := ih
    exact ⟨t ++ [nxI F cs (contTo F cs zs m)], by show contTo F cs zs m ++ _ = _; rw [← List.append_assoc, ← ht]⟩
theorem gi_app_left {a b : List Int} {i : Nat} (h : i < a.length) : gi (a ++ b) i = gi a i := by
  unfold gi; rw [List.getD_eq_getElem?_getD, List.getD_eq_getElem?_getD, List.getElem?_append_left h]
theorem gi_app_at (a : List Int) (x : Int) : gi (a ++ [x]) a.length = x := by
  unfold gi; rw [List.getD_eq_getElem?_getD, List.getElem?_append_right (Nat.le_refl _), Nat.sub_self]; rfl
theorem cont_gen {cs zs : List Int} {L : Nat} (hc : VF.els V cs) (hz : VF.els V zs) (h1 : 0 < cs.length) (hl : cs.length ≤ zs.length + 1) (hg : Gen (VF.ps V zs) (VF.ps V cs) L zs.length) (m : Nat) : Gen (VF.ps V (contTo V.F cs zs m)) (VF.ps V cs) L (zs.length + m) := by
  induction m with
  | zero => exact hg
  | succ m ih =>
    have hlen := contTo_length V.F cs zs m
    have hel := contTo_els (V := V) (cs := cs) hz m
    refine ⟨ih.one, ih.deg, fun k hk1 hk2 => ?_⟩
    have ag : ∀ i, i < zs.length + m → (VF.ps V (contTo V.F cs zs (m + 1))).c i = (VF.ps V (contTo V.F cs zs m)).c i := fun i hi => by
      rw [VF.ps_c, VF.ps_c]
      show VF.of V (gi (contTo V.F cs zs m ++ [_]) i) = VF.of V (gi _ i)
      rw [gi_app_left (by omega)]
    rcases Nat.lt_or_ge k (zs.length + m) with h | h
    · rw [mul_agree (T := VF.ps V (contTo V.F cs zs m)) fun i hi => ag i (by omega)]
      exact ih.zero k hk1 h
    · obtain rfl : k = zs.length + m := by omega
      have e1 : (VF.ps V (contTo V.F cs zs (m + 1))).c (zs.length + m) = VF.of V (nxI V.F cs (contTo V.F cs zs m)) := by
        rw [VF.ps_c]
        show VF.of V (gi (contTo V.F cs zs m ++ [_]) (zs.length + m)) = _
        rw [← hlen, gi_app_at]
      have e0 : (VF.ps V (contTo V.F cs zs m ++ [0])).c (zs.length + m) = 0 := by
        rw [VF.ps_c]
        show VF.of V (gi (contTo V.F cs zs m ++ [0]) (zs.length + m)) = _
        rw [← hlen, gi_app_at, VF.of_zero]
      have ag2 : ∀ i, i < zs.length + m → (VF.ps V (contTo V.F cs zs (m + 1))).c i = (VF.ps V (contTo V.F cs zs m ++ [0])).c i := fun i hi => by
        rw [ag i hi, VF.ps_c, VF.ps_c]
        show _ = VF.of V (gi (contTo V.F cs zs m ++ [0]) i)
        rw [gi_app_left (by omega)]; rfl
      have hel0 : VF.els V (contTo V.F cs zs m ++ [0]) := VF.els_append.2 ⟨hel, fun z h => by simp at h; subst h; exact FF.zero_el V.ok⟩
      obtain ⟨q, hq⟩ : ∃ q, cs.length = q + 1 := ⟨cs.length - 1, by omega⟩
      have e2 : VF.of V (nxI V.F cs (contTo V.F cs zs m)) = - ms (VF.ps V cs) (VF.ps V (contTo V.F cs zs m ++ [0])) (zs.length + m) (q + 1) := by
        unfold nxI
        rw [VF.of_neg (smTo_el _ _ _ _), smTo_sum, of_sum hc hel0, hlen, show min cs.length (zs.length + m + 1) = q + 1 by omega]
      rw [← ms_full (m := cs.length) (VF.ps_dlt cs) (Or.inl (Nat.le_refl _)) (by omega), hq, ms_last ag2 q (by omega), e1, e0, e2]
      have h3 := hg.one
      rw [h3]; grind
theorem bm_cont {cs zs : List Int} (hc : VF.els V cs) (hz : VF.els V zs) (h1 : 0 < cs.length) (hl : cs.length ≤ zs.length + 1) (hn : (bm V (VF.ps V zs) zs.length).now = VF.ps V cs) (m : Nat) :
    ∀ j, j ≤ m → (bm V (VF.ps V (contTo V.F cs zs m)) (zs.length + j)).now = VF.ps V cs ∧ (bm V (VF.ps V (contTo V.F cs zs m)) (zs.length + j)).L = (bm V (VF.ps V zs) zs.length).L := by
  have hi := (bm_inv (V := V) (VF.ps V zs) zs.length)
  have hg := hi.gen
  rw [hn] at hg
  have hG := cont_gen hc hz h1 hl hg m
  intro j
  induction j with
  | zero =>
    intro _
    obtain ⟨t, ht⟩ := cont_pre V.F cs zs m
    have e := bm_agree (V := V) (S := VF.ps V (contTo V.F cs zs m)) (T := VF.ps V zs) (n := zs.length) (fun i hi => by
      rw [VF.ps_c, VF.ps_c, ht]
      show VF.of V (gi (zs ++ t) i) = VF.of V (gi zs i)
      rw [gi_app_left hi]) zs.length (Nat.le_refl _)
    rw [Nat.add_zero, e]
    exact ⟨hn, rfl⟩
  | succ j ih =>
    intro hj
    obtain ⟨i1, i2⟩ := ih (by omega)
    have hz0 : ((bm V (VF.ps V (contTo V.F cs zs m)) (zs.length + j)).now * VF.ps V (contTo V.F cs zs m)).c (zs.length + j) = 0 := by
      rw [i1]
      exact hG.zero _ (by have := hi.le; omega) (by omega)
    rw [← Nat.add_assoc, bm_zero _ hz0]
    exact ⟨i1, i2⟩
/-- The plain law. -/
theorem recs_plain {p pw g c : Int} {zs : List Int} (h : contC p pw g zs c = 0) :
    recC p pw g zs = 0 ∧ seqC p pw g zs = 0 ∧ ((contR p pw g zs c).length : Int) = c ∧ satB p pw g zs (recR p pw g zs) (seqL p pw g zs) = true ∧ zs.length ≤ 64 ∧ 0 ≤ c ∧ c ≤ 64 ∧
    ((zs ++ contR p pw g zs c).length ≤ 64 → seqC p pw g (zs ++ contR p pw g zs c) = 0 ∧ seqL p pw g (zs ++ contR p pw g zs c) = seqL p pw g zs ∧ satB p pw g (zs ++ contR p pw g zs c) (recR p pw g zs) (seqL p pw g zs) = true) := by
  have hq : seqC p pw g zs = 0 := Classical.byContradiction fun hn => hn ((cont_bad hn).1.symm.trans h)
  have hr : inR c 0 64 = true := by
    cases hr : inR c 0 64
    · have := (cont_range hq hr).1; omega
    · rfl
  have hrc : recC p pw g zs = 0 := Classical.byContradiction fun hn => hn ((cont_state hq hr hn).1.symm.trans h)
  obtain ⟨hv0, hl64, hze⟩ := seqC_zero hq
  obtain ⟨c0, c1⟩ := inR_iff.1 hr
  obtain ⟨V, hV⟩ := recV hq hrc
  have hR := (cont_ok hq hr hrc).2
  have hbo := bm_ok (V := V) (VF.ps V zs) zs.length
  have hre := hV.seq.rec' hrc
  have hgen := (bm_inv (V := V) (VF.ps V zs) zs.length).gen
  have hz : VF.els V zs := hV.seq.els
  have hLe := hbo.le
  have hLs := hV.seq.L
  have hps : VF.ps V (recR p pw g zs) = (bm V (VF.ps V zs) zs.length).now := by rw [hre]; exact VF.lst_eq hbo.now
  obtain ⟨t, ht⟩ := cont_pre (ffOf p pw g) (recR p pw g zs) zs c.toNat
  have happ : zs ++ contR p pw g zs c = contTo (ffOf p pw g) (recR p pw g zs) zs c.toNat := by rw [hR, ht, List.drop_left]
  have hlen := contTo_length (ffOf p pw g) (recR p pw g zs) zs c.toNat
  have hcl : ((contR p pw g zs c).length : Int) = c := by
    have : (zs ++ contR p pw g zs c).length = zs.length + c.toNat := by rw [happ, hlen]
    rw [List.length_append] at this; omega
  refine ⟨hrc, hq, hcl, ?_, hl64, c0, c1, fun hle => ?_⟩
  · rw [← hLs]
    exact sat_gen hV.seq.sf hq hbo.now hre (by omega) hgen
  · rw [happ] at hle ⊢
    have hF := hV.F
    rw [← hF] at hle hlen ⊢
    have hel := contTo_els (V := V) (cs := recR p pw g zs) hz c.toNat
    have hqa : seqC p pw g (contTo V.F (recR p pw g zs) zs c.toNat) = 0 := by
      unfold seqC
      rw [if_pos hv0, if_pos ⟨hle, allB_iff.2 (by rw [← hF]; exact hel)⟩]
    have hG := cont_gen hV.els hz hV.pos hV.len (by rw [hps]; exact hgen) c.toNat
    have hB := bm_cont hV.els hz hV.pos hV.len hps.symm c.toNat c.toNat (Nat.le_refl _)
    obtain ⟨V2, hv2⟩ := seqV hqa
    obtain rfl : V2 = V := VF_same (hv2.sf.hV.trans hV.seq.sf.hV.symm)
    have hL2 := hv2.L
    rw [hlen, hB.2, hLs] at hL2
    refine ⟨hqa, hL2.symm, ?_⟩
    rw [← hLs]
    exact sat_gen hV.seq.sf hqa hbo.now hre (by omega) (by rw [hlen]; rw [← hps]; exact hG)
end Go.Proofs.Ythbiieflmmnfcaa
