/-
  The finders of locator polynomials. Plain mathematics over the program's words.
-/
import Derived.Test.YthbiieflmmnfcaaDecP
namespace Go.Proofs.Ythbiieflmmnfcaa
open PS (dot)
set_option linter.unusedVariables false
variable {V : VF}

theorem gs_perm {K : Type} [CR K] {E D : List (K × K)} (h : E.Perm D) : PS.gs E = PS.gs D := by
  induction h with
  | nil => rfl
  | cons x _ ih => show _ + PS.gs _ = _ + PS.gs _; rw [ih]
  | swap x y l => show _ + (_ + PS.gs l) = _ + (_ + PS.gs l); grind
  | trans _ _ h1 h2 => rw [h1, h2]
theorem errs_mem {L : Nat} {word E o : List Int} {z : Int} : z ∈ errs L word E o ↔ ∃ i : Nat, i < L ∧ z = (i : Int) ∧ ¬ (i : Int) ∈ E ∧ gi word i ≠ gi o i := by
  unfold errs
  rw [filtL_mem]
  simp
theorem errs_ris (L : Nat) (word E o : List Int) : RisTo 0 ((L : Int) - 1) (errs L word E o) (errs L word E o).length := filtL_ris _ _ _ (by omega)
/-- What a word's difference is at an index. -/
noncomputable def dd (V : VF) (word o : List Int) (i : Int) : El V := VF.of V (gi word i.toNat) - VF.of V (gi o i.toNat)
noncomputable def EF (V : VF) (L : Nat) (word o pl : List Int) : List (El V × El V) := pl.map fun i => (VF.of V (locI V.F L i), dd V word o i)
theorem EF_Eof {L : Nat} {word o : List Int} (hw : VF.els V word) (ho : VF.els V o) (pl : List Int) : Eof V L pl (fun m => VF.of V (gi (difs V.F word o pl) m)) pl.length = EF V L word o pl := by
  unfold Eof EF
  rw [← range_map_gi]
  refine List.map_congr_left fun m hm => ?_
  show (locX V L pl m, VF.of V (gi (difs V.F word o pl) m)) = _
  rw [difs_gi _ _ _ _ (List.mem_range.1 hm), of_dif (show V.F.el (gi word _) from hw.getD _) (show V.F.el (gi o _) from ho.getD _)]; rfl
theorem EF_fst (L : Nat) (word o pl : List Int) : (EF V L word o pl).map (·.1) = pl.map fun i => VF.of V (locI V.F L i) := by
  unfold EF; rw [List.map_map]; rfl
theorem EF_append (L : Nat) (word o a b : List Int) : EF V L word o (a ++ b) = EF V L word o a ++ EF V L word o b := by unfold EF; rw [List.map_append]
/-- A series that starts with n zeros. -/
theorem shift_of {K : Type} [CR K] {f : PS K} {n : Nat} (h : ∀ i, i < n → f.c i = 0) : ∃ g : PS K, f = (PS.X : PS K) ^ n * g ∧ ∀ i, g.c i = f.c (n + i) :=
  ⟨⟨fun i => f.c (n + i)⟩, PS.ext' fun i => by
    rw [PS.Xpow_c]
    split
    · rename_i hi
      show _ = f.c (n + (i - n))
      rw [show n + (i - n) = i by omega]
    · rename_i hi; exact h i (by omega), fun i => rfl⟩
/-- What the finders start from. -/
structure Start (V : VF) (L c : Nat) (word E o : List Int) (O w : PS (El V)) : Prop where
  eq : locP V L (errs L word E o) * VF.ps V (omL V L c (syn V.F word c) E) = O + (PS.X : PS (El V)) ^ c * w
  wp : w.IsPoly
  od : O.dlt ((errs L word E o).length + E.length)
  inv : ∀ a ∈ (errs L word E o).map fun i => VF.of V (locI V.F L i), ∃ b, a * b = 1 ∧ PS.ev O b ≠ 0
theorem Dec.start {L c : Nat} (hL : (L : Int) < V.F.size) {word E o : List Int} (h : Dec V L c word E o) (hw : VF.els V word) (hwl : word.length = L) (hE : RisTo 0 ((L : Int) - 1) E E.length) : ∃ O w, Start V L c word E o O w := by
  have hFr := errs_ris L word E o
  obtain ⟨F, hF⟩ : ∃ F, errs L word E o = F := ⟨_, rfl⟩
  have hFm : ∀ z, z ∈ F → ∃ i : Nat, i < L ∧ z = (i : Int) ∧ ¬ (i : Int) ∈ E ∧ gi word i ≠ gi o i := fun z hz => errs_mem.1 (by rw [hF]; exact hz)
  have hFm2 : ∀ i : Nat, i < L → ¬ (i : Int) ∈ E → gi word i ≠ gi o i → (i : Int) ∈ F := fun i h1 h2 h3 => by rw [← hF]; exact errs_mem.2 ⟨i, h1, rfl, h2, h3⟩
  rw [hF] at hFr
  -- all places
  obtain ⟨pl, hpl⟩ : ∃ pl, filtL (fun i => F.contains (i : Int) || E.contains (i : Int)) L = pl := ⟨_, rfl⟩
  have hplr : RisTo 0 ((L : Int) - 1) pl pl.length := by rw [← hpl]; exact filtL_ris _ _ _ (by omega)
  have hplm : ∀ z, z ∈ pl ↔ z ∈ F ++ E := fun z => by
    rw [← hpl, filtL_mem, List.mem_append]
    constructor
    · rintro ⟨i, _, rfl, h1⟩
      simpa using h1
    · intro h1
      rcases h1 with h1 | h1
      · obtain ⟨i, hi, rfl, _⟩ := hFm z h1
        exact ⟨i, hi, rfl, by simp [h1]⟩
      · obtain ⟨h2, h3⟩ := ris_mem hE h1
        exact ⟨z.toNat, by omega, by omega, by rw [show ((z.toNat : Nat) : Int) = z by omega]; simp [h1]⟩
  have hFE : (F ++ E).Nodup := by
    rw [List.nodup_append]
    refine ⟨nodup_of_ris hFr, nodup_of_ris hE, fun a ha b hb e => ?_⟩
    obtain ⟨i, _, rfl, h1, _⟩ := hFm a ha
    exact h1 (by rw [e]; exact hb)
  have hperm : pl.Perm (F ++ E) := (List.perm_ext_iff_of_nodup (nodup_of_ris hplr) hFE).2 hplm
  have hcons := h.cons hw hwl hplr (fun i hi hne => (hplm _).2 (by
    by_cases hm : (i : Int) ∈ E
    · exact List.mem_append_right _ hm
    · exact List.mem_append_left _ (hFm2 i hi hm hne)))
  have hgs : ∀ j, j < c → (PS.gs (EF V L word o (F ++ E))).c j = VF.of V (gi (syn V.F word c) j) := fun j hj => by
    have e1 : PS.gs (EF V L word o (F ++ E)) = PS.gs (EF V L word o pl) := (gs_perm (hperm.map _)).symm
    rw [e1, ← EF_Eof hw h.els pl, gsE_c, hcons j hj]
  have hlam := PS.lam_gs (EF V L word o (F ++ E))
  rw [EF_fst, List.map_append, PS.lam_append] at hlam
  -- the low part
  have hlow : ∀ i, i < c → (VF.ps V (omL V L c (syn V.F word c) E) - PS.gs (EF V L word o (F ++ E)) * locP V L E).c i = 0 := fun i hi => by
    rw [PS.sub_c, omL_c, if_pos hi]
    rw [mul_low c i (VF.ps V (syn V.F word c)) (PS.gs (EF V L word o (F ++ E))) (locP V L E) hi (fun j hj => by rw [hgs j hj]; rfl)]
    grind
  obtain ⟨w1, hw1, _⟩ := shift_of hlow
  have hFpoly := locP_poly V (L : Int) F
  have hOp := PS.isPoly_om (EF V L word o (F ++ E))
  have hEq : locP V L F * VF.ps V (omL V L c (syn V.F word c) E) = PS.om (EF V L word o (F ++ E)) + (PS.X : PS (El V)) ^ c * (locP V L F * w1) := by
    have e1 : VF.ps V (omL V L c (syn V.F word c) E) = PS.gs (EF V L word o (F ++ E)) * locP V L E + (PS.X : PS (El V)) ^ c * w1 := by rw [← hw1]; grind
    rw [e1, ← hlam]
    show locP V L F * (PS.gs (EF V L word o (F ++ E)) * locP V L E + (PS.X : PS (El V)) ^ c * w1) = locP V L F * locP V L E * PS.gs (EF V L word o (F ++ E)) + (PS.X : PS (El V)) ^ c * (locP V L F * w1)
    grind
  refine ⟨PS.om (EF V L word o (F ++ E)), locP V L F * w1, ⟨by rw [hF]; exact hEq, ?_, ?_, ?_⟩⟩
  · -- a polynomial
    obtain ⟨n, hn⟩ := (hFpoly.mul (VF.ps_poly (V := V) (omL V L c (syn V.F word c) E))).sub hOp
    refine ⟨n, fun i hi => ?_⟩
    have h1 : ((PS.X : PS (El V)) ^ c * (locP V L F * w1)).c (c + i) = 0 := by
      have e2 : (PS.X : PS (El V)) ^ c * (locP V L F * w1) = locP V L F * VF.ps V (omL V L c (syn V.F word c) E) - PS.om (EF V L word o (F ++ E)) := by rw [hEq]; grind
      rw [e2]; exact hn _ (by omega)
    rw [PS.Xpow_c, if_pos (by omega), Nat.add_sub_cancel_left] at h1
    exact h1
  · have := PS.dlt_om (EF V L word o (F ++ E))
    unfold EF at this
    rw [List.length_map, List.length_append] at this
    rw [hF]; exact this
  · rw [hF]
    intro a ha
    obtain ⟨i, hi, rfl⟩ := List.mem_map.1 ha
    refine ⟨_, loc_inv L i, ?_⟩
    obtain ⟨F1, F2, rfl⟩ := List.append_of_mem hi
    obtain ⟨n, hn, rfl, hnE, hne⟩ := hFm i hi
    have hsplit : EF V L word o (F1 ++ (n : Int) :: F2 ++ E) = EF V L word o F1 ++ (VF.of V (locI V.F L (n : Int)), dd V word o (n : Int)) :: EF V L word o (F2 ++ E) := by
      rw [List.append_assoc, List.cons_append, EF_append]; rfl
    rw [hsplit, PS.ev_om_at _ _ _ _ _ (loc_inv L (n : Int)), EF_fst, EF_fst]
    have hinj : ∀ z, z ∈ F1 ++ (n : Int) :: F2 ++ E → 0 ≤ z ∧ z ≤ (L : Int) - 1 := fun z hz => by
      rcases List.mem_append.1 hz with h1 | h1
      · exact ris_mem hFr h1
      · exact ris_mem hE h1
    have hnot : ∀ (l : List Int), (∀ z ∈ l, z ∈ F1 ++ (n : Int) :: F2 ++ E) → ¬ (n : Int) ∈ l → PS.ev (PS.lam (l.map fun i => VF.of V (locI V.F L i))) (VF.of V (V.F.inv (locI V.F L (n : Int)))) ≠ 0 := fun l h1 h2 h3 => by
      obtain ⟨z, hz, e⟩ := List.mem_map.1 ((PS.ev_lam_zero _ (loc_inv L (n : Int))).1 h3)
      have e2 := VF.of_inj (V := V) (locI_el V L z) (locI_el V L (n : Int)) e
      obtain ⟨a1, a2⟩ := hinj z (h1 z hz)
      have := locI_inj hL a1 a2 (by omega) (by omega) e2
      exact h2 (by rw [← this]; exact hz)
    have hdn : dd V word o (n : Int) ≠ 0 := fun e => hne (by
      unfold dd at e
      rw [Int.toNat_natCast] at e
      exact VF.of_inj (V := V) (show V.F.el (gi word n) from hw.getD n) (show V.F.el (gi o n) from h.els.getD n) (by grind))
    have hnd2 := hFE
    rw [List.append_assoc, List.cons_append, List.nodup_append] at hnd2
    have h4 := List.nodup_cons.1 hnd2.2.1
    refine mul_ne (mul_ne hdn (fun e => locI_ne (V := V) L (n : Int) ((VF.of_eq_zero (locI_el V L _)).1 e))) (mul_ne (hnot F1 (fun z hz => by simp [hz]) ?_) (hnot (F2 ++ E) (fun z hz => by rcases List.mem_append.1 hz with h | h <;> simp [h]) h4.1))
    intro h5
    exact hnd2.2.2 (n : Int) h5 (n : Int) (by simp) rfl
/-- The state of Euclid's algorithm. -/
structure EI (V : VF) (d : Nat) (sp : PS (El V)) (a b : List Int) (u v : PS (El V)) : Prop where
  ha : VF.isP V a
  hb : VF.isP V b
  lt : b.length < a.length
  la : a.length ≤ d + 1
  up : u.IsPoly
  vp : v.IsPoly
  du : u.dlt (d + 2 - a.length)
  dv : v.dlt (d + 2 - a.length)
  ex : ∃ p q : PS (El V), p.IsPoly ∧ q.IsPoly ∧ VF.ps V a = p * (PS.X : PS (El V)) ^ d + u * sp ∧ VF.ps V b = q * (PS.X : PS (El V)) ^ d + v * sp ∧ (p * v - q * u = 1 ∨ p * v - q * u = -1)
theorem DivOf.qlen {p d q r : List Int} (hd : VF.isP V d) (h : VF.DivOf V p d q r) (h0 : q ≠ []) : q.length + d.length ≤ p.length + 1 := by
  have hq := List.length_pos_iff.2 h0
  have hdl : 0 < d.length := by have := h.len; omega
  obtain ⟨m, hm⟩ : ∃ m, q.length = m + 1 := ⟨q.length - 1, by omega⟩
  obtain ⟨n, hn⟩ : ∃ n, d.length = n + 1 := ⟨d.length - 1, by omega⟩
  have h1 : (VF.ps V q).dlt (m + 1) := by rw [← hm]; exact VF.ps_dlt q
  have h2 : (VF.ps V d).dlt (n + 1) := by rw [← hn]; exact VF.ps_dlt d
  have htop := PS.mul_top h2 m (VF.ps V q) h1
  have e1 := h.hq.top hq
  have e2 := hd.top hdl
  rw [hm, Nat.add_sub_cancel] at e1
  rw [hn, Nat.add_sub_cancel] at e2
  have hr : (VF.ps V r).c (m + n) = 0 := VF.ps_dlt r _ (by have := h.len; omega)
  have hc : (VF.ps V p).c (m + n) ≠ 0 := by
    rw [h.eq, PS.add_c, htop, hr]
    intro e
    exact mul_ne e1 e2 (by grind)
  apply Classical.byContradiction; intro hlt
  exact hc (VF.ps_dlt p _ (by omega))
theorem EI.step {d : Nat} {sp : PS (El V)} {a b q r : List Int} {u v : PS (El V)} (h : EI V d sp a b u v) (hb0 : b ≠ []) (hd : VF.DivOf V a b q r) : EI V d sp b r v (u - VF.ps V q * v) := by
  have hq0 : q ≠ [] := fun e => by
    have := hd.eq
    rw [e, VF.ps_nil] at this
    have e2 : VF.ps V a = VF.ps V r := by rw [this]; grind
    have h1 := VF.isP_inj h.ha hd.hr e2
    have h2 := hd.len
    have h3 := h.lt
    rw [h1] at h3; omega
  have hql := DivOf.qlen h.hb hd hq0
  have hlt := h.lt
  have hla := h.la
  have hbl : 0 < b.length := List.length_pos_iff.2 hb0
  obtain ⟨p, qc, hp, hqc, e1, e2, e3⟩ := h.ex
  refine ⟨h.hb, hd.hr, hd.len, by omega, h.vp, h.up.sub ((VF.ps_poly q).mul h.vp), h.dv.mono (by omega), ?_, ⟨qc, p - VF.ps V q * qc, hqc, hp.sub ((VF.ps_poly q).mul hqc), e2, ?_, ?_⟩⟩
  · refine PS.dlt_sub (h.du.mono (by omega)) ?_
    obtain ⟨m, hm⟩ : ∃ m, q.length = m + 1 := ⟨q.length - 1, by have := List.length_pos_iff.2 hq0; omega⟩
    obtain ⟨n, hn⟩ : ∃ n, d + 2 - a.length = n + 1 := ⟨d + 1 - a.length, by omega⟩
    have h1 : (VF.ps V q).dlt (m + 1) := by rw [← hm]; exact VF.ps_dlt q
    have h2 := h.dv
    rw [hn] at h2
    exact (PS.dlt_mul h2 m (VF.ps V q) h1).mono (by omega)
  · have : VF.ps V r = VF.ps V a - VF.ps V q * VF.ps V b := by rw [hd.eq]; grind
    rw [this, e1, e2]; grind
  · rcases e3 with e3 | e3
    · right; grind
    · left; grind
/-- Where Euclid's algorithm stops, there stands the locator polynomial. -/
theorem EI.done {L c : Nat} (hL : (L : Int) < V.F.size) {word E o : List Int} {O w : PS (El V)} (hD : Dec V L c word E o) (hS : Start V L c word E o O w) {a b : List Int} {u v : PS (El V)}
    (h : EI V c (VF.ps V (omL V L c (syn V.F word c) E)) a b u v) (hEc : E.length ≤ c) (hb : b.length ≤ (c + E.length + 1) / 2) (ha : (c + E.length + 1) / 2 < a.length) :
    ∃ k : El V, k ≠ 0 ∧ v = PS.C k * locP V L (errs L word E o) := by
  obtain ⟨p, q, hp, hq, e1, e2, e3⟩ := h.ex
  have hdm := hD.dmg
  have hr := errs_ris L word E o
  have hla := h.la
  refine PS.euclid_key c ((c - E.length) / 2) ((c + E.length + 1) / 2) (S := VF.ps V (omL V L c (syn V.F word c) E)) (O := O) (w := w) (v := v) (r := VF.ps V b) (u := q) (ua := p) (va := u)
    ((errs L word E o).map fun i => VF.of V (locI V.F L i)) (locs_nodup hL hr) hS.inv hS.eq hS.wp ⟨_, hS.od⟩ e2 e3 hp h.up ?_ ?_ ?_ ?_ ?_
  · exact h.dv.mono (by omega)
  · rw [List.length_map]; omega
  · exact (VF.ps_dlt b).mono hb
  · exact hS.od.mono (by omega)
  · omega
end Go.Proofs.Ythbiieflmmnfcaa
