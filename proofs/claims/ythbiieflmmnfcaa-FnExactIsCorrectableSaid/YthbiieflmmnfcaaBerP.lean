/-
  The shortest recurrence of the modified syndromes is the locator polynomial. Plain mathematics.
-/
import Derived.Test.YthbiieflmmnfcaaTwo
namespace Go.Proofs.Ythbiieflmmnfcaa
set_option linter.unusedVariables false
variable {V : VF}

/-- A list with zeros behind it, c elements in all. -/
def padL (c : Nat) (p : List Int) : List Int := p ++ List.replicate (c - p.length) 0
theorem padL_length {c : Nat} {p : List Int} (h : p.length ≤ c) : (padL c p).length = c := by unfold padL; simp; omega
theorem padL_gi (c : Nat) (p : List Int) (i : Nat) : gi (padL c p) i = gi p i := by
  unfold padL
  rcases Nat.lt_or_ge i p.length with h | h
  · exact gi_append_left h
  · unfold gi
    rw [List.getD_eq_getElem?_getD, List.getElem?_append_right h, List.getD_eq_getElem?_getD, List.getElem?_eq_none h, List.getElem?_replicate]
    split <;> rfl
theorem padL_els {c : Nat} {p : List Int} (h : VF.els V p) : VF.els V (padL c p) := fun z hz => by
  unfold padL at hz
  rcases List.mem_append.1 hz with h1 | h1
  · exact h z h1
  · exact VF.els_replicate _ z h1
/-- The sequence of which the register finds the recurrence. -/
noncomputable def berL (V : VF) (L c : Nat) (S E : List Int) : List Int := (padL c (omL V L c S E)).drop E.length
theorem berL_length {L c : Nat} {S E : List Int} : (berL V L c S E).length = c - E.length := by
  unfold berL; rw [List.length_drop, padL_length (omL_len V L c S E)]
theorem berL_els {L c : Nat} {S E : List Int} : VF.els V (berL V L c S E) := fun z hz => padL_els (omL_isP (V := V) L c S E).els z (List.mem_of_mem_drop hz)
theorem berL_c (L c : Nat) (S E : List Int) (n : Nat) : (VF.ps V (berL V L c S E)).c n = (VF.ps V (omL V L c S E)).c (E.length + n) := by
  rw [VF.ps_c, VF.ps_c]
  have : gi (berL V L c S E) n = gi (omL V L c S E) (E.length + n) := by
    refine Eq.trans ?_ (padL_gi c (omL V L c S E) (E.length + n))
    unfold berL gi
    rw [List.getD_eq_getElem?_getD, List.getElem?_drop, List.getD_eq_getElem?_getD]
  exact congrArg (VF.of V) this
theorem ber_key {L c : Nat} (hL : (L : Int) < V.F.size) {word E o : List Int} {O w : PS (El V)} (hD : Dec V L c word E o) (hS : Start V L c word E o O w) (hEc : E.length ≤ c) :
    (bm V (VF.ps V (berL V L c (syn V.F word c) E)) (c - E.length)).now = locP V L (errs L word E o) ∧ (bm V (VF.ps V (berL V L c (syn V.F word c) E)) (c - E.length)).L = (errs L word E o).length := by
  have hdm := hD.dmg
  have hr := errs_ris L word E o
  have hinv := bm_inv (V := V) (VF.ps V (berL V L c (syn V.F word c) E)) (c - E.length)
  obtain ⟨low, T', e1, hlow, -, hT⟩ := PS.cut_at (VF.ps V (omL V L c (syn V.F word c) E)) E.length
  have hTT : T' = VF.ps V (berL V L c (syn V.F word c) E) := PS.ext' fun i => by rw [hT, berL_c]
  rw [← hTT] at hinv ⊢
  obtain ⟨f, hf⟩ : ∃ f, (errs L word E o).length = f := ⟨_, rfl⟩
  obtain ⟨l, hl⟩ : ∃ l, (errs L word E o).map (fun i => VF.of V (locI V.F L i)) = l := ⟨_, rfl⟩
  have hll : l.length = f := by rw [← hl, List.length_map, hf]
  have hloc : locP V L (errs L word E o) = PS.lam l := by rw [← hl]; rfl
  have hnd : l.Nodup := by rw [← hl]; exact locs_nodup hL hr
  have heq := hS.eq
  have hod := hS.od
  have hiv := hS.inv
  have hwp := hS.wp
  rw [hl] at hiv
  rw [hloc, e1] at heq
  rw [hf] at hod hdm
  rw [hloc, hf]
  obtain ⟨n, hn⟩ : ∃ n, c - E.length = n := ⟨_, rfl⟩
  rw [hn] at hinv ⊢
  have hcn : c = E.length + n := by omega
  have hXc : (PS.X : PS (El V)) ^ c = (PS.X : PS (El V)) ^ E.length * (PS.X : PS (El V)) ^ n := by rw [hcn]; grind
  have hDd : (O - PS.lam l * low).dlt (f + E.length) := by
    refine PS.dlt_sub hod ?_
    have hdl := PS.dlt_lam l
    rw [hll] at hdl
    cases he : E.length with
    | zero =>
      rw [he] at hlow
      have : low = 0 := PS.ext' fun i => hlow i (Nat.zero_le _)
      rw [this]
      have : PS.lam l * (0 : PS (El V)) = 0 := by grind
      rw [this]; exact PS.dlt_zero _
    | succ m =>
      rw [he] at hlow
      exact PS.dlt_mul hlow f _ hdl
  have hX : (PS.X : PS (El V)) ^ E.length * (PS.lam l * T' - (PS.X : PS (El V)) ^ n * w) = O - PS.lam l * low := by
    rw [hXc] at heq
    grind
  have hO' : (PS.lam l * T' - (PS.X : PS (El V)) ^ n * w).dlt f := fun i hi => by
    have h1 : ((PS.X : PS (El V)) ^ E.length * (PS.lam l * T' - (PS.X : PS (El V)) ^ n * w)).c (E.length + i) = (PS.lam l * T' - (PS.X : PS (El V)) ^ n * w).c i := by
      rw [PS.Xpow_c, if_pos (by omega), show E.length + i - E.length = i by omega]
    rw [← h1, hX]
    exact hDd _ (by omega)
  have hlp : (PS.lam l).IsPoly := ⟨_, PS.dlt_lam l⟩
  have hop : O.IsPoly := ⟨_, hod⟩
  have hwp' : low.IsPoly := ⟨_, hlow⟩
  have hXp : ((PS.X : PS (El V)) ^ E.length).IsPoly := xp_poly (V := V) _
  have key := PS.rec_unique (S := T') (c := (bm V T' n).now) (O := PS.lam l * T' - (PS.X : PS (El V)) ^ n * w) (w := w) (L := (bm V T' n).L) (n := n) l hnd (fun a ha => by
    obtain ⟨b, hb, hb2⟩ := hiv a ha
    refine ⟨b, hb, fun h => hb2 ?_⟩
    have h1 : PS.ev ((PS.X : PS (El V)) ^ E.length * (PS.lam l * T' - (PS.X : PS (El V)) ^ n * w)) b = 0 := by
      rw [PS.ev_mul hXp ⟨_, hO'⟩, h]; grind
    rw [hX, PS.ev_sub hop (hlp.mul hwp'), PS.ev_mul hlp hwp', (PS.ev_lam_zero l hb).2 ha] at h1
    grind) (by grind) (by rw [hll]; exact hO') (by rw [hll]; omega) hinv.gen (by
      rw [hll]
      refine hinv.least (PS.lam l) f ⟨PS.lam_c_zero _, by rw [← hll]; exact PS.dlt_lam l, fun k h1 h2 => ?_⟩
      have e2 : PS.lam l * T' = (PS.lam l * T' - (PS.X : PS (El V)) ^ n * w) + (PS.X : PS (El V)) ^ n * w := by grind
      rw [e2, PS.add_c, hO' k h1, PS.Xpow_c, if_neg (by omega)]; grind)
  rw [hll] at key
  exact key
theorem ber_fok {L c : Nat} (hL : (L : Int) < V.F.size) (hc : c ≤ 64) {word E : List Int} (hw : VF.els V word) (hwl : word.length = L) (hE : RisTo 0 ((L : Int) - 1) E E.length) (hEc : E.length ≤ c) :
    FOk V L c word E (VF.lst V (bm V (VF.ps V (berL V L c (syn V.F word c) E)) (c - E.length)).now) := by
  have hok := bm_ok (V := V) (VF.ps V (berL V L c (syn V.F word c) E)) (c - E.length)
  refine ⟨(VF.lst_isP hok.now).els, ?_, fun o hd => ?_⟩
  · have := hok.nlen; have := hok.le; omega
  · obtain ⟨O, w, hS⟩ := hd.start hL hw hwl hE
    rw [(ber_key hL hd hS hEc).1]
end Go.Proofs.Ythbiieflmmnfcaa
