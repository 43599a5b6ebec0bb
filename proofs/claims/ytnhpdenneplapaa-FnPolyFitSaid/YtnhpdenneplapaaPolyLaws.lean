/-
  The plain laws of products, common divisors and roots.
-/
import Derived.Test.YtnhpdenneplapaaPolyE
import Derived.Test.YtnhpdenneplapaaPolyRoots
import Derived.Test.YtnhpdenneplapaaField2
namespace Go.Proofs.Ytnhpdenneplapaa
open Go.RowKit
set_option linter.unusedVariables false

theorem gi_inL {l : List Int} {k : Nat} (h : k < l.length) : gi l k ∈ l := by
  unfold gi; rw [List.getD_eq_getElem?_getD, List.getElem?_eq_getElem h]; exact List.getElem_mem h
theorem nodup_map {α β : Type} {f : α → β} : ∀ {l : List α}, (∀ a ∈ l, ∀ b ∈ l, f a = f b → a = b) → l.Nodup → (l.map f).Nodup
  | [], _, _ => List.nodup_nil
  | x :: l, h, hn => by
    rw [List.map_cons, List.nodup_cons]
    rw [List.nodup_cons] at hn
    refine ⟨fun hm => ?_, nodup_map (fun a ha b hb => h a (List.mem_cons_of_mem _ ha) b (List.mem_cons_of_mem _ hb)) hn.2⟩
    obtain ⟨y, hy, e⟩ := List.mem_map.1 hm
    have := h y (List.mem_cons_of_mem _ hy) x (by simp) e
    exact hn.1 (this ▸ hy)
theorem evI_ofL {V : VF} {l : List Int} (hl : VF.els V l) {x : Int} (hx : V.F.el x) : VF.of V (evI V.F l x) = PS.ev (VF.ps V l) (VF.of V x) := by
  show _ = VF.evl V l x
  induction l with
  | nil => rw [VF.evl_nil]; exact VF.of_zero
  | cons a l ih =>
    have h := VF.els_cons.1 hl
    rw [VF.evl_cons, ← ih h.2]
    show VF.of V (V.F.add (V.F.mul (evI V.F l x) x) a) = _
    rw [VF.of_add (FF.mul_el V.ok _ _) h.1, VF.of_mul (evI_el V.ok h.2 x) hx]; grind
theorem pev_of {V : VF} {p pw g : Int} (h : SF V p pw g) {l : List Int} (hl : VF.isP V l) (hll : l.length ≤ 512) {x : Int} (hx : V.F.el x) : pevC p pw g l x = 0 ∧ pevR p pw g l x = evI V.F l x := by
  have hc : codeP p pw g [l] = 0 := codeP_of h (fun zs hz => by rcases List.mem_cons.1 hz with rfl | hz; exact ⟨hl, hll⟩; cases hz)
  have hx' : hasB (ffOf p pw g) x = true := by rw [← h.hV]; exact hasB_iff.2 hx
  unfold pevC pevR
  rw [if_pos hc, if_pos hx', if_pos ⟨hc, hx'⟩, ← h.hV]; exact ⟨rfl, rfl⟩
theorem mulC_zero {p pw g : Int} {x y : List Int} (h : mulC p pw g x y = 0) : codeP p pw g [x, y] = 0 ∧ ¬ longB x y = true := by
  unfold mulC at h
  by_cases hc : codeP p pw g [x, y] = 0
  · rw [if_pos hc] at h
    refine ⟨hc, fun hl => ?_⟩
    rw [if_pos hl] at h; cases h
  · rw [if_neg hc] at h; exact absurd h hc
theorem div_code {V : VF} {p pw g : Int} (h : SF V p pw g) {x y : List Int} (hx : VF.isP V x) (hxl : x.length ≤ 512) (hy : VF.isP V y) (hyl : y.length ≤ 512) (h0 : y ≠ []) :
    divC p pw g x y = 0 ∧ divQ p pw g x y = (VF.dqr V x y).1 ∧ divR p pw g x y = (VF.dqr V x y).2 := by
  have hc : codeP p pw g [x, y] = 0 := codeP_of h (fun zs hz => by
    rcases List.mem_cons.1 hz with rfl | hz
    · exact ⟨hx, hxl⟩
    · rcases List.mem_cons.1 hz with rfl | hz
      · exact ⟨hy, hyl⟩
      · cases hz)
  unfold divC divQ divR
  rw [if_pos hc, if_neg h0, if_neg h0, if_neg h0, onP_of h hc, onP_of h hc]
  exact ⟨rfl, rfl, rfl⟩
theorem products_plain {p pw g : Int} {P Q : List Int} (h : mulC p pw g P Q = 0) {r : Int} (h0 : 0 ≤ r) (h1 : r < 3) :
    pevC p pw g P r = 0 ∧ pevC p pw g Q r = 0 ∧ pevC p pw g (mulR p pw g P Q) r = 0 ∧ codeE p pw g [pevR p pw g P r, pevR p pw g Q r] = 0 ∧
    pevR p pw g (mulR p pw g P Q) r = fmulR p pw g (pevR p pw g P r) (pevR p pw g Q r) ∧
    (Q ≠ [] → divC p pw g (mulR p pw g P Q) Q = 0 ∧ divQ p pw g (mulR p pw g P Q) Q = P ∧ divR p pw g (mulR p pw g P Q) Q = []) := by
  obtain ⟨hc, hlong⟩ := mulC_zero h
  obtain ⟨V, hSF, hall, hon, -⟩ := codeP_V hc
  obtain ⟨⟨hl, hp⟩, hl', hq⟩ := two_mem hall
  have hlo := V.ok.lo
  have hrel : V.F.el r := ⟨h0, by omega⟩
  have hm : VF.isP V (mulR p pw g P Q) ∧ VF.ps V (mulR p pw g P Q) = VF.ps V P * VF.ps V Q ∧ (mulR p pw g P Q).length ≤ 512 := by
    by_cases hP : P = []
    · exact (mul_code hSF hp hl hq hl' (.inl hP)).2
    by_cases hQ : Q = []
    · have e : mulR p pw g P Q = VF.lst V (VF.ps V P * VF.ps V Q) := by unfold mulR; rw [if_neg hlong]; exact hon _
      have hpoly := (VF.ps_poly (V := V) P).mul (VF.ps_poly (V := V) Q)
      have hz : VF.ps V P * VF.ps V Q = 0 := by rw [hQ, VF.ps_nil]; grind
      have := VF.lst_len (V := V) (f := 0) (n := 0) (fun i hi => rfl)
      exact ⟨by rw [e]; exact VF.lst_isP hpoly, by rw [e]; exact VF.lst_eq hpoly, by rw [e, hz]; omega⟩
    · refine (mul_code hSF hp hl hq hl' (.inr ?_)).2
      unfold longB at hlong
      simp only [decide_eq_true_eq] at hlong
      have := List.length_pos_iff.2 hP
      have := List.length_pos_iff.2 hQ
      omega
  obtain ⟨hm1, hm2, hm3⟩ := hm
  obtain ⟨a1, a2⟩ := pev_of hSF hp hl hrel
  obtain ⟨b1, b2⟩ := pev_of hSF hq hl' hrel
  obtain ⟨c1, c2⟩ := pev_of hSF hm1 hm3 hrel
  have ea := evI_el V.ok hp.els r
  have eb := evI_el V.ok hq.els r
  have ec := evI_el V.ok hm1.els r
  have hce : codeE p pw g [evI V.F P r, evI V.F Q r] = 0 := by
    unfold codeE; rw [if_pos hSF.hv, if_pos (allB_iff.2 (by rw [← hSF.hV]; simp; exact ⟨ea, eb⟩))]
  rw [a2, b2, c2]
  refine ⟨a1, b1, c1, hce, ?_, fun hQ => ?_⟩
  · unfold fmulR
    rw [if_pos hce, ← hSF.hV]
    refine VF.of_inj ec (FF.mul_el V.ok _ _) ?_
    rw [VF.of_mul ea eb, evI_ofL hm1.els hrel, evI_ofL hp.els hrel, evI_ofL hq.els hrel, hm2, PS.ev_mul (VF.ps_poly _) (VF.ps_poly _)]
  · obtain ⟨d1, d2, d3⟩ := div_code hSF hm1 hm3 hq hl' hQ
    have hD : VF.DivOf V (mulR p pw g P Q) Q P [] := ⟨hp, VF.isP_nil, by rw [hm2, VF.ps_nil]; grind, List.length_pos_iff.2 hQ⟩
    rw [VF.dqr_of hq hD] at d2 d3
    exact ⟨d1, d2, d3⟩
/-- One polynomial divides another. -/
def Dvd (V : VF) (d a : List Int) : Prop := ∃ f : PS (El V), f.IsPoly ∧ VF.ps V a = f * VF.ps V d
theorem gcdTo_isP {V : VF} : ∀ (f : Nat) (a b : List Int), VF.isP V a → VF.isP V b → VF.isP V (gcdTo V f a b)
  | 0, a, b, ha, hb => ha
  | f + 1, a, b, ha, hb => by
    by_cases h : b = []
    · rw [h, gcdTo_nil]; exact ha
    · rw [gcdTo_step V h]
      exact gcdTo_isP f b _ hb (VF.dqr_spec ha hb h).hr
theorem gcdTo_dvd {V : VF} : ∀ (f : Nat) (a b : List Int), VF.isP V a → VF.isP V b → b.length < f → Dvd V (gcdTo V f a b) a ∧ Dvd V (gcdTo V f a b) b
  | 0, a, b, ha, hb, h => by omega
  | f + 1, a, b, ha, hb, hl => by
    by_cases h : b = []
    · rw [h, gcdTo_nil]
      exact ⟨⟨1, PS.isPoly_one, by grind⟩, ⟨0, PS.isPoly_zero, by rw [VF.ps_nil]; grind⟩⟩
    · rw [gcdTo_step V h]
      have hD := VF.dqr_spec ha hb h
      have hlen := hD.len
      obtain ⟨⟨f1, hf1, e1⟩, ⟨f2, hf2, e2⟩⟩ := gcdTo_dvd f b _ hb hD.hr (by omega)
      refine ⟨⟨VF.ps V (VF.dqr V a b).1 * f1 + f2, ((VF.ps_poly _).mul hf1).add hf2, ?_⟩, ⟨f1, hf1, e1⟩⟩
      rw [hD.eq]
      conv => lhs; rw [e1, e2]
      grind
theorem gcdTo_ne {V : VF} : ∀ (f : Nat) (a b : List Int), a ≠ [] ∨ b ≠ [] → b.length < f → VF.isP V a → VF.isP V b → gcdTo V f a b ≠ []
  | 0, a, b, h, hl, ha, hb => by omega
  | f + 1, a, b, h, hl, ha, hb => by
    by_cases h0 : b = []
    · rw [h0, gcdTo_nil]; exact h.resolve_right (fun h => h h0)
    · rw [gcdTo_step V h0]
      have hD := VF.dqr_spec ha hb h0
      have := hD.len
      exact gcdTo_ne f b _ (.inl h0) (by omega) hb hD.hr
theorem gcd_plain {p pw g : Int} {P Q : List Int} (h : gcdC p pw g P Q = 0) :
    divC p pw g P (gcdR p pw g P Q) = 0 ∧ divC p pw g Q (gcdR p pw g P Q) = 0 ∧ divR p pw g P (gcdR p pw g P Q) = [] ∧ divR p pw g Q (gcdR p pw g P Q) = [] ∧ 0 < (gcdR p pw g P Q).length ∧ gi (gcdR p pw g P Q) ((gcdR p pw g P Q).length - 1) = 1 := by
  have hc : codeP p pw g [P, Q] = 0 := by
    by_cases hc : codeP p pw g [P, Q] = 0
    · exact hc
    · rw [(gcdC_bad hc).1] at h; exact absurd h hc
  have hne : ¬ (P = [] ∧ Q = []) := fun e => by rw [(gcdC_zero hc e).1] at h; cases h
  obtain ⟨V, hSF, hall, hon, -⟩ := codeP_V hc
  obtain ⟨⟨hl, hp⟩, hl', hq⟩ := two_mem hall
  have e : gcdR p pw g P Q = gcdL V P Q := by rw [(gcdC_ok hc hne).2]; exact hon _
  rw [e]
  unfold gcdL
  have h1 := gcdTo_isP (V := V) (Q.length + 1) P Q hp hq
  have h2 := gcdTo_ne (V := V) (Q.length + 1) P Q (by by_cases hP : P = []; exact .inr (fun hQ => hne ⟨hP, hQ⟩); exact .inl hP) (by omega) hp hq
  have h3 := gcdTo_dvd (V := V) (Q.length + 1) P Q hp hq (by omega)
  have h4 := gcdTo_len V (Q.length + 1) P Q hq hl hl'
  generalize gcdTo V (Q.length + 1) P Q = a at *
  have hal := List.length_pos_iff.2 h2
  obtain ⟨n, hn⟩ : ∃ n, a.length = n + 1 := ⟨a.length - 1, by omega⟩
  have hlast : gi a (a.length - 1) ≠ 0 := h1.tight (by omega)
  have hel : V.F.el (gi a (a.length - 1)) := h1.els _ (gi_inL (by omega))
  obtain ⟨k, hk⟩ : ∃ k, VF.of V (V.F.inv (gi a (a.length - 1))) = k := ⟨_, rfl⟩
  have hki : VF.of V (gi a (a.length - 1)) * k = 1 := by
    rw [← hk, ← VF.of_mul hel (FF.inv_el V.ok _), FF.mul_inv' V.ok hel hlast, VF.of_one]
  have hm : monic V a = VF.lst V (PS.C k * VF.ps V a) := by unfold monic; rw [hk]
  have hpoly : (PS.C k * VF.ps V a).IsPoly := (PS.isPoly_C _).mul (VF.ps_poly a)
  have hmP : VF.isP V (monic V a) := by rw [hm]; exact VF.lst_isP hpoly
  have hmps : VF.ps V (monic V a) = PS.C k * VF.ps V a := by rw [hm]; exact VF.lst_eq hpoly
  have hml := monic_len V a
  have htop : (VF.ps V a).c n = VF.of V (gi a n) := VF.ps_c a n
  have hnn : a.length - 1 = n := by omega
  rw [hnn] at hki hlast hel
  have htop2 : (VF.ps V (monic V a)).c n = 1 := by rw [hmps, PS.C_mul_c, htop]; grind
  have hmlen : (monic V a).length = n + 1 := hmP.len_eq (by rw [hmps]; exact PS.dlt_C_mul _ (by rw [← hn]; exact VF.ps_dlt a)) (by rw [htop2]; exact Fld.one_ne)
  have hm0 : monic V a ≠ [] := fun e => by rw [e] at hmlen; simp at hmlen
  have hdv : ∀ x, VF.isP V x → x.length ≤ 512 → Dvd V a x → divC p pw g x (monic V a) = 0 ∧ divR p pw g x (monic V a) = [] := by
    intro x hx hxl ⟨f, hf, ef⟩
    obtain ⟨d1, d2, d3⟩ := div_code hSF hx hxl hmP (by omega) hm0
    have hfa : (f * PS.C (VF.of V (gi a n))).IsPoly := hf.mul (PS.isPoly_C _)
    have hD : VF.DivOf V x (monic V a) (VF.lst V (f * PS.C (VF.of V (gi a n)))) [] := by
      refine ⟨VF.lst_isP hfa, VF.isP_nil, ?_, by rw [hmlen]; simp⟩
      rw [VF.lst_eq hfa, VF.ps_nil, hmps, ef]
      have h5 : PS.C (VF.of V (gi a n)) * PS.C k = (1 : PS (El V)) := by rw [← PS.C_mul, hki, PS.C_one]
      have : f * PS.C (VF.of V (gi a n)) * (PS.C k * VF.ps V a) + 0 = f * (PS.C (VF.of V (gi a n)) * PS.C k) * VF.ps V a := by grind
      rw [this, h5]; grind
    rw [VF.dqr_of hmP hD] at d3
    exact ⟨d1, d3⟩
  obtain ⟨p1, p2⟩ := hdv P hp hl h3.1
  obtain ⟨q1, q2⟩ := hdv Q hq hl' h3.2
  refine ⟨p1, q1, p2, q2, by omega, ?_⟩
  rw [hmlen, Nat.add_sub_cancel]
  rw [VF.ps_c] at htop2
  exact VF.of_inj (hmP.els _ (gi_inL (by omega))) (FF.one_el V.ok) (by rw [VF.of_one]; exact htop2)
theorem rootsTo_mem {F : FF} {zs : List Int} : ∀ (k : Nat) (z : Int), z ∈ rootsTo F zs k → 0 ≤ z ∧ z < k ∧ evI F zs z = 0
  | 0, z, h => by cases h
  | k + 1, z, h => by
    unfold rootsTo at h
    split at h
    · rename_i h0
      rcases List.mem_append.1 h with h | h
      · have := rootsTo_mem k z h; exact ⟨this.1, by omega, this.2.2⟩
      · simp at h; subst h; exact ⟨by omega, by omega, h0⟩
    · have := rootsTo_mem k z h; exact ⟨this.1, by omega, this.2.2⟩
theorem rootsTo_nodup {F : FF} {zs : List Int} : ∀ (k : Nat), (rootsTo F zs k).Nodup
  | 0 => List.nodup_nil
  | k + 1 => by
    unfold rootsTo
    split
    · refine List.nodup_append.2 ⟨rootsTo_nodup k, by simp, fun a ha b hb => ?_⟩
      simp at hb; subst hb
      have := rootsTo_mem k a ha; omega
    · exact rootsTo_nodup k
theorem roots_plain {p pw g : Int} {P : List Int} (h : prC p pw g P = 0) :
    (∀ k, k < (prR p pw g P).length → pevC p pw g P (gi (prR p pw g P) k) = 0 ∧ pevR p pw g P (gi (prR p pw g P) k) = 0) ∧ (prR p pw g P).length < P.length := by
  have hc : codeP p pw g [P] = 0 := by
    unfold prC at h
    by_cases hc : codeP p pw g [P] = 0
    · exact hc
    · rw [if_neg hc] at h; exact absurd h hc
  have hne : P ≠ [] := fun e => by unfold prC at h; rw [if_pos hc, if_pos e] at h; cases h
  obtain ⟨V, hSF, hall, -, -⟩ := codeP_V hc
  obtain ⟨hl, hp⟩ := hall P (by simp)
  have e : prR p pw g P = rootsTo V.F P V.F.size.toNat := by unfold prR; rw [if_pos ⟨hc, hne⟩, hSF.hV]
  have hlo := V.ok.lo
  have hmem : ∀ z ∈ prR p pw g P, V.F.el z ∧ evI V.F P z = 0 := fun z hz => by
    rw [e] at hz
    obtain ⟨h1, h2, h3⟩ := rootsTo_mem _ z hz
    exact ⟨⟨h1, by omega⟩, h3⟩
  refine ⟨fun k hk => ?_, ?_⟩
  · obtain ⟨h1, h2⟩ := hmem _ (gi_inL hk)
    obtain ⟨c1, c2⟩ := pev_of hSF hp hl h1
    exact ⟨c1, by rw [c2, h2]⟩
  · apply Classical.byContradiction; intro hlt
    have hz : VF.ps V P = 0 := PS.roots_zero ((prR p pw g P).map (VF.of V)) (VF.ps V P) P.length (VF.ps_dlt P)
      (by
        rw [e]
        refine nodup_map ?_ (rootsTo_nodup _)
        intro a ha b hb hab
        rw [← e] at ha hb
        exact VF.of_inj (hmem a ha).1 (hmem b hb).1 hab)
      (fun a ha => by
        obtain ⟨z, hz, rfl⟩ := List.mem_map.1 ha
        obtain ⟨h1, h2⟩ := hmem z hz
        rw [← evI_ofL hp.els h1, h2]; exact VF.of_zero)
      (by rw [List.length_map]; omega)
    have := hp.top (List.length_pos_iff.2 hne)
    rw [hz] at this
    exact this rfl
end Go.Proofs.Ytnhpdenneplapaa
