/-
  The walks of the two IndicesOf.
-/
import Derived.Test.YtnhpdenneplapaaFind
namespace Go.Proofs.Ytnhpdenneplapaa
open Go.RowKit
set_option linter.unusedVariables false

open Classical in
/-- Whether a polynomial is the locator polynomial of its roots. -/
noncomputable def idxB (p pw g l c : Int) (zs : List Int) : Bool := decide (onC p pw g l c (fun V => if rootB V l zs = true then [1] else []) = [1])
noncomputable def idxC (p pw g l c : Int) (zs : List Int) : Int := if validC p pw g l c = true then (if polyB (ffOf p pw g) zs = true then (if idxB p pw g l c zs = true then 0 else 4) else 2) else 1
noncomputable def idxR (p pw g l c : Int) (zs : List Int) : List Int := if idxC p pw g l c zs = 0 then onC p pw g l c (fun V => rootL V l zs) else []
theorem idxR_no {p pw g l c : Int} {zs : List Int} (h : ¬ idxC p pw g l c zs = 0) : idxR p pw g l c zs = [] := by unfold idxR; rw [if_neg h]
theorem idx_bad {p pw g l c : Int} {zs : List Int} (h : validC p pw g l c = false) : idxC p pw g l c zs = 1 ∧ idxR p pw g l c zs = [] := by
  have : idxC p pw g l c zs = 1 := by unfold idxC; rw [if_neg (by simp [h])]
  exact ⟨this, idxR_no (by omega)⟩
theorem idx_range {p pw g l c : Int} {zs : List Int} (h : validC p pw g l c = true) (h2 : polyB (ffOf p pw g) zs = false) : idxC p pw g l c zs = 2 ∧ idxR p pw g l c zs = [] := by
  have : idxC p pw g l c zs = 2 := by unfold idxC; rw [if_pos h, if_neg (by simp [h2])]
  exact ⟨this, idxR_no (by omega)⟩
/-- What is known of a valid code and a polynomial. -/
theorem idx_V {p pw g l c : Int} {zs : List Int} (h : validC p pw g l c = true) (h2 : polyB (ffOf p pw g) zs = true) : ∃ V : VF, SC V p pw g l c ∧ VF.isP V zs ∧ zs.length ≤ 512 ∧
    (rootB V l zs = true → idxC p pw g l c zs = 0 ∧ idxR p pw g l c zs = rootL V l zs) ∧ (rootB V l zs = false → idxC p pw g l c zs = 4 ∧ idxR p pw g l c zs = []) := by
  obtain ⟨V, hs, hon⟩ := validC_V h
  obtain ⟨h3, h4, h5⟩ := polyB_iff h2
  have hb : idxB p pw g l c zs = rootB V l zs := by
    unfold idxB; rw [hon]
    cases rootB V l zs <;> simp
  refine ⟨V, hs, ⟨fun z hz => by rw [hs.sf.hV]; exact h4 z hz, h5⟩, h3, fun hr => ?_, fun hr => ?_⟩
  · have h0 : idxC p pw g l c zs = 0 := by unfold idxC; rw [if_pos h, if_pos h2, if_pos (hb.trans hr)]
    exact ⟨h0, by unfold idxR; rw [if_pos h0, hon]⟩
  · have h0 : idxC p pw g l c zs = 4 := by unfold idxC; rw [if_pos h, if_pos h2, if_neg (by rw [hb, hr]; simp)]
    exact ⟨h0, idxR_no (by omega)⟩
theorem idxR_len (p pw g l c : Int) (zs : List Int) : (idxR p pw g l c zs).length ≤ 1048576 := by
  unfold idxR
  split
  · cases h : validC p pw g l c
    · rw [onC_no h]; simp
    · obtain ⟨V, _, hf⟩ := validC_V h
      rw [hf]
      obtain ⟨_, _, _, _, hl, _⟩ := validC_iff h
      unfold rootL
      split
      · have := rootTo_length V.F l zs l.toNat; omega
      · simp
  · simp
theorem implIndicesOf_any (p pw g l c : Int) (w : World) {a : Option Addr} {n cap : Nat} {zs : List Int} (hr : RowAt w a n zs) :
    Calls Try.prog 24 #[cV p pw g l c, .slice a n cap] w fun e w' => ∃ v, e = .returned (.tuple #[v, .int .i64 (idxC p pw g l c zs)]) ∧ Below w.heap.size w w' ∧ ResL w w' v (idxR p pw g l c zs) := by
  have HR := Lib.hid hr
  clear hr
  have ec := Lib.hid (codeC_nil p pw g l c)
  go_enter Try.func24, Try.ntmps24
  go_wp2_with fail
  refine (words_any p pw g l c _ (rows_none _ none)).mono ?_
  rintro e w1 ⟨v, rfl, hb1, hcod⟩
  rw [ec.out] at hcod ⊢
  have HB := Lib.hid ((below1 w _).trans (hb1.mono (by simp)))
  have HCOD := Lib.hid hcod
  clear hb1 hcod
  cases h : validC p pw g l c
  · have e1 : validI p pw g l c = 1 := by unfold validI; rw [h]; rfl
    have hcn : (validI p pw g l c != 0) = true := by rw [e1]; rfl
    obtain ⟨f0, f1⟩ := idx_bad (zs := zs) h
    have hf0 := Lib.hid (show idxC p pw g l c zs = validI p pw g l c by rw [f0, e1])
    have hf1 := Lib.hid f1
    clear f0 f1 e1
    go_wp2_with fail
    go_ret2
    exact ⟨_, by rw [hf0.out]; rfl, HB.out, by rw [hf1.out]; exact ResL.none _ _⟩
  have e1 : validI p pw g l c = 0 := by unfold validI; rw [h]; rfl
  have hcn : (validI p pw g l c != 0) = false := by rw [e1]; rfl
  obtain ⟨b, rfl, _, hcod⟩ := HCOD.out e1
  have HCD := Lib.hid hcod
  obtain ⟨_, _, _, hcl, hl1, _⟩ := validC_iff h
  have hc1 := (validC_iff h).2.1
  obtain ⟨bc, hc0, hcal⟩ := hcod.cal
  have HI := Lib.hid (isOver_any hcal (cap := cap) (HR.out.below' HB.out))
  clear e1 hcod hcal
  cases hpo : polyB (ffOf p pw g) zs
  · obtain ⟨f0, f1⟩ := idx_range (zs := zs) h hpo
    have hf0 := Lib.hid f0
    have hf1 := Lib.hid f1
    rw [hpo] at HI
    clear f0 f1
    go_wp2_with fail
    refine HI.out.mono ?_
    rintro e w2 ⟨rfl, rfl⟩
    go_wp2_with fail
    go_ret2
    exact ⟨_, by rw [hf0.out]; rfl, HB.out, by rw [hf1.out]; exact ResL.none _ _⟩
  rw [hpo] at HI
  obtain ⟨V, hs, hz, hlz, hyes, hno⟩ := idx_V h hpo
  rw [HR.out.len] at hlz
  have HYES := Lib.hid hyes
  have HNO := Lib.hid hno
  have HRT := Lib.hid (rootIndices_any hs.sf HCD.out (by omega) hl1 (cap := cap) (HR.out.below' HB.out) (by omega) hz.els)
  clear hyes hno hz hpo
  go_wp2_with fail
  refine HI.out.mono ?_
  rintro e w2 ⟨rfl, rfl⟩
  go_wp2_with fail
  refine HRT.out.mono ?_
  rintro e w3 ⟨v3, rfl, hb3, ho3⟩
  have HB3 := Lib.hid (HB.out.trans (hb3.mono HB.out.size))
  have HO3 := Lib.hid (ho3.res (w := w) HB.out.size)
  clear hb3 ho3 HRT
  cases hrb : rootB V l zs
  · have f := HNO.out hrb
    have hf0 := Lib.hid f.1
    have hf1 := Lib.hid f.2
    clear f
    go_wp2_with fail
    go_ret2
    exact ⟨_, by rw [hf0.out]; rfl, HB3.out, by rw [hf1.out]; exact ResL.none _ _⟩
  · have f := HYES.out hrb
    have hf0 := Lib.hid f.1
    have hf1 := Lib.hid f.2
    clear f
    go_wp2_with fail
    go_ret2
    exact ⟨_, by rw [hf0.out]; rfl, HB3.out, by rw [hf1.out]; exact HO3.out⟩
theorem specIndicesOf_any (p pw g l c : Int) (w : World) {a : Option Addr} {n cap : Nat} {zs : List Int} (hr : RowAt w a n zs) :
    Calls Try.prog 21 #[cV p pw g l c, .slice a n cap] w fun e w' => ∃ v, e = .returned (.tuple #[v, .int .i64 (idxC p pw g l c zs)]) ∧ Below w.heap.size w w' ∧ ResL w w' v (idxR p pw g l c zs) := by
  have HR := Lib.hid hr
  clear hr
  go_enter Try.func21, Try.ntmps21
  go_wp2_with fail
  refine (isCode_any p pw g l c _).mono ?_
  rintro e w1 ⟨rfl, hb1⟩
  have HB := Lib.hid ((below1 w _).trans (hb1.mono (by simp)))
  have HX := Lib.hid ((boxC_new w p pw g l c CT).below hb1 (by simp))
  clear hb1
  cases h : validC p pw g l c
  · obtain ⟨f0, f1⟩ := idx_bad (zs := zs) h
    have hf0 := Lib.hid f0
    have hf1 := Lib.hid f1
    clear f0 f1
    go_wp2_with fail
    go_ret2
    exact ⟨_, by rw [hf0.out]; rfl, HB.out, by rw [hf1.out]; exact ResL.none _ _⟩
  obtain ⟨hv, hc1, _, hcl, hl1, hlt⟩ := validC_iff h
  obtain ⟨_, c0, c1, c2, c3, c4⟩ := HX.out
  have HI := Lib.hid (l03Is_any p pw g hv w1 (cap := cap) (HR.out.below' HB.out))
  clear hv
  go_wp2_with fail
  refine HI.out.mono ?_
  rintro e w2 ⟨rfl, hb2⟩
  have HB2 := Lib.hid (HB.out.trans (hb2.mono HB.out.size))
  have HX2 := Lib.hid (HX.out.below hb2 HX.out.lt)
  clear hb2 c0 c1 c2 c3 c4
  cases hpo : polyB (ffOf p pw g) zs
  · obtain ⟨f0, f1⟩ := idx_range (zs := zs) h hpo
    have hf0 := Lib.hid f0
    have hf1 := Lib.hid f1
    clear f0 f1
    go_wp2_with fail
    go_ret2
    exact ⟨_, by rw [hf0.out]; rfl, HB2.out, by rw [hf1.out]; exact ResL.none _ _⟩
  obtain ⟨V, hs, hz, hlz, hyes, hno⟩ := idx_V h hpo
  have hl := HR.out.len
  rw [hl] at hlz
  by_cases h0 : n = 0
  · have f := hno (root_no (fun x => x.1 (List.eq_nil_of_length_eq_zero (by omega)))).1
    have hf0 := Lib.hid f.1
    have hf1 := Lib.hid f.2
    subst h0
    clear f hyes hno hz hl
    go_wp2_with fail
    go_ret2
    exact ⟨_, by rw [hf0.out]; rfl, HB2.out, by rw [hf1.out]; exact ResL.none _ _⟩
  have hn0 : ((n : Int) == 0) = false := by simp; omega
  have hne : zs ≠ [] := fun e => h0 (by rw [← hl, e]; rfl)
  have HYES := Lib.hid hyes
  have HNO := Lib.hid hno
  have hlV : l < V.F.size := by rw [hs.sf.hV]; exact hlt
  have hris := rootTo_ris V.F l zs (l - 1) l.toNat (by omega)
  have HRL := Lib.hid (roots_loc (V := V) (l := l) (L := l.toNat) (by omega) hlV hz hne)
  have HRY := Lib.hid (fun h => root_yes (V := V) (l := l) (zs := zs) ⟨hne, h⟩)
  have HRN := Lib.hid (fun (h : ¬ gi zs 0 = 1) => root_no (V := V) (l := l) (zs := zs) (fun x => h x.2))
  have hrl := rootTo_length V.F l zs l.toNat
  have HF := Lib.hid (l05Find_any (c := c) hs.sf (by omega) hl1 (cap := cap) (HR.out.below' HB2.out) hz.els)
  have HP := Lib.hid (fun W (a4 : Option Addr) (c4 : Nat) (h4 : RowAt W a4 (rootTo V.F l zs l.toNat).length (rootTo V.F l zs l.toNat)) => l05Polynomial_any (c := c) hs.sf hl1 (cap := c4) h4 (by omega) hris)
  obtain ⟨_, c0, c1, c2, c3, c4⟩ := HX2.out
  clear hyes hno hz hl hris hlV hpo
  generalize rootTo V.F l zs l.toNat = rs at *
  go_wp2_with fail
  refine HF.out.mono ?_
  rintro e w3 ⟨v3, rfl, hb3, ho3⟩
  have HB3 := Lib.hid (HB2.out.trans (hb3.mono HB2.out.size))
  have HX3 := Lib.hid (HX2.out.below hb3 HX2.out.lt)
  have HO3 := Lib.hid ho3
  obtain ⟨a3, c3', rfl, hc3', h3⟩ := ho3.shape
  have HR3 := Lib.hid h3.row
  have HP3 := Lib.hid (HP.out w3 a3 c3' h3.row)
  have HN3 := Lib.hid hc3'
  clear hb3 ho3 h3 c0 c1 c2 c3 c4 hc3' HF
  obtain ⟨_, c0, c1, c2, c3, c4⟩ := HX3.out
  go_wp2_with fail
  refine HP3.out.mono ?_
  rintro e w4 ⟨v4, rfl, hb4, ho4⟩
  have HB4 := Lib.hid (HB3.out.trans (hb4.mono HB3.out.size))
  have HO4 := Lib.hid (HO3.out.below hb4)
  obtain ⟨a4, c4', rfl, -, h4⟩ := ho4.shape
  have HS := Lib.hid (l05Same_any w4 (cap := c4') (cap' := cap) h4.row (HR.out.below' HB4.out))
  clear hb4 ho4 h4 c0 c1 c2 c3 c4 HP3
  go_wp2_with fail
  refine HS.out.mono ?_
  rintro e w5 ⟨rfl, hd5⟩
  have HB5 := Lib.hid (HB4.out.trans ((hd5.below w4.heap.size).mono HB4.out.size))
  have HO5 := Lib.hid (HO4.out.below (hd5.below w4.heap.size))
  clear hd5 HS
  by_cases hsame : VF.lst V (locP V l rs) = zs
  · have hd : decide (VF.lst V (locP V l rs) = zs) = true := by simp [hsame]
    have h7 := HRL.out.2 hsame
    have h8 := HRY.out h7.1
    have h9 : rootB V l zs = true := by rw [h8.1]; simp [h7.2]
    have f := HYES.out h9
    have hf0 := Lib.hid f.1
    have hf1 := Lib.hid (f.2.trans h8.2)
    rw [hd]
    clear f h7 h8 h9 hsame hd
    go_wp2_with fail
    go_ret2
    exact ⟨_, by rw [hf0.out]; rfl, HB5.out, by rw [hf1.out]; exact HO5.out.res HB2.out.size⟩
  · have hd : decide (VF.lst V (locP V l rs) = zs) = false := by simp [hsame]
    have h9 : rootB V l zs = false := by
      by_cases h1 : gi zs 0 = 1
      · have h8 := HRY.out h1
        rw [h8.1, decide_eq_false]
        exact fun e => hsame (HRL.out.1 ⟨h1, e⟩)
      · exact (HRN.out h1).1
    have f := HNO.out h9
    have hf0 := Lib.hid f.1
    have hf1 := Lib.hid f.2
    rw [hd]
    clear f h9 hsame hd
    go_wp2_with fail
    go_ret2
    exact ⟨_, by rw [hf0.out]; rfl, HB5.out, by rw [hf1.out]; exact ResL.none _ _⟩
end Go.Proofs.Ytnhpdenneplapaa
