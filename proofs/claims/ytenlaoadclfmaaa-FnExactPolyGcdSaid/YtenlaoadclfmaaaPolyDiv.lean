/-
  The walks of the two PolyDiv.
-/
import Derived.Test.YtenlaoadclfmaaaOnP
import Derived.Test.YtenlaoadclfmaaaOwn
namespace Go.Proofs.Ytenlaoadclfmaaa
open Go.RowKit
set_option linter.unusedVariables false

noncomputable def divC (p pw g : Int) (x y : List Int) : Int := if codeP p pw g [x, y] = 0 then (if y = [] then 5 else 0) else codeP p pw g [x, y]
noncomputable def divQ (p pw g : Int) (x y : List Int) : List Int := if y = [] then [] else onP p pw g [x, y] fun V => (VF.dqr V x y).1
noncomputable def divR (p pw g : Int) (x y : List Int) : List Int := if y = [] then [] else onP p pw g [x, y] fun V => (VF.dqr V x y).2
theorem divC_bad {p pw g : Int} {x y : List Int} (h : ¬ codeP p pw g [x, y] = 0) : divC p pw g x y = codeP p pw g [x, y] ∧ divQ p pw g x y = [] ∧ divR p pw g x y = [] := by
  refine ⟨by unfold divC; rw [if_neg h], ?_, ?_⟩
  · unfold divQ; split
    · rfl
    · exact onP_no h
  · unfold divR; split
    · rfl
    · exact onP_no h
theorem divC_zero {p pw g : Int} {x y : List Int} (h : codeP p pw g [x, y] = 0) (hl : y = []) : divC p pw g x y = 5 ∧ divQ p pw g x y = [] ∧ divR p pw g x y = [] := by
  unfold divC divQ divR; rw [if_pos h, if_pos hl, if_pos hl, if_pos hl]; exact ⟨rfl, rfl, rfl⟩
theorem divC_ok {p pw g : Int} {x y : List Int} (h : codeP p pw g [x, y] = 0) (hl : y ≠ []) : divC p pw g x y = 0 ∧ (divQ p pw g x y = onP p pw g [x, y] fun V => (VF.dqr V x y).1) ∧ divR p pw g x y = onP p pw g [x, y] fun V => (VF.dqr V x y).2 := by
  unfold divC divQ divR; rw [if_pos h, if_neg hl, if_neg hl, if_neg hl]; exact ⟨rfl, rfl, rfl⟩
theorem dqr_len (V : VF) {x y : List Int} (hy : VF.isP V y) : (VF.dqr V x y).1.length ≤ x.length ∧ (VF.dqr V x y).2.length ≤ y.length := by
  by_cases h : ∃ z : List Int × List Int, VF.DivOf V x y z.1 z.2
  · obtain ⟨⟨q, r⟩, h⟩ := h
    have h : VF.DivOf V x y q r := h
    rw [VF.dqr_of hy h]
    refine ⟨?_, Nat.le_of_lt h.len⟩
    show q.length ≤ x.length
    apply Nat.le_of_not_lt
    intro hlt
    have hl := h.len
    have hq := h.hq.top (by omega)
    have hd := hy.top (by omega)
    obtain ⟨m, hm⟩ : ∃ m, y.length = m + 1 := ⟨y.length - 1, by omega⟩
    obtain ⟨k, hk⟩ : ∃ k, q.length = k + 1 := ⟨q.length - 1, by omega⟩
    rw [hk] at hq
    rw [hm] at hd
    have h1 : (VF.ps V q).dlt (k + 1) := by rw [← hk]; exact VF.ps_dlt q
    have h2 : (VF.ps V y).dlt (m + 1) := by rw [← hm]; exact VF.ps_dlt y
    have ht := PS.mul_top h2 k (VF.ps V q) h1
    have e := congrArg (fun f : PS (El V) => f.c (k + m)) h.eq
    simp only [PS.add_c] at e
    rw [ht, VF.ps_dlt x (k + m) (by omega), VF.ps_dlt r (k + m) (by omega)] at e
    exact mul_ne hq hd (by simp only [Nat.add_sub_cancel]; grind)
  · unfold VF.dqr; rw [dif_neg h]; simp
theorem divQ_len (p pw g : Int) (x y : List Int) : (divQ p pw g x y).length ≤ 1048576 := by
  unfold divQ
  split
  · simp
  by_cases h : codeP p pw g [x, y] = 0
  · rw [onP_yes h]
    obtain ⟨⟨h1, _⟩, h2, h3⟩ := two_mem (codeP_isP h)
    have := (dqr_len _ (x := x) h3).1
    omega
  · rw [onP_no h]; simp
theorem divR_len (p pw g : Int) (x y : List Int) : (divR p pw g x y).length ≤ 1048576 := by
  unfold divR
  split
  · simp
  by_cases h : codeP p pw g [x, y] = 0
  · rw [onP_yes h]
    obtain ⟨⟨h1, _⟩, h2, h3⟩ := two_mem (codeP_isP h)
    have := (dqr_len _ (x := x) h3).2
    omega
  · rw [onP_no h]; simp
set_option maxHeartbeats 1000000 in
theorem specPolyDiv_any (p pw g : Int) (w : World) {a : Option Addr} {n cap : Nat} {zs : List Int} (hr : RowAt w a n zs) (hca : a = none → cap = 0) {a' : Option Addr} {n' cap' : Nat} {zs' : List Int} (hr' : RowAt w a' n' zs') :
    Calls Try.prog 45 #[fV p pw g, .slice a n cap, .slice a' n' cap'] w fun e w' => ∃ v v2, e = .returned (.tuple #[v, v2, .int .i64 (divC p pw g zs zs')]) ∧ Below w.heap.size w w' ∧ ResL w w' v (divQ p pw g zs zs') ∧ ResL w w' v2 (divR p pw g zs zs') := by
  have HR := Lib.hid hr
  have HR' := Lib.hid hr'
  have HCA := Lib.hid hca
  have hrows := rows_two _ 24 a n cap zs (hr.below' (below1 w (.cells #[.int .i64 p, .int .i64 pw, .int .i64 g] FT))) a' n' cap' zs' (hr'.below' (below1 w (.cells #[.int .i64 p, .int .i64 pw, .int .i64 g] FT))) (w.heap.size + 1) (by simp)
  have hbox := box_alloc (box_new w p pw g FT) (.cells #[.slice a n cap, .slice a' n' cap'] 24)
  have HROWS := Lib.hid hrows
  have HBOX := Lib.hid hbox
  clear hr hr' hrows hbox hca
  go_enter Try.func45, Try.ntmps45
  go_wp2_with fail
  refine (l03Code_any p pw g _ HROWS.out).mono ?_
  rintro e w1 ⟨rfl, hb1⟩
  have HB := Lib.hid (((below1 w _).alloc (by simp) _).trans (hb1.mono (by simp; omega)))
  have HX := Lib.hid (HBOX.out.below hb1 HBOX.out.lt)
  clear hb1
  by_cases hc : codeP p pw g [zs, zs'] = 0
  · obtain ⟨V, hSF, hall, hon, _⟩ := codeP_V hc
    obtain ⟨⟨hl, hp⟩, hl', hp'⟩ := two_mem hall
    have hcn : (codeP p pw g [zs, zs'] != 0) = false := by simp [hc]
    have hn := HR.out.len
    have hn' := HR'.out.len
    obtain ⟨_, c0, c1, c2⟩ := HX.out
    by_cases h0 : zs' = []
    · obtain ⟨hf0, hf1, hf2⟩ := divC_zero hc h0
      have hf1 := Lib.hid hf1
      have hf2 := Lib.hid hf2
      have hf0 := Lib.hid hf0
      have h1 : ((n' : Int) == 0) = true := by rw [h0] at hn'; simp at hn'; simp; omega
      clear hc hp hp' hn hn' hon hall h0 hl hl'
      go_wp2_with fail
      go_ret3
      exact ⟨_, _, by rw [hf0.out]; rfl, HB.out, by rw [hf1.out]; exact ResL.none _ _, by rw [hf2.out]; exact ResL.none _ _⟩
    · obtain ⟨hf0, hf1, hf2⟩ := divC_ok hc h0
      have hf1 := Lib.hid (hf1.trans (hon _))
      have hf2 := Lib.hid (hf2.trans (hon _))
      have hf0 := Lib.hid hf0
      have hlp := List.length_pos_iff.2 h0
      have h1 : ((n' : Int) == 0) = false := by simp; omega
      have HD := Lib.hid (hSF.ldiv (cap := cap) (cap' := cap') (HR.out.below' HB.out) HCA.out (by omega) (HR'.out.below' HB.out) (by omega) hp hp' (by omega))
      have HU := Lib.hid (fun q r h => VF.dqr_of (p := zs) (q := q) (r := r) hp' h)
      clear hc hp hp' hn hn' hon hall h0 hl hl' hlp
      go_wp2_with fail
      refine HD.out.mono ?_
      rintro e w2 ⟨v, v2, q, r, rfl, hb2, ho2, ho3, hdv⟩
      have hu := HU.out _ _ hdv
      have HB2 := Lib.hid (HB.out.trans (hb2.mono HB.out.size))
      have HO2 := Lib.hid (show ResL w w2 v (divQ p pw g zs zs') by rw [hf1.out, hu]; exact ho2.res HB.out.size)
      have HO3 := Lib.hid (show ResL w w2 v2 (divR p pw g zs zs') by rw [hf2.out, hu]; exact ho3.res HB.out.size)
      clear hb2 ho2 ho3 hu hdv
      go_wp2_with fail
      go_ret3
      exact ⟨_, _, by rw [hf0.out]; rfl, HB2.out, HO2.out, HO3.out⟩
  · have hcn : (codeP p pw g [zs, zs'] != 0) = true := by simp [hc]
    obtain ⟨hf0, hf1, hf2⟩ := divC_bad hc
    have hf1 := Lib.hid hf1
    have hf2 := Lib.hid hf2
    have hf0 := Lib.hid hf0
    clear hc
    go_wp2_with fail
    go_ret3
    exact ⟨_, _, by rw [hf0.out]; rfl, HB.out, by rw [hf1.out]; exact ResL.none _ _, by rw [hf2.out]; exact ResL.none _ _⟩
/-- Two results that share no memory: the second in blocks ahead of the first's. -/
def Res2 (w w' : World) (v v2 : Value) (zs zs2 : List Int) : Prop := ∃ mid a cap a2 cap2, v = .slice a zs.length cap ∧ v2 = .slice a2 zs2.length cap2 ∧ w.heap.size ≤ mid ∧ mid ≤ w'.heap.size ∧ Own w' mid w'.heap.size a zs.length zs ∧ Own w' w.heap.size mid a2 zs2.length zs2
theorem Res2.none (w w' : World) (h : Below w.heap.size w w') : Res2 w w' (.slice none 0 0) (.slice none 0 0) [] [] :=
  ⟨w.heap.size, _, _, _, _, rfl, rfl, Nat.le_refl _, h.size, ⟨OwnAt.nil _ _ _, fun h => by simp at h⟩, ⟨OwnAt.nil _ _ _, fun h => by simp at h⟩⟩
theorem TwoL.res {w W w' : World} {v v2 : Value} {zs zs2 : List Int} (h : TwoL W w' v v2 zs zs2) (hb : w.heap.size ≤ W.heap.size) : Res2 w w' v v2 zs zs2 := by
  obtain ⟨mid, h1, h2, h3, h4⟩ := h
  obtain ⟨a, c, rfl, _, ho⟩ := h1.shape
  obtain ⟨a2, c2, rfl, _, ho2⟩ := h2.shape
  refine ⟨mid, _, _, _, _, rfl, rfl, by omega, h1.1, Own.of ho, ⟨ho2.mono hb, fun hn x hx => ?_⟩⟩
  subst hx
  exact h4 _ rfl
set_option maxHeartbeats 1000000 in
theorem implPolyDiv_any (p pw g : Int) (w : World) {a : Option Addr} {n cap : Nat} {zs : List Int} (hr : RowAt w a n zs) (hca : a = none → cap = 0) {a' : Option Addr} {n' cap' : Nat} {zs' : List Int} (hr' : RowAt w a' n' zs') :
    Calls Try.prog 46 #[fV p pw g, .slice a n cap, .slice a' n' cap'] w fun e w' => ∃ v v2, e = .returned (.tuple #[v, v2, .int .i64 (divC p pw g zs zs')]) ∧ Below w.heap.size w w' ∧ Res2 w w' v v2 (divQ p pw g zs zs') (divR p pw g zs zs') := by
  have HR := Lib.hid hr
  have HR' := Lib.hid hr'
  have HCA := Lib.hid hca
  have hrows := rows_two _ 67 a n cap zs (hr.below' (below1 w (.cells #[.int .i64 p, .int .i64 pw, .int .i64 g] FT))) a' n' cap' zs' (hr'.below' (below1 w (.cells #[.int .i64 p, .int .i64 pw, .int .i64 g] FT))) (w.heap.size + 1) (by simp)
  have HROWS := Lib.hid hrows
  clear hr hr' hrows hca
  go_enter Try.func46, Try.ntmps46
  go_wp2_with fail
  refine (polynomials_any p pw g _ HROWS.out).mono ?_
  rintro e w1 ⟨v, rfl, hb1, hcal⟩
  have HB := Lib.hid (((below1 w _).alloc (by simp) _).trans (hb1.mono (by simp; omega)))
  have HCAL := Lib.hid hcal
  clear hb1 hcal
  by_cases hc : codeP p pw g [zs, zs'] = 0
  · obtain ⟨V, hSF, hall, hon, hCV⟩ := codeP_V hc
    obtain ⟨⟨hl, hp⟩, hl', hp'⟩ := two_mem hall
    obtain ⟨b, rfl, _, hcl⟩ := HCAL.out hc
    have hcl := hCV _ _ hcl
    have hcn : (codeP p pw g [zs, zs'] != 0) = false := by simp [hc]
    have hn := HR.out.len
    have hn' := HR'.out.len
    by_cases h0 : zs' = []
    · obtain ⟨hf0, hf1, hf2⟩ := divC_zero hc h0
      have hf1 := Lib.hid hf1
      have hf2 := Lib.hid hf2
      have hf0 := Lib.hid hf0
      have h1 : ((n' : Int) == 0) = true := by rw [h0] at hn'; simp at hn'; simp; omega
      clear hc hp hp' hn hn' hon hall h0 hl hl' hcl hCV
      go_wp2_with fail
      go_ret3
      exact ⟨_, _, by rw [hf0.out]; rfl, HB.out, by rw [hf1.out, hf2.out]; exact Res2.none _ _ HB.out⟩
    · obtain ⟨hf0, hf1, hf2⟩ := divC_ok hc h0
      have hf1 := Lib.hid (hf1.trans (hon _))
      have hf2 := Lib.hid (hf2.trans (hon _))
      have hf0 := Lib.hid hf0
      have hlp := List.length_pos_iff.2 h0
      have h1 : ((n' : Int) == 0) = false := by simp; omega
      have HD := Lib.hid (over_any (V := V) (cap := cap) (cap' := cap') hcl (HR.out.below' HB.out) HCA.out (by omega) (HR'.out.below' HB.out) (by omega) hp hp' (by omega))
      have HU := Lib.hid (fun q r h => VF.dqr_of (p := zs) (q := q) (r := r) hp' h)
      clear hc hp hp' hn hn' hon hall h0 hl hl' hlp hcl hCV
      go_wp2_with fail
      refine HD.out.mono ?_
      rintro e w2 ⟨v, v2, q, r, rfl, hb2, ho2, hdv⟩
      have hu := HU.out _ _ hdv
      have HB2 := Lib.hid (HB.out.trans (hb2.mono HB.out.size))
      have HO2 := Lib.hid (show Res2 w w2 v v2 (divQ p pw g zs zs') (divR p pw g zs zs') by rw [hf1.out, hf2.out, hu]; exact ho2.res HB.out.size)
      clear hb2 ho2 hu hdv
      go_wp2_with fail
      go_ret3
      exact ⟨_, _, by rw [hf0.out]; rfl, HB2.out, HO2.out⟩
  · have hcn : (codeP p pw g [zs, zs'] != 0) = true := by simp [hc]
    obtain ⟨hf0, hf1, hf2⟩ := divC_bad hc
    have hf1 := Lib.hid hf1
    have hf2 := Lib.hid hf2
    have hf0 := Lib.hid hf0
    clear hc
    go_wp2_with fail
    go_ret3
    exact ⟨_, _, by rw [hf0.out]; rfl, HB.out, by rw [hf1.out, hf2.out]; exact Res2.none _ _ HB.out⟩
end Go.Proofs.Ytenlaoadclfmaaa
