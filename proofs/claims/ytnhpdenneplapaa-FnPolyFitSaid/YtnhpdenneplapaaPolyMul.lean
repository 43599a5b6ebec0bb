/-
  The walks of the two PolyMul.
-/
import Derived.Test.YtnhpdenneplapaaGens
namespace Go.Proofs.Ytnhpdenneplapaa
open Go.RowKit
set_option linter.unusedVariables false

/-- Whether a product of two lists would be too long. -/
def longB (x y : List Int) : Bool := decide (0 < x.length ∧ 0 < y.length ∧ 513 < x.length + y.length)
noncomputable def mulC (p pw g : Int) (x y : List Int) : Int := if codeP p pw g [x, y] = 0 then (if longB x y = true then 3 else 0) else codeP p pw g [x, y]
noncomputable def mulR (p pw g : Int) (x y : List Int) : List Int := if longB x y = true then [] else onP p pw g [x, y] fun V => VF.lst V (VF.ps V x * VF.ps V y)
theorem mulR_len (p pw g : Int) (x y : List Int) : (mulR p pw g x y).length ≤ 1048576 := by
  unfold mulR
  split
  · simp
  by_cases h : codeP p pw g [x, y] = 0
  · rw [onP_yes h]
    obtain ⟨⟨h1, _⟩, h2, _⟩ := two_mem (codeP_isP h)
    have := VF.lst_mul_len (V := vfOf p pw g (codeP_zero h).1) x y
    omega
  · rw [onP_no h]; simp
theorem mulC_bad {p pw g : Int} {x y : List Int} (h : ¬ codeP p pw g [x, y] = 0) : mulC p pw g x y = codeP p pw g [x, y] ∧ mulR p pw g x y = [] := by
  refine ⟨by unfold mulC; rw [if_neg h], ?_⟩
  unfold mulR
  split
  · rfl
  · exact onP_no h
theorem mulC_long {p pw g : Int} {x y : List Int} (h : codeP p pw g [x, y] = 0) (hl : longB x y = true) : mulC p pw g x y = 3 ∧ mulR p pw g x y = [] := by
  unfold mulC mulR; rw [if_pos h, if_pos hl, if_pos hl]; exact ⟨rfl, rfl⟩
theorem mulC_ok {p pw g : Int} {x y : List Int} (h : codeP p pw g [x, y] = 0) (hl : longB x y = false) : mulC p pw g x y = 0 ∧ mulR p pw g x y = onP p pw g [x, y] fun V => VF.lst V (VF.ps V x * VF.ps V y) := by
  unfold mulC mulR; rw [if_pos h, if_neg (by simp [hl]), if_neg (by simp [hl])]; exact ⟨rfl, rfl⟩
set_option maxHeartbeats 1000000 in
theorem specPolyMul_any (p pw g : Int) (w : World) {a : Option Addr} {n cap : Nat} {zs : List Int} (hr : RowAt w a n zs) {a' : Option Addr} {n' cap' : Nat} {zs' : List Int} (hr' : RowAt w a' n' zs') :
    Calls Try.prog 45 #[fV p pw g, .slice a n cap, .slice a' n' cap'] w fun e w' => ∃ v, e = .returned (.tuple #[v, .int .i64 (mulC p pw g zs zs')]) ∧ Below w.heap.size w w' ∧ ResL w w' v (mulR p pw g zs zs') := by
  have HR := Lib.hid hr
  have HR' := Lib.hid hr'
  have hrows := rows_two _ 26 a n cap zs (hr.below' (below1 w (.cells #[.int .i64 p, .int .i64 pw, .int .i64 g] FT))) a' n' cap' zs' (hr'.below' (below1 w (.cells #[.int .i64 p, .int .i64 pw, .int .i64 g] FT))) (w.heap.size + 1) (by simp)
  have hbox := box_alloc (box_new w p pw g FT) (.cells #[.slice a n cap, .slice a' n' cap'] 26)
  have HROWS := Lib.hid hrows
  have HBOX := Lib.hid hbox
  clear hr hr' hrows hbox
  go_enter Try.func45, Try.ntmps45
  go_wp2_with fail
  refine (l03Code_any p pw g _ HROWS.out).mono ?_
  rintro e w1 ⟨rfl, hb1⟩
  have HB := Lib.hid (((below1 w _).alloc (by simp) _).trans (hb1.mono (by simp; omega)))
  have HX := Lib.hid (HBOX.out.below hb1 HBOX.out.lt)
  clear hb1
  by_cases hc : codeP p pw g [zs, zs'] = 0
  · obtain ⟨V, hSF, hall, hon, _⟩ := codeP_V hc
    obtain ⟨⟨hl, hp⟩, hl', hp'⟩ := two_mem hall
    have hcn : (codeP p pw g [zs, zs'] != 0) = false := by simp [hc]
    have hn := HR.out.len
    have hn' := HR'.out.len
    have HA := Lib.hid (hSF.lmul (cap := cap) (cap' := cap') (HR.out.below' HB.out) (by omega) (HR'.out.below' HB.out) (by omega) hp.els hp'.els)
    obtain ⟨_, c0, c1, c2⟩ := HX.out
    cases hlb : longB zs zs'
    · obtain ⟨hf0, hf⟩ := mulC_ok hc hlb
      have hf := Lib.hid (hf.trans (hon _))
      have hf0 := Lib.hid hf0
      have hh : ¬ (0 < n ∧ 0 < n' ∧ 513 < n + n') := by unfold longB at hlb; simp only [decide_eq_false_iff_not] at hlb; rw [hn, hn'] at hlb; exact hlb
      rw [hn] at hl
      rw [hn'] at hl'
      clear hc hp hp' hn hn' hon hall hlb
      by_cases h1 : 0 < n
      · by_cases h2 : 0 < n'
        · have h3 : ¬ (512 < (n : Int) + n' - 1) := by omega
          clear hh
          go_wp2_with fail
          refine HA.out.mono ?_
          rintro e w2 ⟨v, rfl, hb2, ho2⟩
          have HB2 := Lib.hid (HB.out.trans (hb2.mono HB.out.size))
          have HO2 := Lib.hid (ho2.res HB.out.size)
          clear hb2 ho2
          go_wp2_with fail
          go_ret2
          exact ⟨_, by rw [hf0.out]; rfl, HB2.out, by rw [hf.out]; exact HO2.out⟩
        · clear hh
          go_wp2_with fail
          refine HA.out.mono ?_
          rintro e w2 ⟨v, rfl, hb2, ho2⟩
          have HB2 := Lib.hid (HB.out.trans (hb2.mono HB.out.size))
          have HO2 := Lib.hid (ho2.res HB.out.size)
          clear hb2 ho2
          go_wp2_with fail
          go_ret2
          exact ⟨_, by rw [hf0.out]; rfl, HB2.out, by rw [hf.out]; exact HO2.out⟩
      · clear hh
        go_wp2_with fail
        refine HA.out.mono ?_
        rintro e w2 ⟨v, rfl, hb2, ho2⟩
        have HB2 := Lib.hid (HB.out.trans (hb2.mono HB.out.size))
        have HO2 := Lib.hid (ho2.res HB.out.size)
        clear hb2 ho2
        go_wp2_with fail
        go_ret2
        exact ⟨_, by rw [hf0.out]; rfl, HB2.out, by rw [hf.out]; exact HO2.out⟩
    · obtain ⟨hf0, hf⟩ := mulC_long hc hlb
      have hf := Lib.hid hf
      have hf0 := Lib.hid hf0
      have hh : 0 < n ∧ 0 < n' ∧ 513 < n + n' := by unfold longB at hlb; simp only [decide_eq_true_eq] at hlb; rw [hn, hn'] at hlb; exact hlb
      obtain ⟨h1, h2, h3⟩ := hh
      rw [hn] at hl
      rw [hn'] at hl'
      have h3 : 512 < (n : Int) + n' - 1 := by omega
      clear hc hp hp' hn hn' hon hall hlb
      go_wp2_with fail
      go_ret2
      exact ⟨_, by rw [hf0.out]; rfl, HB.out, by rw [hf.out]; exact ResL.none _ _⟩
  · have hcn : (codeP p pw g [zs, zs'] != 0) = true := by simp [hc]
    obtain ⟨hf0, hf⟩ := mulC_bad hc
    have hf := Lib.hid hf
    have hf0 := Lib.hid hf0
    clear hc
    go_wp2_with fail
    go_ret2
    exact ⟨_, by rw [hf0.out]; rfl, HB.out, by rw [hf.out]; exact ResL.none _ _⟩
set_option maxHeartbeats 1000000 in
theorem implPolyMul_any (p pw g : Int) (w : World) {a : Option Addr} {n cap : Nat} {zs : List Int} (hr : RowAt w a n zs) {a' : Option Addr} {n' cap' : Nat} {zs' : List Int} (hr' : RowAt w a' n' zs') :
    Calls Try.prog 38 #[fV p pw g, .slice a n cap, .slice a' n' cap'] w fun e w' => ∃ v, e = .returned (.tuple #[v, .int .i64 (mulC p pw g zs zs')]) ∧ Below w.heap.size w w' ∧ ResL w w' v (mulR p pw g zs zs') := by
  have HR := Lib.hid hr
  have HR' := Lib.hid hr'
  have hrows := rows_two _ 80 a n cap zs (hr.below' (below1 w (.cells #[.int .i64 p, .int .i64 pw, .int .i64 g] FT))) a' n' cap' zs' (hr'.below' (below1 w (.cells #[.int .i64 p, .int .i64 pw, .int .i64 g] FT))) (w.heap.size + 1) (by simp)
  have HROWS := Lib.hid hrows
  clear hr hr' hrows
  go_enter Try.func38, Try.ntmps38
  go_wp2_with fail
  refine (polynomials_any p pw g _ HROWS.out).mono ?_
  rintro e w1 ⟨v, rfl, hb1, hcal⟩
  have HB := Lib.hid (((below1 w _).alloc (by simp) _).trans (hb1.mono (by simp; omega)))
  have HCAL := Lib.hid hcal
  clear hb1 hcal
  by_cases hc : codeP p pw g [zs, zs'] = 0
  · obtain ⟨V, hSF, hall, hon, hCV⟩ := codeP_V hc
    obtain ⟨⟨hl, hp⟩, hl', hp'⟩ := two_mem hall
    obtain ⟨b, rfl, _, hcl⟩ := HCAL.out hc
    have hcl := hCV _ _ hcl
    have hcn : (codeP p pw g [zs, zs'] != 0) = false := by simp [hc]
    have hn := HR.out.len
    have hn' := HR'.out.len
    have HA := Lib.hid (times_any (V := V) (cap := cap) (cap' := cap') hcl (HR.out.below' HB.out) (by omega) (HR'.out.below' HB.out) (by omega) hp.els hp'.els)
    cases hlb : longB zs zs'
    · obtain ⟨hf0, hf⟩ := mulC_ok hc hlb
      have hf := Lib.hid (hf.trans (hon _))
      have hf0 := Lib.hid hf0
      have hh : ¬ (0 < n ∧ 0 < n' ∧ 513 < n + n') := by unfold longB at hlb; simp only [decide_eq_false_iff_not] at hlb; rw [hn, hn'] at hlb; exact hlb
      rw [hn] at hl
      rw [hn'] at hl'
      clear hc hp hp' hn hn' hon hall hlb hCV hcl
      by_cases h1 : 0 < n
      · by_cases h2 : 0 < n'
        · have h3 : ¬ (512 < (n : Int) + n' - 1) := by omega
          clear hh
          go_wp2_with fail
          refine HA.out.mono ?_
          rintro e w2 ⟨v, rfl, hb2, ho2⟩
          have HB2 := Lib.hid (HB.out.trans (hb2.mono HB.out.size))
          have HO2 := Lib.hid (ho2.res HB.out.size)
          clear hb2 ho2
          go_wp2_with fail
          go_ret2
          exact ⟨_, by rw [hf0.out]; rfl, HB2.out, by rw [hf.out]; exact HO2.out⟩
        · clear hh
          go_wp2_with fail
          refine HA.out.mono ?_
          rintro e w2 ⟨v, rfl, hb2, ho2⟩
          have HB2 := Lib.hid (HB.out.trans (hb2.mono HB.out.size))
          have HO2 := Lib.hid (ho2.res HB.out.size)
          clear hb2 ho2
          go_wp2_with fail
          go_ret2
          exact ⟨_, by rw [hf0.out]; rfl, HB2.out, by rw [hf.out]; exact HO2.out⟩
      · clear hh
        go_wp2_with fail
        refine HA.out.mono ?_
        rintro e w2 ⟨v, rfl, hb2, ho2⟩
        have HB2 := Lib.hid (HB.out.trans (hb2.mono HB.out.size))
        have HO2 := Lib.hid (ho2.res HB.out.size)
        clear hb2 ho2
        go_wp2_with fail
        go_ret2
        exact ⟨_, by rw [hf0.out]; rfl, HB2.out, by rw [hf.out]; exact HO2.out⟩
    · obtain ⟨hf0, hf⟩ := mulC_long hc hlb
      have hf := Lib.hid hf
      have hf0 := Lib.hid hf0
      have hh : 0 < n ∧ 0 < n' ∧ 513 < n + n' := by unfold longB at hlb; simp only [decide_eq_true_eq] at hlb; rw [hn, hn'] at hlb; exact hlb
      obtain ⟨h1, h2, h3⟩ := hh
      rw [hn] at hl
      rw [hn'] at hl'
      have h3 : 512 < (n : Int) + n' - 1 := by omega
      clear hc hp hp' hn hn' hon hall hlb hCV hcl
      go_wp2_with fail
      go_ret2
      exact ⟨_, by rw [hf0.out]; rfl, HB.out, by rw [hf.out]; exact ResL.none _ _⟩
  · have hcn : (codeP p pw g [zs, zs'] != 0) = true := by simp [hc]
    obtain ⟨hf0, hf⟩ := mulC_bad hc
    have hf := Lib.hid hf
    have hf0 := Lib.hid hf0
    clear hc
    go_wp2_with fail
    go_ret2
    exact ⟨_, by rw [hf0.out]; rfl, HB.out, by rw [hf.out]; exact ResL.none _ _⟩
end Go.Proofs.Ytnhpdenneplapaa
