/-
  What the functions on polynomials answer.
-/
import Derived.Test.YtenlaoadclfmaaaPolyEval
import Derived.Test.YtenlaoadclfmaaaPlus
import Derived.Test.YtenlaoadclfmaaaOver
import Derived.Test.YtenlaoadclfmaaaSpecDiv
namespace Go.Proofs.Ytenlaoadclfmaaa
open Go.RowKit
set_option linter.unusedVariables false

/-- The field of three valid numbers. -/
def vfOf (p pw g : Int) (h : validB p pw g = true) : VF := ⟨ffOf p pw g, ffOf_ok h⟩
open Classical in
noncomputable def onP (p pw g : Int) (L : List (List Int)) (f : VF → List Int) : List Int := if h : codeP p pw g L = 0 then f (vfOf p pw g (codeP_zero h).1) else []
theorem onP_yes {p pw g : Int} {L : List (List Int)} {f : VF → List Int} (h : codeP p pw g L = 0) : onP p pw g L f = f (vfOf p pw g (codeP_zero h).1) := by unfold onP; rw [dif_pos h]
theorem onP_no {p pw g : Int} {L : List (List Int)} {f : VF → List Int} (h : ¬ codeP p pw g L = 0) : onP p pw g L f = [] := by unfold onP; rw [dif_neg h]
theorem codeP_isP {p pw g : Int} {L : List (List Int)} (h : codeP p pw g L = 0) : ∀ zs ∈ L, zs.length ≤ 512 ∧ VF.isP (vfOf p pw g (codeP_zero h).1) zs := fun zs hz => by
  obtain ⟨h1, h2, h3⟩ := polyB_iff ((codeP_zero h).2 zs hz)
  exact ⟨h1, h2, h3⟩
theorem SF.vf {p pw g : Int} (h : validB p pw g = true) : SF (vfOf p pw g h) p pw g := ⟨h, rfl⟩
theorem codeP_V {p pw g : Int} {L : List (List Int)} (h : codeP p pw g L = 0) : ∃ V : VF, SF V p pw g ∧ (∀ zs ∈ L, zs.length ≤ 512 ∧ VF.isP V zs) ∧ (∀ f, onP p pw g L f = f V) ∧ ∀ w b, Cal w b (ffOf p pw g) → Cal w b V.F :=
  ⟨_, SF.vf (codeP_zero h).1, codeP_isP h, fun _ => onP_yes h, fun _ _ h => h⟩
theorem two_mem {a b : List Int} {P : List Int → Prop} (h : ∀ z ∈ [a, b], P z) : P a ∧ P b := ⟨h a (by simp), h b (by simp)⟩
noncomputable def addR (p pw g : Int) (x y : List Int) : List Int := onP p pw g [x, y] fun V => VF.lst V (VF.ps V x + VF.ps V y)
theorem addR_len (p pw g : Int) (x y : List Int) : (addR p pw g x y).length ≤ 1048576 := by
  unfold addR
  by_cases h : codeP p pw g [x, y] = 0
  · rw [onP_yes h]
    obtain ⟨⟨h1, _⟩, h2, _⟩ := two_mem (codeP_isP h)
    have := VF.lst_len (V := vfOf p pw g (codeP_zero h).1) (PS.dlt_add ((VF.ps_dlt x).mono (Nat.le_max_left x.length y.length)) ((VF.ps_dlt y).mono (Nat.le_max_right x.length y.length)))
    omega
  · rw [onP_no h]; simp
set_option maxHeartbeats 1000000 in
theorem specPolyAdd_any (p pw g : Int) (w : World) {a : Option Addr} {n cap : Nat} {zs : List Int} (hr : RowAt w a n zs) {a' : Option Addr} {n' cap' : Nat} {zs' : List Int} (hr' : RowAt w a' n' zs') :
    Calls Try.prog 15 #[fV p pw g, .slice a n cap, .slice a' n' cap'] w fun e w' => ∃ v, e = .returned (.tuple #[v, .int .i64 (codeP p pw g [zs, zs'])]) ∧ Below w.heap.size w w' ∧ ResL w w' v (addR p pw g zs zs') := by
  have HR := Lib.hid hr
  have HR' := Lib.hid hr'
  have hrows := rows_two _ 24 a n cap zs (hr.below' (below1 w (.cells #[.int .i64 p, .int .i64 pw, .int .i64 g] FT))) a' n' cap' zs' (hr'.below' (below1 w (.cells #[.int .i64 p, .int .i64 pw, .int .i64 g] FT))) (w.heap.size + 1) (by simp)
  have hbox := box_alloc (box_new w p pw g FT) (.cells #[.slice a n cap, .slice a' n' cap'] 24)
  have HROWS := Lib.hid hrows
  have HBOX := Lib.hid hbox
  clear hr hr' hrows hbox
  go_enter Try.func15, Try.ntmps15
  go_wp2_with fail
  refine (l03Code_any p pw g _ HROWS.out).mono ?_
  rintro e w1 ⟨rfl, hb1⟩
  have HB := Lib.hid (((below1 w _).alloc (by simp) _).trans (hb1.mono (by simp; omega)))
  have HX := Lib.hid (HBOX.out.below hb1 HBOX.out.lt)
  clear hb1
  by_cases hc : codeP p pw g [zs, zs'] = 0
  · obtain ⟨V, hSF, hall, hon, _⟩ := codeP_V hc
    obtain ⟨⟨hl, hp⟩, hl', hp'⟩ := two_mem hall
    have hcn : (codeP p pw g [zs, zs'] != 0) = false := by simp [hc]
    have hf := Lib.hid (show addR p pw g zs zs' = _ from hon _)
    have hf0 := Lib.hid hc
    have hn := HR.out.len
    have hn' := HR'.out.len
    have HA := Lib.hid (hSF.ladd (cap := cap) (cap' := cap') (HR.out.below' HB.out) (by omega) (HR'.out.below' HB.out) (by omega) hp.els hp'.els)
    obtain ⟨_, c0, c1, c2⟩ := HX.out
    clear hc hl hp hl' hp' hn hn' hon hall
    go_wp2_with fail
    refine HA.out.mono ?_
    rintro e w2 ⟨v, rfl, hb2, ho2⟩
    have HB2 := Lib.hid (HB.out.trans (hb2.mono HB.out.size))
    have HO2 := Lib.hid (ho2.res HB.out.size)
    clear hb2 ho2
    go_wp2_with fail
    go_ret2
    exact ⟨_, by rw [hf0.out]; rfl, HB2.out, by rw [hf.out]; exact HO2.out⟩
  · have hcn : (codeP p pw g [zs, zs'] != 0) = true := by simp [hc]
    have hf := Lib.hid (show addR p pw g zs zs' = [] from onP_no hc)
    clear hc
    go_wp2_with fail
    go_ret2
    exact ⟨_, rfl, HB.out, by rw [hf.out]; exact ResL.none _ _⟩
set_option maxHeartbeats 1000000 in
theorem implPolyAdd_any (p pw g : Int) (w : World) {a : Option Addr} {n cap : Nat} {zs : List Int} (hr : RowAt w a n zs) (hca : a = none → cap = 0) {a' : Option Addr} {n' cap' : Nat} {zs' : List Int} (hr' : RowAt w a' n' zs') :
    Calls Try.prog 18 #[fV p pw g, .slice a n cap, .slice a' n' cap'] w fun e w' => ∃ v, e = .returned (.tuple #[v, .int .i64 (codeP p pw g [zs, zs'])]) ∧ Below w.heap.size w w' ∧ ResL w w' v (addR p pw g zs zs') := by
  have HR := Lib.hid hr
  have HR' := Lib.hid hr'
  have HCA := Lib.hid hca
  have hrows := rows_two _ 67 a n cap zs (hr.below' (below1 w (.cells #[.int .i64 p, .int .i64 pw, .int .i64 g] FT))) a' n' cap' zs' (hr'.below' (below1 w (.cells #[.int .i64 p, .int .i64 pw, .int .i64 g] FT))) (w.heap.size + 1) (by simp)
  have HROWS := Lib.hid hrows
  clear hr hr' hrows hca
  go_enter Try.func18, Try.ntmps18
  go_wp2_with fail
  refine (polynomials_any p pw g _ HROWS.out).mono ?_
  rintro e w1 ⟨v, rfl, hb1, hcal⟩
  have HB := Lib.hid (((below1 w _).alloc (by simp) _).trans (hb1.mono (by simp; omega)))
  have HCAL := Lib.hid hcal
  clear hb1 hcal
  by_cases hc : codeP p pw g [zs, zs'] = 0
  · obtain ⟨V, hSF, hall, hon, hCV⟩ := codeP_V hc
    obtain ⟨⟨hl, hp⟩, hl', hp'⟩ := two_mem hall
    obtain ⟨b, rfl, _, hcl⟩ := HCAL.out hc
    have hcl := hCV _ _ hcl
    have hcn : (codeP p pw g [zs, zs'] != 0) = false := by simp [hc]
    have hf := Lib.hid (show addR p pw g zs zs' = _ from hon _)
    have hf0 := Lib.hid hc
    have hn := HR.out.len
    have hn' := HR'.out.len
    have HROW1 := Lib.hid (rows_one w1 67 a' n' cap' zs' (HR'.out.below' HB.out) w1.heap.size rfl)
    have HA := Lib.hid (plus_any (V := V) (cap := cap) (capA := 1) (hcl.below (below1 _ _)) ((HR.out.below' HB.out).below' (below1 _ _)) HCA.out (by omega) HROW1.out (by omega) hp.els hp'.els)
    clear hc hl hp hl' hp' hn hn' hcl hon hCV hall
    go_wp2_with fail
    refine HA.out.mono ?_
    rintro e w2 ⟨v, rfl, hb2, ho2⟩
    have hb2 := (below1 _ _).trans (hb2.mono (by simp))
    have HB2 := Lib.hid (HB.out.trans (hb2.mono HB.out.size))
    have HO2 := Lib.hid (ho2.res (w := w) (by have := HB.out.size; simp; omega))
    clear hb2 ho2
    go_wp2_with fail
    go_ret2
    exact ⟨_, by rw [hf0.out]; rfl, HB2.out, by rw [hf.out]; exact HO2.out⟩
  · have hcn : (codeP p pw g [zs, zs'] != 0) = true := by simp [hc]
    have hf := Lib.hid (show addR p pw g zs zs' = [] from onP_no hc)
    clear hc
    go_wp2_with fail
    go_ret2
    exact ⟨_, rfl, HB.out, by rw [hf.out]; exact ResL.none _ _⟩
end Go.Proofs.Ytenlaoadclfmaaa
