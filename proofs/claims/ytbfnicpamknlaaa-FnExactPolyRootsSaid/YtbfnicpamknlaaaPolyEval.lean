/-
  The walks of the two PolyEval.
-/
import Derived.Test.YtbfnicpamknlaaaSpecPolys
namespace Go.Proofs.Ytbfnicpamknlaaa
open Go.RowKit
set_option linter.unusedVariables false

/-- The code that PolyEval answers. -/
noncomputable def pevC (p pw g : Int) (zs : List Int) (x : Int) : Int := if codeP p pw g [zs] = 0 then (if hasB (ffOf p pw g) x = true then 0 else 2) else codeP p pw g [zs]
noncomputable def pevR (p pw g : Int) (zs : List Int) (x : Int) : Int := if codeP p pw g [zs] = 0 ∧ hasB (ffOf p pw g) x = true then evI (ffOf p pw g) zs x else 0
abbrev FT : TypeId := 44
theorem box_alloc {w : World} {B : Nat} {p pw g : Int} (h : Box w B p pw g) (o : Obj) : Box (w.alloc o) B p pw g := h.below ((Below.refl _ _).alloc (Nat.le_refl _) o) h.lt
set_option maxHeartbeats 400000 in
theorem specPolyEval_any (p pw g : Int) (x : Int) (w : World) {a : Option Addr} {n cap : Nat} {zs : List Int} (hr : RowAt w a n zs) :
    Calls Try.prog 28 #[fV p pw g, .slice a n cap, .int .i64 x] w fun e w' => e = .returned (.tuple #[.int .i64 (pevR p pw g zs x), .int .i64 (pevC p pw g zs x)]) ∧ Below w.heap.size w w' := by
  have HR := Lib.hid hr
  have hrow := hr.below' (below1 w (.cells #[.int .i64 p, .int .i64 pw, .int .i64 g] FT))
  have hrows := rows_one _ 30 a n cap zs hrow (w.heap.size + 1) (by simp)
  have hbox := box_alloc (box_new w p pw g FT) (.cells #[.slice a n cap] 30)
  have HROWS := Lib.hid hrows
  have HBOX := Lib.hid hbox
  clear hr hrow hrows hbox
  go_enter Try.func28, Try.ntmps28
  go_wp2_with fail
  refine (l03Code_any p pw g _ HROWS.out).mono ?_
  rintro e w1 ⟨rfl, hb1⟩
  have hb : Below w.heap.size w w1 := ((below1 _ _).alloc (by simp) _).trans (hb1.mono (by simp; omega))
  have HB := Lib.hid hb
  have hX := HBOX.out.below hb1 HBOX.out.lt
  have HX := Lib.hid hX
  obtain ⟨hlt, c0, c1, c2⟩ := hX
  clear hb1 hb
  by_cases hc : codeP p pw g [zs] = 0
  · obtain ⟨hv, hz⟩ := codeP_zero hc
    obtain ⟨_, hel, _⟩ := polyB_iff (hz zs (by simp))
    have hce : (codeP p pw g [zs] == 0) = true := by simp [hc]
    have hcn : (codeP p pw g [zs] != 0) = false := by simp [hc]
    have hall : allB (ffOf p pw g) [x] = hasB (ffOf p pw g) x := by unfold allB; simp
    cases hh : hasB (ffOf p pw g) x
    · have hf1 := Lib.hid (show pevR p pw g zs x = 0 by unfold pevR; rw [if_neg (by simp [hh])])
      have hf2 := Lib.hid (show pevC p pw g zs x = 2 by unfold pevC; rw [if_pos hc, if_neg (by simp [hh])])
      rw [hh] at hall
      clear hc hh hz
      go_wp2_with fail
      refine (l02Is_any p pw g (ranged_of hv) _ (row_one w1 x 2 w1.heap.size rfl)).mono ?_
      rintro e w2 ⟨rfl, hb2⟩
      have HB2 := Lib.hid (HB.out.trans (((below1 _ _).trans (hb2.mono (by simp))).mono HB.out.size))
      clear hb2 hv
      go_wp2_with fail
      go_ret2
      exact ⟨by rw [hf1.out, hf2.out]; rfl, HB2.out⟩
    · have hf1 := Lib.hid (show pevR p pw g zs x = evI (ffOf p pw g) zs x by unfold pevR; rw [if_pos ⟨hc, hh⟩])
      have hf2 := Lib.hid (show pevC p pw g zs x = 0 by unfold pevC; rw [if_pos hc, if_pos hh])
      have hx := hasB_iff.1 hh
      have HC := Lib.hid hc
      rw [hh] at hall
      clear hc hh hz
      go_wp2_with fail
      refine (l02Is_any p pw g (ranged_of hv) _ (row_one w1 x 2 w1.heap.size rfl)).mono ?_
      rintro e w2 ⟨rfl, hb2⟩
      have hb2' : Below w1.heap.size w1 w2 := (below1 _ _).trans (hb2.mono (by simp))
      have HB2 := Lib.hid (HB.out.trans (hb2'.mono HB.out.size))
      have HR2 := Lib.hid (HR.out.below' HB2.out)
      obtain ⟨hlt2, d0, d1, d2⟩ := HX.out.below hb2' hlt
      clear hb2 hb2'
      go_wp2_with fail
      refine (l03Eval_any p pw g hv HR2.out hel x hx).mono ?_
      rintro e w3 ⟨rfl, hb3⟩
      have HB3 := Lib.hid (HB2.out.trans (hb3.mono HB2.out.size))
      clear hb3
      go_wp2_with fail
      go_ret2
      exact ⟨by rw [hf1.out, hf2.out]; rfl, HB3.out⟩
  · have hce : (codeP p pw g [zs] == 0) = false := by simp [hc]
    have hcn : (codeP p pw g [zs] != 0) = true := by simp [hc]
    have hf1 := Lib.hid (show pevR p pw g zs x = 0 by unfold pevR; rw [if_neg (by simp [hc])])
    have hf2 := Lib.hid (show pevC p pw g zs x = codeP p pw g [zs] by unfold pevC; rw [if_neg hc])
    clear hc
    go_wp2_with fail
    go_ret2
    exact ⟨by rw [hf1.out, hf2.out]; rfl, HB.out⟩
theorem implPolyEval_any (p pw g : Int) (x : Int) (w : World) {a : Option Addr} {n cap : Nat} {zs : List Int} (hr : RowAt w a n zs) :
    Calls Try.prog 29 #[fV p pw g, .slice a n cap, .int .i64 x] w fun e w' => e = .returned (.tuple #[.int .i64 (pevR p pw g zs x), .int .i64 (pevC p pw g zs x)]) ∧ Below w.heap.size w w' := by
  have HR := Lib.hid hr
  have hrow := hr.below' (below1 w (.cells #[.int .i64 p, .int .i64 pw, .int .i64 g] FT))
  have hrows := rows_one _ 74 a n cap zs hrow (w.heap.size + 1) (by simp)
  have HROWS := Lib.hid hrows
  clear hr hrow hrows
  go_enter Try.func29, Try.ntmps29
  go_wp2_with fail
  refine (polynomials_any p pw g _ HROWS.out).mono ?_
  rintro e w1 ⟨v, rfl, hb1, hcal⟩
  have hb : Below w.heap.size w w1 := ((below1 _ _).alloc (by simp) _).trans (hb1.mono (by simp; omega))
  have HB := Lib.hid hb
  have HCAL := Lib.hid hcal
  clear hb1 hb hcal
  by_cases hc : codeP p pw g [zs] = 0
  · obtain ⟨hv, hz⟩ := codeP_zero hc
    obtain ⟨_, hel, _⟩ := polyB_iff (hz zs (by simp))
    obtain ⟨b, rfl, _, hcl⟩ := HCAL.out hc
    have hcn : (codeP p pw g [zs] != 0) = false := by simp [hc]
    cases hh : hasB (ffOf p pw g) x
    · have hf1 := Lib.hid (show pevR p pw g zs x = 0 by unfold pevR; rw [if_neg (by simp [hh])])
      have hf2 := Lib.hid (show pevC p pw g zs x = 2 by unfold pevC; rw [if_pos hc, if_neg (by simp [hh])])
      clear hc hz
      go_wp2_with fail
      refine (has_any hcl x).mono ?_
      rintro e w2 ⟨rfl, rfl⟩
      go_wp2_with fail
      go_ret2
      exact ⟨by rw [hf1.out, hf2.out]; rfl, HB.out⟩
    · have hf1 := Lib.hid (show pevR p pw g zs x = evI (ffOf p pw g) zs x by unfold pevR; rw [if_pos ⟨hc, hh⟩])
      have hf2 := Lib.hid (show pevC p pw g zs x = 0 by unfold pevC; rw [if_pos hc, if_pos hh])
      have hx := hasB_iff.1 hh
      have HR2 := Lib.hid (HR.out.below' HB.out)
      clear hc hz
      go_wp2_with fail
      refine (has_any hcl x).mono ?_
      rintro e w2 ⟨rfl, rfl⟩
      go_wp2_with fail
      refine (at_any hcl HR2.out hel x hx).mono ?_
      rintro e w3 ⟨rfl, hd⟩
      have HB3 := Lib.hid (HB.out.trans ((show Drew w1 w3 from hd).below _))
      clear hd
      go_wp2_with fail
      go_ret2
      exact ⟨by rw [hf1.out, hf2.out]; rfl, HB3.out⟩
  · have hcn : (codeP p pw g [zs] != 0) = true := by simp [hc]
    have hf1 := Lib.hid (show pevR p pw g zs x = 0 by unfold pevR; rw [if_neg (by simp [hc])])
    have hf2 := Lib.hid (show pevC p pw g zs x = codeP p pw g [zs] by unfold pevC; rw [if_neg hc])
    clear hc
    go_wp2_with fail
    go_ret2
    exact ⟨by rw [hf1.out, hf2.out]; rfl, HB.out⟩
end Go.Proofs.Ytbfnicpamknlaaa
