/-
  The walks of the two PolyRoots.
-/
import Derived.Test.YtnhpdenneplapaaCodes
import Derived.Test.YtnhpdenneplapaaOwns
namespace Go.Proofs.Ytnhpdenneplapaa
open Go.RowKit
set_option linter.unusedVariables false

/-- The roots below k. -/
def rootsTo (F : FF) (zs : List Int) : Nat → List Int
  | 0 => []
  | k + 1 => if evI F zs k = 0 then rootsTo F zs k ++ [(k : Int)] else rootsTo F zs k
theorem rootsTo_len (F : FF) (zs : List Int) (k : Nat) : (rootsTo F zs k).length ≤ k := by
  induction k with
  | zero => exact Nat.le_refl _
  | succ k ih =>
    unfold rootsTo
    split
    · rw [List.length_append]; simp only [List.length_singleton]; omega
    · omega
/-- The code that PolyRoots answers. -/
noncomputable def prC (p pw g : Int) (zs : List Int) : Int := if codeP p pw g [zs] = 0 then (if zs = [] then 5 else 0) else codeP p pw g [zs]
noncomputable def prR (p pw g : Int) (zs : List Int) : List Int := if codeP p pw g [zs] = 0 ∧ zs ≠ [] then rootsTo (ffOf p pw g) zs (ffOf p pw g).size.toNat else []
theorem prR_len (p pw g : Int) (zs : List Int) : (prR p pw g zs).length ≤ 1048576 := by
  unfold prR
  split
  · rename_i h
    have hok := ffOf_ok (codeP_zero h.1).1
    have h1 := rootsTo_len (ffOf p pw g) zs (ffOf p pw g).size.toNat
    have h2 := hok.hi
    omega
  · simp
set_option maxHeartbeats 1000000 in
theorem implPolyRoots_any (p pw g : Int) (w : World) {a : Option Addr} {n cap : Nat} {zs : List Int} (hr : RowAt w a n zs) :
    Calls Try.prog 17 #[fV p pw g, .slice a n cap] w fun e w' => ∃ v, e = .returned (.tuple #[v, .int .i64 (prC p pw g zs)]) ∧ Below w.heap.size w w' ∧ ResL w w' v (prR p pw g zs) := by
  have HR := Lib.hid hr
  have hlen := hr.len
  have hrow := hr.below' (below1 w (.cells #[.int .i64 p, .int .i64 pw, .int .i64 g] FT))
  have hrows := rows_one _ 80 a n cap zs hrow (w.heap.size + 1) (by simp)
  have HROWS := Lib.hid hrows
  have HLEN := Lib.hid hlen
  clear hr hrow hrows hlen
  go_enter Try.func17, Try.ntmps17
  go_wp2_with fail
  refine (polynomials_any p pw g _ HROWS.out).mono ?_
  rintro e w1 ⟨v, rfl, hb1, hcal⟩
  have hb : Below w.heap.size w w1 := ((below1 _ _).alloc (by simp) _).trans (hb1.mono (by simp; omega))
  have HB := Lib.hid hb
  have HCAL := Lib.hid hcal
  clear hb1 hb hcal
  by_cases hc : codeP p pw g [zs] = 0
  · obtain ⟨hv, hz⟩ := codeP_zero hc
    obtain ⟨_, hel, _⟩ := polyB_iff (hz zs (by simp))
    obtain ⟨b, rfl, _, hcl⟩ := HCAL.out hc
    have hcn : (codeP p pw g [zs] != 0) = false := by simp [hc]
    by_cases h0 : n = 0
    · subst h0
      have hz0 : zs = [] := List.eq_nil_of_length_eq_zero HLEN.out
      have hf1 := Lib.hid (show prR p pw g zs = [] by unfold prR; rw [if_neg (by simp [hz0])])
      have hf2 := Lib.hid (show prC p pw g zs = 5 by unfold prC; rw [if_pos hc, if_pos hz0])
      clear hc hz hz0
      go_wp2_with fail
      go_ret2
      exact ⟨_, by rw [hf2.out]; rfl, HB.out, by rw [hf1.out]; exact ResL.none _ _⟩
    · have hn0 : ((n : Int) == 0) = false := by simp; omega
      have hne : zs ≠ [] := fun h => h0 (by have := HLEN.out; rw [h] at this; simpa using this.symm)
      have hok := ffOf_ok hv
      have hlo := hok.lo
      have hhi := hok.hi
      have hf1 := Lib.hid (show prR p pw g zs = rootsTo (ffOf p pw g) zs (ffOf p pw g).size.toNat by unfold prR; rw [if_pos ⟨hc, hne⟩])
      have hf2 := Lib.hid (show prC p pw g zs = 0 by unfold prC; rw [if_pos hc, if_neg hne])
      have HC := Lib.hid hcl
      have HEL := Lib.hid hel
      have HR1 := Lib.hid (HR.out.below' HB.out)
      have hBs := HB.out.size
      clear hc hz hne hcl hel hok hv
      generalize hF : ffOf p pw g = F at *
      have hsz := HC.out.size
      clear hF
      go_wp2_with fail
      clear hcn hsz
      go_loopw [8, 9] (fun o t wr => ∃ k : Nat, (k : Int) ≤ F.size ∧ t = .int .i64 k ∧ OwnL wr w1.heap.size o (rootsTo F zs k) ∧ Below w1.heap.size w1 wr) (fun _ t _ => (F.size - intOf t).toNat)
      case atStart => exact ⟨0, by omega, rfl, OwnL.empty w1 _ (Nat.le_refl _) _ rfl, below1 _ _⟩
      case round =>
        obtain ⟨k, hk, rfl, hown, hbel⟩ := hrel
        have hcal := HC.out.below hbel
        have hrow := HR1.out.below' hbel
        have hsz := hcal.size
        have HOWN := Lib.hid hown
        have HBEL := Lib.hid hbel
        have HCL := Lib.hid hcal
        have HRW := Lib.hid hrow
        have hbs := hbel.size
        clear hown hbel hcal hrow
        by_cases hlt : (k : Int) < F.size
        · have hx : F.el (k : Int) := ⟨by omega, hlt⟩
          go_wp2_with fail
          refine (at_any HCL.out HRW.out HEL.out k hx).mono ?_
          rintro e w2 ⟨rfl, hd⟩
          have hd : Drew wr w2 := hd
          have HB2 := Lib.hid (HBEL.out.trans (hd.below _))
          have HO2 := Lib.hid (HOWN.out.below (hd.below _))
          clear hd
          by_cases he : evI F zs k = 0
          · have heb : (evI F zs k == 0) = true := by simp [he]
            have hr2 := Lib.hid (show rootsTo F zs (k + 1) = rootsTo F zs k ++ [(k : Int)] by simp [rootsTo, he])
            have hll : (rootsTo F zs k).length ≤ 16777216 := by have := rootsTo_len F zs k; omega
            clear he
            go_wp2_with (at_builtin; refine append_one rfl _ _ _ rfl Try.underlying26 k HO2.out rfl _ rfl rfl hll ?_; intro v' w3 hown3 hb3)
            have HO3 := Lib.hid hown3
            have HB3 := Lib.hid (HB2.out.trans hb3)
            clear hown3 hb3
            go_roundw
            case rel => exact ⟨k + 1, by omega, by go_num, by rw [hr2.out]; exact HO3.out, HB3.out⟩
            case measure => simp [intOf]; omega
          · have heb : (evI F zs k == 0) = false := by simp [he]
            have hr2 := Lib.hid (show rootsTo F zs (k + 1) = rootsTo F zs k by simp [rootsTo, he])
            clear he
            go_wp2_with fail
            go_roundw
            case rel => exact ⟨k + 1, by omega, by go_num, by rw [hr2.out]; exact HO2.out, HB2.out⟩
            case measure => simp [intOf]; omega
        · have e : F.size.toNat = k := by omega
          have hfin := Lib.hid (show ResL w wr u8 (prR p pw g zs) by rw [hf1.out, e]; exact HOWN.out.res hBs)
          have HBF := Lib.hid (HB.out.trans (HBEL.out.mono hBs))
          clear e
          go_wp2_with fail
          go_ret2
          exact ⟨_, by rw [hf2.out]; rfl, HBF.out, hfin.out⟩
  · have hcn : (codeP p pw g [zs] != 0) = true := by simp [hc]
    have hf1 := Lib.hid (show prR p pw g zs = [] by unfold prR; rw [if_neg (by simp [hc])])
    have hf2 := Lib.hid (show prC p pw g zs = codeP p pw g [zs] by unfold prC; rw [if_neg hc])
    clear hc
    go_wp2_with fail
    go_ret2
    exact ⟨_, by rw [hf2.out]; rfl, HB.out, by rw [hf1.out]; exact ResL.none _ _⟩
set_option maxHeartbeats 1000000 in
theorem specPolyRoots_any (p pw g : Int) (w : World) {a : Option Addr} {n cap : Nat} {zs : List Int} (hr : RowAt w a n zs) :
    Calls Try.prog 18 #[fV p pw g, .slice a n cap] w fun e w' => ∃ v, e = .returned (.tuple #[v, .int .i64 (prC p pw g zs)]) ∧ Below w.heap.size w w' ∧ ResL w w' v (prR p pw g zs) := by
  have HR := Lib.hid hr
  have hlen := hr.len
  have hrow := hr.below' (below1 w (.cells #[.int .i64 p, .int .i64 pw, .int .i64 g] FT))
  have hrows := rows_one _ 26 a n cap zs hrow (w.heap.size + 1) (by simp)
  have hbox := box_alloc (box_new w p pw g FT) (.cells #[.slice a n cap] 26)
  have HROWS := Lib.hid hrows
  have HBOX := Lib.hid hbox
  have HLEN := Lib.hid hlen
  clear hr hrow hrows hlen hbox
  go_enter Try.func18, Try.ntmps18
  go_wp2_with fail
  refine (l03Code_any p pw g _ HROWS.out).mono ?_
  rintro e w1 ⟨rfl, hb1⟩
  have hb : Below w.heap.size w w1 := ((below1 _ _).alloc (by simp) _).trans (hb1.mono (by simp; omega))
  have HB := Lib.hid hb
  have HX := Lib.hid (HBOX.out.below hb1 HBOX.out.lt)
  clear hb1 hb
  by_cases hc : codeP p pw g [zs] = 0
  · obtain ⟨hv, hz⟩ := codeP_zero hc
    obtain ⟨_, hel, _⟩ := polyB_iff (hz zs (by simp))
    have hcn : (codeP p pw g [zs] != 0) = false := by simp [hc]
    by_cases h0 : n = 0
    · subst h0
      have hz0 : zs = [] := List.eq_nil_of_length_eq_zero HLEN.out
      have hf1 := Lib.hid (show prR p pw g zs = [] by unfold prR; rw [if_neg (by simp [hz0])])
      have hf2 := Lib.hid (show prC p pw g zs = 5 by unfold prC; rw [if_pos hc, if_pos hz0])
      clear hc hz hz0
      go_wp2_with fail
      go_ret2
      exact ⟨_, by rw [hf2.out]; rfl, HB.out, by rw [hf1.out]; exact ResL.none _ _⟩
    · have hn0 : ((n : Int) == 0) = false := by simp; omega
      have hne : zs ≠ [] := fun h => h0 (by have := HLEN.out; rw [h] at this; simpa using this.symm)
      have hok := ffOf_ok hv
      have hlo := hok.lo
      have hhi := hok.hi
      have hf1 := Lib.hid (show prR p pw g zs = rootsTo (ffOf p pw g) zs (ffOf p pw g).size.toNat by unfold prR; rw [if_pos ⟨hc, hne⟩])
      have hf2 := Lib.hid (show prC p pw g zs = 0 by unfold prC; rw [if_pos hc, if_neg hne])
      have HS := Lib.hid (fun W => l02Size_any p pw g W (ranged_of hv))
      have HEV := Lib.hid (fun W (hrow : RowAt W a n zs) x hx => l03Eval_any p pw g hv (cap := cap) hrow hel x hx)
      have HR1 := Lib.hid (HR.out.below' HB.out)
      have hBs := HB.out.size
      clear hc hz hne hel hok hv
      generalize hF : ffOf p pw g = F at *
      clear hF
      go_wp2_with fail
      clear hcn
      go_loopw [7, 8] (fun o t wr => ∃ k : Nat, (k : Int) ≤ F.size ∧ t = .int .i64 k ∧ OwnL wr w1.heap.size o (rootsTo F zs k) ∧ Below w1.heap.size w1 wr) (fun _ t _ => (F.size - intOf t).toNat)
      case atStart => exact ⟨0, by omega, rfl, OwnL.empty w1 _ (Nat.le_refl _) _ rfl, below1 _ _⟩
      case round =>
        obtain ⟨k, hk, rfl, hown, hbel⟩ := hrel
        have HOWN := Lib.hid hown
        have HBEL := Lib.hid hbel
        have HRW := Lib.hid (HR1.out.below' hbel)
        have hX := HX.out.below hbel HX.out.lt
        have HXR := Lib.hid hX
        have hbs := hbel.size
        obtain ⟨hlx, c0, c1, c2⟩ := hX
        clear hown hbel
        by_cases hlt : (k : Int) < F.size
        · have hx : F.el (k : Int) := ⟨by omega, hlt⟩
          go_wp2_with fail
          refine (HS.out _).mono ?_
          rintro e w2 ⟨rfl, hb2⟩
          have HB2 := Lib.hid (HBEL.out.trans (hb2.mono hbs))
          have HO2 := Lib.hid (HOWN.out.below hb2)
          have HR2 := Lib.hid (HRW.out.below' hb2)
          have hs2 := hb2.size
          have hX2 := HXR.out.below hb2 HXR.out.lt
          obtain ⟨hlx2, d0, d1, d2⟩ := hX2
          clear hb2 c0 c1 c2
          go_wp2_with fail
          refine (HEV.out _ HR2.out k hx).mono ?_
          rintro e w3 ⟨rfl, hb3⟩
          have HB3 := Lib.hid (HB2.out.trans (hb3.mono (by omega)))
          have HO3 := Lib.hid (HO2.out.below hb3)
          clear hb3
          by_cases he : evI F zs k = 0
          · have heb : (evI F zs k == 0) = true := by simp [he]
            have hr2 := Lib.hid (show rootsTo F zs (k + 1) = rootsTo F zs k ++ [(k : Int)] by simp [rootsTo, he])
            have hll : (rootsTo F zs k).length ≤ 16777216 := by have := rootsTo_len F zs k; omega
            clear he
            go_wp2_with (at_builtin; refine append_one rfl _ _ _ rfl Try.underlying26 k HO3.out rfl _ rfl rfl hll ?_; intro v' w4 hown4 hb4)
            have HO4 := Lib.hid hown4
            have HB4 := Lib.hid (HB3.out.trans hb4)
            clear hown4 hb4
            go_roundw
            case rel => exact ⟨k + 1, by omega, by go_num, by rw [hr2.out]; exact HO4.out, HB4.out⟩
            case measure => simp [intOf]; omega
          · have heb : (evI F zs k == 0) = false := by simp [he]
            have hr2 := Lib.hid (show rootsTo F zs (k + 1) = rootsTo F zs k by simp [rootsTo, he])
            clear he
            go_wp2_with fail
            go_roundw
            case rel => exact ⟨k + 1, by omega, by go_num, by rw [hr2.out]; exact HO3.out, HB3.out⟩
            case measure => simp [intOf]; omega
        · have e : F.size.toNat = k := by omega
          go_wp2_with fail
          refine (HS.out _).mono ?_
          rintro e w2 ⟨rfl, hb2⟩
          have HB2 := Lib.hid (HBEL.out.trans (hb2.mono hbs))
          have HO2 := Lib.hid (HOWN.out.below hb2)
          have hfin := Lib.hid (show ResL w w2 u7 (prR p pw g zs) by rw [hf1.out, e]; exact HO2.out.res hBs)
          have HBF := Lib.hid (HB.out.trans (HB2.out.mono hBs))
          clear hb2 e
          go_wp2_with fail
          go_ret2
          exact ⟨_, by rw [hf2.out]; rfl, HBF.out, hfin.out⟩
  · have hcn : (codeP p pw g [zs] != 0) = true := by simp [hc]
    have hf1 := Lib.hid (show prR p pw g zs = [] by unfold prR; rw [if_neg (by simp [hc])])
    have hf2 := Lib.hid (show prC p pw g zs = codeP p pw g [zs] by unfold prC; rw [if_neg hc])
    clear hc
    go_wp2_with fail
    go_ret2
    exact ⟨_, by rw [hf2.out]; rfl, HB.out, by rw [hf1.out]; exact ResL.none _ _⟩
end Go.Proofs.Ytnhpdenneplapaa
