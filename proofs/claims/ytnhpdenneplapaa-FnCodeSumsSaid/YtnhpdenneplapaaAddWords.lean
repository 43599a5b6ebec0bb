/-
  The walks of the two AddWords.
-/
import Derived.Test.YtnhpdenneplapaaCodes
import Derived.Test.YtnhpdenneplapaaOwns
import Derived.Test.YtnhpdenneplapaaLanes
import Derived.StillTailTactics
namespace Go.Proofs.Ytnhpdenneplapaa
open Go.RowKit
set_option linter.unusedVariables false

/-- The sums of the elements of two lists. -/
def addL (F : FF) (xs ys : List Int) : List Int := List.zipWith F.add xs ys
theorem addL_length (F : FF) (xs ys : List Int) : (addL F xs ys).length = min xs.length ys.length := by unfold addL; simp
theorem addL_gi (F : FF) {xs ys : List Int} {k : Nat} (h1 : k < xs.length) (h2 : k < ys.length) : gi (addL F xs ys) k = F.add (gi xs k) (gi ys k) := by
  unfold addL gi
  rw [List.getD_eq_getElem?_getD, List.getElem?_zipWith, List.getElem?_eq_getElem h1, List.getElem?_eq_getElem h2]
  simp [h1, h2]
theorem take_snoc_gi (l : List Int) (k : Nat) (h : k < l.length) : l.take (k + 1) = l.take k ++ [gi l k] := by
  rw [List.take_succ_eq_append_getElem h]; unfold gi; rw [List.getD_eq_getElem?_getD, List.getElem?_eq_getElem h]; rfl
noncomputable def awR (p pw g l c : Int) (xs ys : List Int) : List Int := if codeC p pw g l c [xs, ys] = 0 then addL (ffOf p pw g) xs ys else []
theorem awR_len (p pw g l c : Int) (xs ys : List Int) : (awR p pw g l c xs ys).length ≤ 1048576 := by
  unfold awR
  split
  · rename_i h
    obtain ⟨hv, hw⟩ := codeC_zero h
    have h1 := (wordB_iff (hw xs (by simp))).1
    have h2 := validC_iff hv
    rw [addL_length]; omega
  · simp
abbrev T1 : TypeId := 26
set_option maxHeartbeats 1000000 in
theorem specAddWords_any (p pw g l c : Int) (w : World) {a a' : Option Addr} {n cap n' cap' : Nat} {xs ys : List Int} (hr : RowAt w a n xs) (hr' : RowAt w a' n' ys) :
    Calls Try.prog 59 #[cV p pw g l c, .slice a n cap, .slice a' n' cap'] w fun e w' => ∃ v, e = .returned (.tuple #[v, .int .i64 (codeC p pw g l c [xs, ys])]) ∧ Below w.heap.size w w' ∧ ResL w w' v (awR p pw g l c xs ys) := by
  have HR := Lib.hid hr
  have HR' := Lib.hid hr'
  have hl := Lib.hid hr.len
  have hl' := Lib.hid hr'.len
  have hrow := hr.below' (below1 w (.cells #[.int .i64 p, .int .i64 pw, .int .i64 g, .int .i64 l, .int .i64 c] CT))
  have hrow' := hr'.below' (below1 w (.cells #[.int .i64 p, .int .i64 pw, .int .i64 g, .int .i64 l, .int .i64 c] CT))
  have HROWS := Lib.hid (rows_two _ T1 a n cap xs hrow a' n' cap' ys hrow' (w.heap.size + 1) (by simp))
  have hX := boxC_new w p pw g l c CT
  have HX := Lib.hid (hX.below ((Below.refl _ _).alloc (Nat.le_refl _) (.cells #[.slice a n cap, .slice a' n' cap'] T1)) hX.lt)
  clear hr hr' hrow hrow' hX
  go_enter Try.func59, Try.ntmps59
  go_wp2_with fail
  refine (l04Code_any p pw g l c _ HROWS.out).mono ?_
  rintro e w1 ⟨rfl, hb1⟩
  have HB := Lib.hid (((below1 _ _).alloc (by simp) _).trans (hb1.mono (by simp; omega)))
  have HX1 := Lib.hid (HX.out.below hb1 HX.out.lt)
  clear hb1
  by_cases hc : codeC p pw g l c [xs, ys] = 0
  rotate_left
  · have hcn : (codeC p pw g l c [xs, ys] != 0) = true := by simp [hc]
    have hf1 := Lib.hid (show awR p pw g l c xs ys = [] by unfold awR; rw [if_neg hc])
    clear hc
    go_wp2_with fail
    go_ret2
    exact ⟨_, rfl, HB.out, by rw [hf1.out]; exact ResL.none _ _⟩
  have hcn : (codeC p pw g l c [xs, ys] != 0) = false := by simp [hc]
  obtain ⟨hv, hw⟩ := codeC_zero hc
  obtain ⟨e1, hel1⟩ := wordB_iff (hw xs (by simp))
  obtain ⟨e2, hel2⟩ := wordB_iff (hw ys (by simp))
  obtain ⟨hvb, hc1, hc2, hl1, hl2, _⟩ := validC_iff hv
  obtain rfl : n' = n := by have := hl.out; have := hl'.out; omega
  have hn : n' ≤ 255 := by have := hl.out; omega
  have hf1 := Lib.hid (show awR p pw g l c xs ys = addL (ffOf p pw g) xs ys by unfold awR; rw [if_pos hc])
  have HE1 := Lib.hid hel1
  have HE2 := Lib.hid hel2
  have HV := Lib.hid hvb
  have hBs := HB.out.size
  have HC := Lib.hid hc
  clear hc hv hw e1 e2 hel1 hel2 hvb
  go_wp2_with fail
  have hall : (addL (ffOf p pw g) xs ys).length = n' := by rw [addL_length, hl.out, hl'.out]; omega
  have HALL := Lib.hid hall
  clear hall
  go_loopw [9, 10] (fun o t wr => ∃ k : Nat, k ≤ n' ∧ t = .int .i64 k ∧ OwnL wr w1.heap.size o ((addL (ffOf p pw g) xs ys).take k) ∧ Below w1.heap.size w1 wr) (fun _ t _ => (n' - intOf t).toNat)
  case atStart => exact ⟨0, by omega, rfl, by rw [List.take_zero]; exact OwnL.empty w1 _ (Nat.le_refl _) _ rfl, below1 _ _⟩
  case round =>
    obtain ⟨k, hk, rfl, hown, hbel⟩ := hrel
    have HBEL := Lib.hid hbel
    have HOWN := Lib.hid hown
    have hbs := hbel.size
    have hrow := HR.out.below' (HB.out.trans (hbel.mono hBs))
    have hrow' := HR'.out.below' (HB.out.trans (hbel.mono hBs))
    obtain ⟨hlx, c0, c1, c2, c3, c4⟩ := HX1.out.below hbel HX1.out.lt
    clear hown hbel
    by_cases hlt : k < n'
    · obtain ⟨b1, o1, rfl, hb1, hcs⟩ := hrow.at' (by omega)
      have hcell := hcs k hlt
      obtain ⟨b2, o2, rfl, hb2, hcs'⟩ := hrow'.at' (by omega)
      have hcell' := hcs' k hlt
      have hq1 : b1 < w1.heap.size := by obtain ⟨_, _, e, h, _⟩ := HR.out.at' (by omega); cases e; omega
      have hq2 : b2 < w1.heap.size := by obtain ⟨_, _, e, h, _⟩ := HR'.out.at' (by omega); cases e; omega
      have hq3 : w.heap.size < w1.heap.size := HX1.out.lt
      have hok := ffOf_ok HV.out
      have hst := Lib.hid (show (addL (ffOf p pw g) xs ys).take (k + 1) = (addL (ffOf p pw g) xs ys).take k ++ [(ffOf p pw g).add (gi xs k) (gi ys k)] by
        rw [take_snoc_gi _ _ (by rw [HALL.out]; exact hlt), addL_gi _ (by rw [hl.out]; exact hlt) (by rw [hl'.out]; exact hlt)])
      have hll : ((addL (ffOf p pw g) xs ys).take k).length ≤ 16777216 := by rw [List.length_take]; omega
      have HA := Lib.hid (fun W => l02Add_any p pw g HV.out _ _ (el_gi hok HE1.out k) (el_gi hok HE2.out k) W)
      clear hcs hcs' hrow hrow' hok
      generalize (addL (ffOf p pw g) xs ys).take k = r at *
      generalize gi xs k = x at *
      generalize gi ys k = y at *
      go_wp2_with fail
      go_region_held3 (fun w' => w'.cell? ⟨b1, o1 + k, none⟩ = some (.int .i64 x) ∧ w'.cell? ⟨b2, o2 + k, none⟩ = some (.int .i64 y) ∧ w'.cell? ⟨w.heap.size, 0, none⟩ = some (.int .i64 p) ∧ w'.cell? ⟨w.heap.size, 1, none⟩ = some (.int .i64 pw) ∧ w'.cell? ⟨w.heap.size, 2, none⟩ = some (.int .i64 g))
        (first | go_keep | ((try (dsimp only)); go_split_ands; refine ⟨?_, ?_, ?_, ?_, ?_⟩; all_goals (first | go_keep | (rw [hb5.cell (by first | assumption | omega), hb4.cell (by simp; omega)]; first | exact hcell | exact hcell' | exact c0 | exact c1 | exact c2) | (rw [hb4.cell (by simp; omega)]; assumption))))
        (first | (go_at_call 117; refine (HA.out _).mono ?_; rintro e w4 ⟨rfl, hb4⟩) | (have hb4x := hb4; refine step_one rfl _ _ _ rfl Try.underlying26 ((ffOf p pw g).add x y) (HOWN.out.below ((Below.refl _ wr).drew.trans hb4)) rfl _ rfl rfl hll ?_; intro v' w5 hown5 hb5))
      all_goals
        have HO5 := Lib.hid hown5
        have HB5 := Lib.hid (HBEL.out.trans ((((Below.refl _ wr).drew.trans hb4).mono hbs).trans hb5))
        clear hown5 hb5 hb4
        go_wp2_with fail
        go_roundw
        case rel => exact ⟨k + 1, by omega, by go_num, by rw [hst.out]; exact HO5.out, HB5.out⟩
        case measure => simp [intOf]; omega
    · have e : k = n' := by omega
      have hfin := Lib.hid (show ResL w wr u9 (awR p pw g l c xs ys) by rw [hf1.out]; have := HOWN.out; rw [List.take_of_length_le (by rw [HALL.out]; omega)] at this; exact this.res hBs)
      have HBF := Lib.hid (HB.out.trans (HBEL.out.mono hBs))
      clear e hrow hrow' c0 c1 c2 c3 c4
      go_wp2_with fail
      go_ret2
      exact ⟨_, by rw [HC.out]; rfl, HBF.out, hfin.out⟩
set_option maxRecDepth 20000 in
theorem implAddWords_any (p pw g l c : Int) (w : World) {a a' : Option Addr} {n cap n' cap' : Nat} {xs ys : List Int} (hr : RowAt w a n xs) (hr' : RowAt w a' n' ys) :
    Calls Try.prog 58 #[cV p pw g l c, .slice a n cap, .slice a' n' cap'] w fun e w' => ∃ v, e = .returned (.tuple #[v, .int .i64 (codeC p pw g l c [xs, ys])]) ∧ Below w.heap.size w w' ∧ ResL w w' v (awR p pw g l c xs ys) := by
  have HR := Lib.hid hr
  have HR' := Lib.hid hr'
  have hl := Lib.hid hr.len
  have hl' := Lib.hid hr'.len
  have hrow := hr.below' (below1 w (.cells #[.int .i64 p, .int .i64 pw, .int .i64 g, .int .i64 l, .int .i64 c] CT))
  have hrow' := hr'.below' (below1 w (.cells #[.int .i64 p, .int .i64 pw, .int .i64 g, .int .i64 l, .int .i64 c] CT))
  have HROWS := Lib.hid (rows_two _ T1 a n cap xs hrow a' n' cap' ys hrow' (w.heap.size + 1) (by simp))
  clear hr hr' hrow hrow'
  go_enter Try.func58, Try.ntmps58
  go_wp2_with fail
  refine (words_any p pw g l c _ HROWS.out).mono ?_
  rintro e w1 ⟨v, rfl, hb1, hcal⟩
  have HB := Lib.hid (((below1 _ _).alloc (by simp) _).trans (hb1.mono (by simp; omega)))
  have HCAL := Lib.hid hcal
  clear hb1 hcal
  by_cases hc : codeC p pw g l c [xs, ys] = 0
  rotate_left
  · have hcn : (codeC p pw g l c [xs, ys] != 0) = true := by simp [hc]
    have hf1 := Lib.hid (show awR p pw g l c xs ys = [] by unfold awR; rw [if_neg hc])
    clear hc
    go_wp2_with fail
    go_ret2
    exact ⟨_, rfl, HB.out, by rw [hf1.out]; exact ResL.none _ _⟩
  have hcn : (codeC p pw g l c [xs, ys] != 0) = false := by simp [hc]
  obtain ⟨b, rfl, hbb, hcod⟩ := HCAL.out hc
  have HCOD := Lib.hid hcod
  obtain ⟨hv, hw⟩ := codeC_zero hc
  obtain ⟨e1, hel1⟩ := wordB_iff (hw xs (by simp))
  obtain ⟨e2, hel2⟩ := wordB_iff (hw ys (by simp))
  obtain ⟨hvb, hc1, hc2, hl1, hl2, _⟩ := validC_iff hv
  obtain rfl : n' = n := by have := hl.out; have := hl'.out; omega
  have hn : n' ≤ 255 := by have := hl.out; omega
  have hf1 := Lib.hid (show awR p pw g l c xs ys = addL (ffOf p pw g) xs ys by unfold awR; rw [if_pos hc])
  have HE1 := Lib.hid hel1
  have HE2 := Lib.hid hel2
  have HV := Lib.hid hvb
  have hBs := HB.out.size
  have HC := Lib.hid hc
  have hmk := fun w => run_make_ints w 26 Try.underlying26 (n' : Int) (by omega) (by omega)
  simp only [Int.toNat_natCast] at hmk
  clear hc hv hw e1 e2 hel1 hel2 hvb hcod
  go_wp2_with fail
  clear hmk
  have hall : (addL (ffOf p pw g) xs ys).length = n' := by rw [addL_length, hl.out, hl'.out]; omega
  have HALL := Lib.hid hall
  have hb0 : Below w1.heap.size w1 (w1.alloc (.cells (madeCells #[.int .i64 0] n') 2)) := below1 _ _
  have ho0 := own_zeros w1 n' (by omega)
  rw [show List.replicate n' 0 = copyTo (addL (ffOf p pw g) xs ys) 0 by unfold copyTo; simp [hall]] at ho0
  clear hall
  go_loopw [29] (fun t wr => ∃ k : Nat, k ≤ n' ∧ t = .int .i64 k ∧ Hid (Below w1.heap.size w1 wr) ∧ Hid (OwnAt wr w1.heap.size (some ⟨w1.heap.size, 0, none⟩) n' (copyTo (addL (ffOf p pw g) xs ys) k)) ∧ w1.heap.size < wr.heap.size) (fun t _ => (n' - intOf t).toNat)
  case atStart => exact ⟨0, by omega, rfl, hb0, ho0, by simp⟩
  case round =>
    obtain ⟨k, hk, rfl, hbel, hown, hsz⟩ := hrel
    clear hb0 ho0
    have hrow := HR.out.below' (HB.out.trans (hbel.out.mono hBs))
    have hrow' := HR'.out.below' (HB.out.trans (hbel.out.mono hBs))
    by_cases hlt : k < n'
    · obtain ⟨b1, o1, rfl, hb1, hcs⟩ := hrow.at' (by omega)
      have hcell := hcs k hlt
      obtain ⟨b2, o2, rfl, hb2, hcs'⟩ := hrow'.at' (by omega)
      have hcell' := hcs' k hlt
      obtain ⟨_, ⟨bc, g0, hcal⟩, g1, g2⟩ := HCOD.out.below hbel.out
      have hok := ffOf_ok HV.out
      have HA := Lib.hid ((add_any (hcal.drewN 1) _ _ (el_gi hok HE1.out k) (el_gi hok HE2.out k)).mono fun e w' h => (⟨h.1, h.2.symm⟩ : _ ∧ w' = wr.drewN 1))
      obtain ⟨hp, hf, _⟩ := hown.out.place hlt
      have ho2 := Lib.hid (show OwnAt (wr.setCell ⟨w1.heap.size, k, none⟩ (.int .i64 ((ffOf p pw g).add (gi xs k) (gi ys k)))).drew w1.heap.size (some ⟨w1.heap.size, 0, none⟩) n' (copyTo (addL (ffOf p pw g) xs ys) (k + 1)) by
        refine Drew.own ⟨1, rfl⟩ ?_
        rw [copyTo_set _ _ (by rw [HALL.out]; exact hlt), addL_gi _ (by rw [hl.out]; exact hlt) (by rw [hl'.out]; exact hlt)]
        exact hown.out.set hlt ((ffOf p pw g).add (gi xs k) (gi ys k)))
      have hbl2 := Lib.hid ((hbel.out.setCell (p := ⟨w1.heap.size, k, none⟩) (Nat.le_refl _) (.int .i64 ((ffOf p pw g).add (gi xs k) (gi ys k)))).drew)
      have HS2 := Lib.hid (show w1.heap.size < (wr.setCell ⟨w1.heap.size, k, none⟩ (.int .i64 ((ffOf p pw g).add (gi xs k) (gi ys k)))).drew.heap.size by simp [World.setCell]; omega)
      clear hcs hcs' hrow hrow' hok hcal
      go_wp2_with fail
      refine wp_region_still_tail 13 (by kernel_rfl) (by kernel_rfl) ?_
      simp only [List.take_succ_cons, List.take_zero, List.drop_succ_cons, List.drop_zero]
      change wpStill _ _ wr.drew _ _ _
      iterate 11 still_step
      still_call HA.out
      iterate 1 still_step
      refine wpStill_nil ?_
      change wpList _ _ _ _ _ wr.drew
      go_wp2_with fail
      exact ⟨⟨k + 1, by omega, by go_num, hbl2, ho2, HS2.out⟩, by simp [intOf]; omega⟩
    · obtain rfl : k = n' := by omega
      have hfin := Lib.hid (show ResL w wr (.slice (some ⟨w1.heap.size, 0, none⟩) k k) (awR p pw g l c xs ys) by
        rw [hf1.out]
        have := hown.out
        rw [copyTo_end _ _ (by rw [HALL.out]; omega)] at this
        have h2 := this.mono hBs
        have e2 : (addL (ffOf p pw g) xs ys).length = k := HALL.out
        refine ⟨some ⟨w1.heap.size, 0, none⟩, k, by rw [e2], (fun h => by cases h), ?_⟩
        rw [e2]; exact h2)
      have HBF := Lib.hid (HB.out.trans (hbel.out.mono hBs))
      clear hrow hrow'
      go_wp2_with fail
      go_ret2
      exact ⟨_, by rw [HC.out]; rfl, HBF.out, hfin.out⟩
end Go.Proofs.Ytnhpdenneplapaa
