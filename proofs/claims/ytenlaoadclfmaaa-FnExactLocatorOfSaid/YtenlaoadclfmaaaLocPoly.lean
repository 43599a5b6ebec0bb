/-
  The walks of locator polynomials, and of the two LocatorOf.
-/
import Derived.Test.YtenlaoadclfmaaaLocator
namespace Go.Proofs.Ytenlaoadclfmaaa
open Go.RowKit
set_option linter.unusedVariables false

/-- The locator polynomial of indices. -/
noncomputable def locP (V : VF) (l : Int) (zs : List Int) : PS (El V) := PS.lam (zs.map fun i => VF.of V (locI V.F l i))
theorem locI_el (V : VF) (l i : Int) : V.F.el (locI V.F l i) := FF.exp_el V.ok _
theorem locP_poly (V : VF) (l : Int) (zs : List Int) : (locP V l zs).IsPoly := PS.isPoly_lam _
theorem locP_len (V : VF) (l : Int) (zs : List Int) : (VF.lst V (locP V l zs)).length ≤ zs.length + 1 := by
  have := VF.lst_len (V := V) (PS.dlt_lam (zs.map fun i => VF.of V (locI V.F l i)))
  rw [List.length_map] at this; exact this
theorem locP_next (V : VF) (l : Int) (zs : List Int) (k : Nat) (hk : k < zs.length) :
    VF.lst V (VF.ps V (VF.lst V (locP V l (zs.take k))) * VF.ps V [1, V.F.neg (locI V.F l (gi zs k))]) = VF.lst V (locP V l (zs.take (k + 1))) := by
  rw [VF.lst_eq (locP_poly V l _), ps_lin1 V (locI_el V l _), VF.take_succ_getD zs k hk]
  unfold locP
  rw [List.map_append, PS.lam_append]
  congr 1
  show _ = _ * (PS.lf _ * 1)
  have : ∀ x : PS (El V), x * 1 = x := fun x => by grind
  rw [this]; rfl
theorem locP_nil (V : VF) (l : Int) : VF.lst V (locP V l []) = [1] := lst_one V
set_option maxHeartbeats 2000000 in
theorem locatorPoly_any {V : VF} {p pw g l c : Int} (hs : SF V p pw g) {w : World} {b : Nat} (hcod : Cod w b p pw g l c) (hl1 : l ≤ 255) {a : Option Addr} {n cap : Nat} {zs : List Int} (hr : RowAt w a n zs) (hn : n ≤ 255) (hris : RisTo 0 (l - 1) zs n) :
    Calls Try.prog 93 #[.pointer (some ⟨b, 0, none⟩), .slice a n cap] w fun e w' => ∃ v, e = .returned v ∧ Below w.heap.size w w' ∧ OwnL w' w.heap.size v (VF.lst V (locP V l zs)) := by
  have HCOD := Lib.hid hcod
  have HR := Lib.hid hr
  have hlen := Lib.hid hr.len
  have HRIS := Lib.hid hris
  clear hcod hr hris
  have HO0 := Lib.hid (show OwnL (w.alloc (.cells #[.int .i64 1] 2)) w.heap.size (.slice (some ⟨w.heap.size, 0, none⟩) 1 1) (VF.lst V (locP V l (zs.take 0))) by
    rw [List.take_zero, locP_nil]; exact OwnL.lit1 _ _ (Nat.le_refl _) _ rfl _ rfl)
  go_enter Try.func93, Try.ntmps93
  go_wp2_with fail
  go_loopw [5, 11] (fun o t wr => ∃ (k la ca : Nat) (aa : Option Addr), k ≤ n ∧ o = .slice aa la ca ∧ t = .int .i64 k ∧ Hid ((VF.lst V (locP V l (zs.take k))).length = la) ∧ Hid (OwnL wr w.heap.size (.slice aa la ca) (VF.lst V (locP V l (zs.take k)))) ∧ Hid (Below w.heap.size w wr)) (fun _ t _ => (n - intOf t).toNat)
  case atStart => exact ⟨0, 1, 1, _, by omega, rfl, rfl, Lib.hid (by rw [List.take_zero, locP_nil]; rfl), HO0, Lib.hid (below1 _ _)⟩
  case round =>
    obtain ⟨k, la, ca, aa, hk, rfl, rfl, hla, ho, hbel⟩ := hrel
    clear HO0
    by_cases hlt : k < n
    · obtain ⟨b1, o1, rfl, hb1, hcs⟩ := (HR.out.below' hbel.out).at' (by omega)
      have hcell := hcs k hlt
      have hcod := HCOD.out.below hbel.out
      obtain ⟨bc, hc0, hcal⟩ := hcod.calV hs
      have HCAL := Lib.hid hcal
      have HCD := Lib.hid hcod
      obtain ⟨hi0, hi1, _⟩ := HRIS.out k hlt
      have HP := Lib.hid (fun W (hb : Below wr.heap.size wr W) => locator_any hs (HCD.out.below hb) hl1 (gi zs k) hi0 hi1)
      have hr2 := locI_el V l (gi zs k)
      have HN := Lib.hid (fun W (hd : Drew wr W) => neg_any (hd.cal HCAL.out) (locI V.F l (gi zs k)) hr2)
      have HNX := Lib.hid (locP_next V l zs k (by rw [hlen.out]; exact hlt))
      have hlm : (VF.lst V (locP V l (zs.take k))).length ≤ 4096 := by have := locP_len V l (zs.take k); rw [List.length_take] at this; omega
      have hels := (VF.lst_isP (locP_poly V l (zs.take k))).els
      have he2 := els_lin1 (V := V) hr2
      obtain ⟨_, _, ea, -, hra⟩ := ho.out.shape
      simp only [Value.slice.injEq] at ea
      obtain ⟨rfl, -, -⟩ := ea
      rw [hla.out] at hra hlm
      have HRA := Lib.hid hra.row
      have HT := Lib.hid (fun W (hd : Drew wr W) => times_any (V := V) (cap := ca) (cap' := 2) ((hd.cal HCAL.out).below (below1 W (.cells #[.int .i64 1, .int .i64 (V.F.neg (locI V.F l (gi zs k)))] 2))) ((hd.row HRA.out).below' (below1 W (.cells #[.int .i64 1, .int .i64 (V.F.neg (locI V.F l (gi zs k)))] 2))) hlm (row_two W 1 (V.F.neg (locI V.F l (gi zs k))) 2 _ rfl) (by omega) hels he2)
      rw [HNX.out] at HT
      clear hra hels he2 hlm hcal hcod hcs hi0 hi1
      generalize locI V.F l (gi zs k) = r2 at *
      generalize V.F.neg r2 = m at *
      generalize gi zs k = z at *
      go_wp2_with fail
      go_region_held3 (fun w' => w'.cell? ⟨b, 0, none⟩ = some (.pointer (some ⟨bc, 0, none⟩)))
        (first | go_keep | ((try (dsimp only)); (first | go_keep | exact keep_cell hbT (by assumption) | exact keep_cell (hd3.below _) (by assumption))))
        (first | (go_at_call 126; refine (HP.out _ (Drew.below (drew1 wr) _)).mono ?_; rintro e w3 ⟨rfl, hd3⟩; have hd3 : Drew wr w3 := Drew.trans (drew1 wr) hd3) | (go_at_call 87; refine (HN.out _ hd3).mono ?_; rintro e w4 ⟨rfl, rfl⟩) | (go_at_call 67; refine (HT.out _ hd3).mono ?_; rintro e w5 ⟨v, rfl, hbT, hoT⟩))
      have hb4 := Below.more (((hd3.below wr.heap.size).trans ((below1 w3 (.cells #[.int .i64 1, .int .i64 m] 2)).mono (hd3.below wr.heap.size).size))) (Nat.le_refl _) hbT
      have hs5 : w.heap.size ≤ (w3.alloc (.cells #[.int .i64 1, .int .i64 m] 2)).heap.size := by have h1 := (hd3.below wr.heap.size).size; have h2 := hbel.out.size; simp; omega
      have HB5 := Lib.hid (hbel.out.trans (hb4.mono hbel.out.size))
      obtain ⟨a5, c5, rfl, -, -, -⟩ := hoT.cap
      have HO5 := Lib.hid (hoT.lower hs5)
      clear hd3 hbT hoT hb4 hs5
      go_wp2_with fail
      go_roundw
      case rel => exact ⟨k + 1, _, _, _, by omega, rfl, by go_num, Lib.hid rfl, HO5, HB5⟩
      case measure => simp [intOf]; omega
    · obtain rfl : k = n := by omega
      have hfin := Lib.hid (show zs.take k = zs by rw [List.take_of_length_le (by rw [hlen.out]; omega)])
      rw [hfin.out] at ho
      go_wp2_with fail
      go_ret
      exact ⟨_, rfl, hbel.out, ho.out⟩
set_option maxHeartbeats 2000000 in
theorem l05Polynomial_any {V : VF} {p pw g l c : Int} (hs : SF V p pw g) (hl1 : l ≤ 255) {w : World} {a : Option Addr} {n cap : Nat} {zs : List Int} (hr : RowAt w a n zs) (hn : n ≤ 255) (hris : RisTo 0 (l - 1) zs n) :
    Calls Try.prog 91 #[cV p pw g l c, .slice a n cap] w fun e w' => ∃ v, e = .returned v ∧ Below w.heap.size w w' ∧ OwnL w' w.heap.size v (VF.lst V (locP V l zs)) := by
  have HR := Lib.hid hr
  have hlen := Lib.hid hr.len
  have HRIS := Lib.hid hris
  clear hr hris
  have HO0 := Lib.hid (show OwnL ((w.alloc (.cells #[.int .i64 p, .int .i64 pw, .int .i64 g, .int .i64 l, .int .i64 c] CT)).alloc (.cells #[.int .i64 1] 2)) w.heap.size (.slice (some ⟨w.heap.size + 1, 0, none⟩) 1 1) (VF.lst V (locP V l (zs.take 0))) by
    rw [List.take_zero, locP_nil]; exact OwnL.lit1 _ _ (by simp) _ (by simp) _ rfl)
  have HB0 := Lib.hid ((below1 w (.cells #[.int .i64 p, .int .i64 pw, .int .i64 g, .int .i64 l, .int .i64 c] CT)).alloc (by simp) (.cells #[.int .i64 1] 2))
  have HX0 := Lib.hid ((boxC_new w p pw g l c CT).below (below1 _ (.cells #[.int .i64 1] 2)) (by simp))
  go_enter Try.func91, Try.ntmps91
  go_wp2_with fail
  go_loopw [5, 6] (fun o t wr => ∃ (k la ca : Nat) (aa : Option Addr), k ≤ n ∧ o = .slice aa la ca ∧ t = .int .i64 k ∧ Hid ((VF.lst V (locP V l (zs.take k))).length = la) ∧ Hid (OwnL wr w.heap.size (.slice aa la ca) (VF.lst V (locP V l (zs.take k)))) ∧ Hid (Below w.heap.size w wr) ∧ Hid (BoxC wr w.heap.size p pw g l c)) (fun _ t _ => (n - intOf t).toNat)
  case atStart => exact ⟨0, 1, 1, _, by omega, rfl, rfl, Lib.hid (by rw [List.take_zero, locP_nil]; rfl), HO0, HB0, HX0⟩
  case round =>
    obtain ⟨k, la, ca, aa, hk, rfl, rfl, hla, ho, hbel, hbox⟩ := hrel
    clear HO0 HB0 HX0
    by_cases hlt : k < n
    · obtain ⟨b1, o1, rfl, hb1, hcs⟩ := (HR.out.below' hbel.out).at' (by omega)
      have hcell := hcs k hlt
      obtain ⟨hi0, hi1, _⟩ := HRIS.out k hlt
      have HP := Lib.hid (fun W => l05Locator_any (c := c) hs hl1 (gi zs k) hi0 hi1 W)
      have hr2 := locI_el V l (gi zs k)
      have HN := Lib.hid (fun W => hs.neg (locI V.F l (gi zs k)) hr2 W)
      have HNX := Lib.hid (locP_next V l zs k (by rw [hlen.out]; exact hlt))
      have hlm : (VF.lst V (locP V l (zs.take k))).length ≤ 4096 := by have := locP_len V l (zs.take k); rw [List.length_take] at this; omega
      have hels := (VF.lst_isP (locP_poly V l (zs.take k))).els
      have he2 := els_lin1 (V := V) hr2
      obtain ⟨_, _, ea, -, hra⟩ := ho.out.shape
      simp only [Value.slice.injEq] at ea
      obtain ⟨rfl, -, -⟩ := ea
      rw [hla.out] at hra hlm
      have HRA := Lib.hid hra.row
      have HT := Lib.hid (fun W (hb : Below wr.heap.size wr W) => hs.lmul (cap := ca) (cap' := 2) ((HRA.out.below' hb).below' (below1 W (.cells #[.int .i64 1, .int .i64 (V.F.neg (locI V.F l (gi zs k)))] 2))) hlm (row_two W 1 (V.F.neg (locI V.F l (gi zs k))) 2 _ rfl) (by omega) hels he2)
      rw [HNX.out] at HT
      obtain ⟨hlx, c0, c1, c2, c3, c4⟩ := hbox.out
      clear hra hels he2 hlm hcs hi0 hi1
      generalize locI V.F l (gi zs k) = r2 at *
      generalize V.F.neg r2 = m at *
      generalize gi zs k = z at *
      go_wp2_with fail
      go_region_held3 (fun w' => w'.cell? ⟨b1, o1 + k, none⟩ = some (.int .i64 z) ∧ w'.cell? ⟨w.heap.size, 0, none⟩ = some (.int .i64 p) ∧ w'.cell? ⟨w.heap.size, 1, none⟩ = some (.int .i64 pw) ∧ w'.cell? ⟨w.heap.size, 2, none⟩ = some (.int .i64 g) ∧ w'.cell? ⟨w.heap.size, 3, none⟩ = some (.int .i64 l) ∧ w'.cell? ⟨w.heap.size, 4, none⟩ = some (.int .i64 c))
        (first | go_keep | ((try (dsimp only)); go_split_ands; (repeat' apply And.intro); all_goals (first | go_keep | exact keep_cell hbT (by assumption) | exact keep_cell hbN (by assumption) | exact keep_cell hbP (by assumption))))
        (first | (go_at_call 124; refine (HP.out _).mono ?_; rintro e w3 ⟨rfl, hbP⟩) | (go_at_call 101; refine (HN.out _).mono ?_; rintro e w4 ⟨rfl, hbN⟩; have hb4 := Below.more (Below.trans (Drew.below (drew1 wr) wr.heap.size) hbP) (Nat.le_refl _) hbN) | (go_at_call 66; refine (HT.out w4 hb4).mono ?_; rintro e w5 ⟨v, rfl, hbT, hoT⟩))
      have hb5 := Below.more (hb4.trans ((below1 w4 (.cells #[.int .i64 1, .int .i64 m] 2)).mono hb4.size)) (Nat.le_refl _) hbT
      have HB5 := Lib.hid (hbel.out.trans (hb5.mono hbel.out.size))
      have HX5 := Lib.hid (hbox.out.below hb5 hlx)
      have hs5 : w.heap.size ≤ (w4.alloc (.cells #[.int .i64 1, .int .i64 m] 2)).heap.size := by have h1 := hb4.size; have h2 := hbel.out.size; simp; omega
      obtain ⟨a5, c5, rfl, -, -, -⟩ := hoT.cap
      have HO5 := Lib.hid (hoT.lower hs5)
      clear hbP hbN hbT hoT hb4 hb5 hs5 c0 c1 c2 c3 c4
      go_wp2_with fail
      go_roundw
      case rel => exact ⟨k + 1, _, _, _, by omega, rfl, by go_num, Lib.hid rfl, HO5, HB5, HX5⟩
      case measure => simp [intOf]; omega
    · obtain rfl : k = n := by omega
      have hfin := Lib.hid (show zs.take k = zs by rw [List.take_of_length_le (by rw [hlen.out]; omega)])
      rw [hfin.out] at ho
      go_wp2_with fail
      go_ret
      exact ⟨_, rfl, hbel.out, ho.out⟩
noncomputable def locC (p pw g l c : Int) (zs : List Int) : Int := if validC p pw g l c = true then (if risB 0 (l - 1) zs = true then 0 else 5) else 1
noncomputable def locR (p pw g l c : Int) (zs : List Int) : List Int := if risB 0 (l - 1) zs = true then onC p pw g l c (fun V => VF.lst V (locP V l zs)) else []
theorem loc_bad {p pw g l c : Int} {zs : List Int} (h : validC p pw g l c = false) : locC p pw g l c zs = 1 ∧ locR p pw g l c zs = [] := by
  refine ⟨by unfold locC; rw [h]; rfl, ?_⟩
  unfold locR; split
  · exact onC_no h
  · rfl
theorem loc_state {p pw g l c : Int} {zs : List Int} (h : validC p pw g l c = true) (h2 : risB 0 (l - 1) zs = false) : locC p pw g l c zs = 5 ∧ locR p pw g l c zs = [] := by
  unfold locC locR; rw [if_pos h, if_neg (by simp [h2]), if_neg (by simp [h2])]; exact ⟨rfl, rfl⟩
theorem loc_ok {p pw g l c : Int} {zs : List Int} (h : validC p pw g l c = true) (h2 : risB 0 (l - 1) zs = true) : locC p pw g l c zs = 0 ∧ locR p pw g l c zs = onC p pw g l c (fun V => VF.lst V (locP V l zs)) := by
  unfold locC locR; rw [if_pos h, if_pos h2, if_pos h2]; exact ⟨rfl, rfl⟩
theorem locR_len (p pw g l c : Int) (zs : List Int) : (locR p pw g l c zs).length ≤ 1048576 := by
  cases h : validC p pw g l c
  · rw [(loc_bad h).2]; simp
  · cases h2 : risB 0 (l - 1) zs
    · rw [(loc_state h h2).2]; simp
    · obtain ⟨V, _, hf⟩ := validC_V h
      rw [(loc_ok h h2).2, hf]
      obtain ⟨_, _, _, _, hl, _⟩ := validC_iff h
      have h3 := ris_len (risB_iff h2) (by omega)
      have h4 := locP_len V l zs
      omega
theorem specLocatorOf_any (p pw g l c : Int) (w : World) {a : Option Addr} {n cap : Nat} {zs : List Int} (hr : RowAt w a n zs) :
    Calls Try.prog 47 #[cV p pw g l c, .slice a n cap] w fun e w' => ∃ v, e = .returned (.tuple #[v, .int .i64 (locC p pw g l c zs)]) ∧ Below w.heap.size w w' ∧ ResL w w' v (locR p pw g l c zs) := by
  have HR := Lib.hid hr
  clear hr
  go_enter Try.func47, Try.ntmps47
  go_wp2_with fail
  refine (isCode_any p pw g l c _).mono ?_
  rintro e w1 ⟨rfl, hb1⟩
  have HB := Lib.hid ((below1 w _).trans (hb1.mono (by simp)))
  have HX := Lib.hid ((boxC_new w p pw g l c CT).below hb1 (by simp))
  clear hb1
  cases h : validC p pw g l c
  · obtain ⟨f0, f1⟩ := loc_bad (zs := zs) h
    have hf0 := Lib.hid f0
    have hf1 := Lib.hid f1
    clear f0 f1
    go_wp2_with fail
    go_ret2
    exact ⟨_, by rw [hf0.out]; rfl, HB.out, by rw [hf1.out]; exact ResL.none _ _⟩
  · obtain ⟨_, _, _, h1, h2, _⟩ := validC_iff h
    have HI := Lib.hid (l05Indices_any p pw g l c (by omega) (by omega) (cap := cap) (HR.out.below' HB.out))
    obtain ⟨_, c0, c1, c2, c3, c4⟩ := HX.out
    go_wp2_with fail
    refine HI.out.mono ?_
    rintro e w2 ⟨rfl, hb2⟩
    have HB2 := Lib.hid (HB.out.trans (hb2.mono HB.out.size))
    have HX2 := Lib.hid (HX.out.below hb2 HX.out.lt)
    clear hb2 c0 c1 c2 c3 c4
    cases hri : risB 0 (l - 1) zs
    · obtain ⟨f0, f1⟩ := loc_state h hri
      have hf0 := Lib.hid f0
      have hf1 := Lib.hid f1
      clear f0 f1
      go_wp2_with fail
      go_ret2
      exact ⟨_, by rw [hf0.out]; rfl, HB2.out, by rw [hf1.out]; exact ResL.none _ _⟩
    · obtain ⟨f0, f1⟩ := loc_ok h hri
      obtain ⟨V, hs, hon⟩ := validC_V h
      have hf0 := Lib.hid f0
      have hf1 := Lib.hid (f1.trans (hon _))
      have hrl := risB_iff hri
      have hln := ris_len hrl (by omega)
      rw [HR.out.len] at hrl hln
      have HG := Lib.hid (l05Polynomial_any (c := c) hs.sf h2 (cap := cap) (HR.out.below' HB2.out) (by omega) hrl)
      obtain ⟨_, c0, c1, c2, c3, c4⟩ := HX2.out
      clear hon f0 f1 hrl hln
      go_wp2_with fail
      refine HG.out.mono ?_
      rintro e w3 ⟨v, rfl, hb3, ho3⟩
      have HB3 := Lib.hid (HB2.out.trans (hb3.mono HB2.out.size))
      have HO3 := Lib.hid (show ResL w w3 v (locR p pw g l c zs) by rw [hf1.out]; exact ho3.res HB2.out.size)
      clear hb3 ho3
      go_wp2_with fail
      go_ret2
      exact ⟨_, by rw [hf0.out]; rfl, HB3.out, HO3.out⟩
theorem implLocatorOf_any (p pw g l c : Int) (w : World) {a : Option Addr} {n cap : Nat} {zs : List Int} (hr : RowAt w a n zs) :
    Calls Try.prog 48 #[cV p pw g l c, .slice a n cap] w fun e w' => ∃ v, e = .returned (.tuple #[v, .int .i64 (locC p pw g l c zs)]) ∧ Below w.heap.size w w' ∧ ResL w w' v (locR p pw g l c zs) := by
  have HR := Lib.hid hr
  clear hr
  have ec := Lib.hid (codeC_nil p pw g l c)
  go_enter Try.func48, Try.ntmps48
  go_wp2_with fail
  refine (words_any p pw g l c _ (rows_none _ none)).mono ?_
  rintro e w1 ⟨v, rfl, hb1, hcod⟩
  rw [ec.out] at hcod ⊢
  have HB := Lib.hid ((below1 w _).trans (hb1.mono (by simp)))
  have HCOD := Lib.hid hcod
  clear hb1 hcod
  cases h : validC p pw g l c
  · have e1 : validI p pw g l c = 1 := by unfold validI; rw [h]; rfl
    have hcn : (validI p pw g l c != 0) = true := by rw [e1]; rfl
    obtain ⟨f0, f1⟩ := loc_bad (zs := zs) h
    have hf0 := Lib.hid (show locC p pw g l c zs = validI p pw g l c by rw [f0, e1])
    have hf1 := Lib.hid f1
    clear f0 f1 e1
    go_wp2_with fail
    go_ret2
    exact ⟨_, by rw [hf0.out]; rfl, HB.out, by rw [hf1.out]; exact ResL.none _ _⟩
  · have e1 : validI p pw g l c = 0 := by unfold validI; rw [h]; rfl
    have hcn : (validI p pw g l c != 0) = false := by rw [e1]; rfl
    obtain ⟨b, rfl, _, hcod⟩ := HCOD.out e1
    have HCD := Lib.hid hcod
    obtain ⟨_, _, _, h1, h2, _⟩ := validC_iff h
    have HI := Lib.hid (isIndices_any hcod (by omega) (by omega) (cap := cap) (HR.out.below' HB.out))
    clear e1 hcod
    go_wp2_with fail
    refine HI.out.mono ?_
    rintro e w2 ⟨rfl, rfl⟩
    cases hri : risB 0 (l - 1) zs
    · obtain ⟨f0, f1⟩ := loc_state h hri
      have hf0 := Lib.hid f0
      have hf1 := Lib.hid f1
      clear f0 f1
      go_wp2_with fail
      go_ret2
      exact ⟨_, by rw [hf0.out]; rfl, HB.out, by rw [hf1.out]; exact ResL.none _ _⟩
    · obtain ⟨f0, f1⟩ := loc_ok h hri
      obtain ⟨V, hs, hon⟩ := validC_V h
      have hf0 := Lib.hid f0
      have hf1 := Lib.hid (f1.trans (hon _))
      have hrl := risB_iff hri
      have hln := ris_len hrl (by omega)
      rw [HR.out.len] at hrl hln
      have HG := Lib.hid (locatorPoly_any hs.sf HCD.out h2 (cap := cap) (HR.out.below' HB.out) (by omega) hrl)
      clear hon f0 f1 hrl hln
      go_wp2_with fail
      refine HG.out.mono ?_
      rintro e w3 ⟨v, rfl, hb3, ho3⟩
      have HB3 := Lib.hid (HB.out.trans (hb3.mono HB.out.size))
      have HO3 := Lib.hid (show ResL w w3 v (locR p pw g l c zs) by rw [hf1.out]; exact ho3.res HB.out.size)
      clear hb3 ho3
      go_wp2_with fail
      go_ret2
      exact ⟨_, by rw [hf0.out]; rfl, HB3.out, HO3.out⟩
end Go.Proofs.Ytenlaoadclfmaaa
