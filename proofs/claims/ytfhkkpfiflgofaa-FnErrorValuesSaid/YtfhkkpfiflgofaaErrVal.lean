/-
  The walks of the two ErrorValues.
-/
import Derived.Test.YtfhkkpfiflgofaaValues
import Derived.Test.YtfhkkpfiflgofaaRoots
namespace Go.Proofs.Ytfhkkpfiflgofaa
open Go.RowKit
set_option linter.unusedVariables false

open Classical in
noncomputable def evB (p pw g l c : Int) (S idx : List Int) : Bool := decide (onC p pw g l c (fun V => if valB V l c.toNat S idx = true then [1] else []) = [1])
open Classical in
noncomputable def evC (p pw g l c : Int) (S idx : List Int) : Int :=
  if validC p pw g l c = true then (if (S.length : Int) = c ∧ allB (ffOf p pw g) S = true then (if risB 0 (l - 1) idx = true then (if (idx.length : Int) ≤ c then (if evB p pw g l c S idx = true then 0 else 7) else 3) else 5) else 2) else 1
noncomputable def evR (p pw g l c : Int) (S idx : List Int) : List Int := if evC p pw g l c S idx = 0 then onC p pw g l c (fun V => valsL V l c.toNat S idx) else []
theorem evR_no {p pw g l c : Int} {S idx : List Int} (h : ¬ evC p pw g l c S idx = 0) : evR p pw g l c S idx = [] := by unfold evR; rw [if_neg h]
section
variable {p pw g l c : Int} {S idx : List Int}
theorem ev_bad (h : validC p pw g l c = false) : evC p pw g l c S idx = 1 ∧ evR p pw g l c S idx = [] := by
  have : evC p pw g l c S idx = 1 := by unfold evC; rw [if_neg (by simp [h])]
  exact ⟨this, evR_no (by omega)⟩
theorem ev_range (h : validC p pw g l c = true) (h2 : ¬ ((S.length : Int) = c ∧ allB (ffOf p pw g) S = true)) : evC p pw g l c S idx = 2 ∧ evR p pw g l c S idx = [] := by
  have : evC p pw g l c S idx = 2 := by unfold evC; rw [if_pos h, if_neg h2]
  exact ⟨this, evR_no (by omega)⟩
theorem ev_state (h : validC p pw g l c = true) (h2 : (S.length : Int) = c ∧ allB (ffOf p pw g) S = true) (h3 : risB 0 (l - 1) idx = false) : evC p pw g l c S idx = 5 ∧ evR p pw g l c S idx = [] := by
  have : evC p pw g l c S idx = 5 := by unfold evC; rw [if_pos h, if_pos h2, if_neg (by simp [h3])]
  exact ⟨this, evR_no (by omega)⟩
theorem ev_limit (h : validC p pw g l c = true) (h2 : (S.length : Int) = c ∧ allB (ffOf p pw g) S = true) (h3 : risB 0 (l - 1) idx = true) (h4 : ¬ (idx.length : Int) ≤ c) : evC p pw g l c S idx = 3 ∧ evR p pw g l c S idx = [] := by
  have : evC p pw g l c S idx = 3 := by unfold evC; rw [if_pos h, if_pos h2, if_pos h3, if_neg h4]
  exact ⟨this, evR_no (by omega)⟩
theorem ev_V (h : validC p pw g l c = true) (h2 : (S.length : Int) = c ∧ allB (ffOf p pw g) S = true) (h3 : risB 0 (l - 1) idx = true) (h4 : (idx.length : Int) ≤ c) : ∃ V : VF, SC V p pw g l c ∧ VF.els V S ∧
    (valB V l c.toNat S idx = true → evC p pw g l c S idx = 0 ∧ evR p pw g l c S idx = valsL V l c.toNat S idx) ∧ (valB V l c.toNat S idx = false → evC p pw g l c S idx = 7 ∧ evR p pw g l c S idx = []) := by
  obtain ⟨V, hs, hon⟩ := validC_V h
  have hb : evB p pw g l c S idx = valB V l c.toNat S idx := by
    unfold evB; rw [hon]
    cases valB V l c.toNat S idx <;> simp
  refine ⟨V, hs, fun z hz => by rw [hs.sf.hV]; exact allB_iff.1 h2.2 z hz, fun hr => ?_, fun hr => ?_⟩
  · have h0 : evC p pw g l c S idx = 0 := by unfold evC; rw [if_pos h, if_pos h2, if_pos h3, if_pos h4, if_pos (hb.trans hr)]
    exact ⟨h0, by unfold evR; rw [if_pos h0, hon]⟩
  · have h0 : evC p pw g l c S idx = 7 := by unfold evC; rw [if_pos h, if_pos h2, if_pos h3, if_pos h4, if_neg (by rw [hb, hr]; simp)]
    exact ⟨h0, evR_no (by omega)⟩
theorem evR_len (p pw g l c : Int) (S idx : List Int) : (evR p pw g l c S idx).length ≤ 1048576 := by
  by_cases h0 : evC p pw g l c S idx = 0
  · unfold evR
    rw [if_pos h0]
    cases h : validC p pw g l c
    · rw [onC_no h]; simp
    · obtain ⟨V, _, hf⟩ := validC_V h
      rw [hf]
      obtain ⟨_, _, hc, _⟩ := validC_iff h
      have : (idx.length : Int) ≤ c := by
        apply Classical.byContradiction; intro h4
        unfold evC at h0
        simp only [if_pos h, if_neg h4] at h0
        split at h0
        · split at h0 <;> omega
        · omega
      unfold valsL; rw [List.length_map]; omega
  · rw [evR_no h0]; simp
end
set_option maxHeartbeats 1000000 in
theorem implErrorValues_any (p pw g l c : Int) (w : World) {a : Option Addr} {n cap : Nat} {S : List Int} (hr : RowAt w a n S) {a' : Option Addr} {n' cap' : Nat} {idx : List Int} (hr' : RowAt w a' n' idx) :
    Calls Try.prog 26 #[cV p pw g l c, .slice a n cap, .slice a' n' cap'] w fun e w' => ∃ v, e = .returned (.tuple #[v, .int .i64 (evC p pw g l c S idx)]) ∧ Below w.heap.size w w' ∧ ResL w w' v (evR p pw g l c S idx) := by
  have HR := Lib.hid hr
  have HR' := Lib.hid hr'
  have hl := Lib.hid hr.len
  have hl' := Lib.hid hr'.len
  have hsm := hr.small
  have hsm' := hr'.small
  clear hr hr'
  have ec := Lib.hid (codeC_nil p pw g l c)
  go_enter Try.func26, Try.ntmps26
  go_wp2_with fail
  refine (words_any p pw g l c _ (rows_none _ none)).mono ?_
  rintro e w1 ⟨v, rfl, hb1, hcod⟩
  rw [ec.out] at hcod ⊢
  have HB := Lib.hid ((below1 w _).trans (hb1.mono (by simp)))
  have HCOD := Lib.hid hcod
  clear hb1 hcod
  cases h : validC p pw g l c
  · have e1 : validI p pw g l c = 1 := by unfold validI; rw [h]; rfl
    have hcn : (validI p pw g l c != 0) = true := by rw [e1]; rfl
    obtain ⟨f0, f1⟩ := ev_bad (S := S) (idx := idx) h
    have hf0 := Lib.hid (show evC p pw g l c S idx = validI p pw g l c by rw [f0, e1])
    have hf1 := Lib.hid f1
    clear f0 f1 e1
    go_wp2_with fail
    go_ret2
    exact ⟨_, by rw [hf0.out]; rfl, HB.out, by rw [hf1.out]; exact ResL.none _ _⟩
  have e1 : validI p pw g l c = 0 := by unfold validI; rw [h]; rfl
  have hcn : (validI p pw g l c != 0) = false := by rw [e1]; rfl
  obtain ⟨b, rfl, _, hcod⟩ := HCOD.out e1
  have HCD := Lib.hid hcod
  obtain ⟨_, hc1, hc2, hcl, hl1, _⟩ := validC_iff h
  obtain ⟨bc, hc0, hcal⟩ := hcod.cal
  have HA := Lib.hid (hasAll_any hcal (cap := cap) (HR.out.below' HB.out))
  have HI := Lib.hid (isIndices_any hcod (by omega) hl1 (cap := cap') (HR'.out.below' HB.out))
  have hk0 := hcod.chk
  clear e1 hcod hcal HCOD
  by_cases hn : (n : Int) = c
  rotate_left
  · obtain ⟨f0, f1⟩ := ev_range (S := S) (idx := idx) h (fun x => hn (by rw [← hl.out]; exact x.1))
    have hf0 := Lib.hid f0
    have hf1 := Lib.hid f1
    have hn' : ((n : Int) != c) = true := by simp; omega
    clear f0 f1
    go_wp2_with fail
    go_ret2
    exact ⟨_, by rw [hf0.out]; rfl, HB.out, by rw [hf1.out]; exact ResL.none _ _⟩
  have hn' : ((n : Int) != c) = false := by simp; omega
  have HN := Lib.hid hn
  clear hn
  cases hal : allB (ffOf p pw g) S
  · obtain ⟨f0, f1⟩ := ev_range (S := S) (idx := idx) h (fun x => by rw [hal] at x; cases x.2)
    have hf0 := Lib.hid f0
    have hf1 := Lib.hid f1
    rw [hal] at HA
    clear f0 f1
    go_wp2_with fail
    refine HA.out.mono ?_
    rintro e w2 ⟨rfl, rfl⟩
    go_wp2_with fail
    go_ret2
    exact ⟨_, by rw [hf0.out]; rfl, HB.out, by rw [hf1.out]; exact ResL.none _ _⟩
  rw [hal] at HA
  have HS2 := Lib.hid (show (S.length : Int) = c ∧ allB (ffOf p pw g) S = true from ⟨by rw [hl.out]; exact HN.out, hal⟩)
  clear hal
  go_wp2_with fail
  refine HA.out.mono ?_
  rintro e w2 ⟨rfl, rfl⟩
  go_wp2_with fail
  refine HI.out.mono ?_
  rintro e w2 ⟨rfl, rfl⟩
  cases hri : risB 0 (l - 1) idx
  · obtain ⟨f0, f1⟩ := ev_state (idx := idx) h HS2.out hri
    have hf0 := Lib.hid f0
    have hf1 := Lib.hid f1
    clear f0 f1
    go_wp2_with fail
    go_ret2
    exact ⟨_, by rw [hf0.out]; rfl, HB.out, by rw [hf1.out]; exact ResL.none _ _⟩
  by_cases hlim : (n' : Int) ≤ c
  rotate_left
  · obtain ⟨f0, f1⟩ := ev_limit (idx := idx) h HS2.out hri (by rw [hl'.out]; exact hlim)
    have hf0 := Lib.hid f0
    have hf1 := Lib.hid f1
    have hlim' : c < (n' : Int) := by omega
    clear f0 f1
    go_wp2_with fail
    go_ret2
    exact ⟨_, by rw [hf0.out]; rfl, HB.out, by rw [hf1.out]; exact ResL.none _ _⟩
  have hlim' : ¬ c < (n' : Int) := by omega
  obtain ⟨V, hs, hz, hyes, hno⟩ := ev_V (idx := idx) h HS2.out hri (by rw [hl'.out]; exact hlim)
  have hrl := risB_iff hri
  rw [hl'.out] at hrl
  obtain ⟨L, rfl⟩ : ∃ L : Nat, l = (L : Int) := ⟨l.toNat, by omega⟩
  have hcn2 : c.toNat = n := by have := HN.out; omega
  rw [hcn2] at hyes hno
  have HYES := Lib.hid hyes
  have HNO := Lib.hid hno
  have HV := Lib.hid (values_any hs HCD.out (cap := cap) (HR.out.below' HB.out) hz HN.out (cap' := cap') (HR'.out.below' HB.out) hrl (by have := HN.out; omega))
  clear hyes hno hz hrl hcn2 hri
  go_wp2_with fail
  refine HV.out.mono ?_
  rintro e w3 ⟨v3, rfl, hb3, ho3⟩
  have HB3 := Lib.hid (HB.out.trans (hb3.mono HB.out.size))
  have HO3 := Lib.hid (ho3.res (w := w) HB.out.size)
  clear hb3 ho3 HV
  cases hvb : valB V L n S idx
  · have f := HNO.out hvb
    have hf0 := Lib.hid f.1
    have hf1 := Lib.hid f.2
    clear f
    go_wp2_with fail
    go_ret2
    exact ⟨_, by rw [hf0.out]; rfl, HB3.out, by rw [hf1.out]; exact ResL.none _ _⟩
  · have f := HYES.out hvb
    have hf0 := Lib.hid f.1
    have hf1 := Lib.hid f.2
    rw [valR_yes hvb] at HO3
    clear f
    go_wp2_with fail
    go_ret2
    exact ⟨_, by rw [hf0.out]; rfl, HB3.out, by rw [hf1.out]; exact HO3.out⟩
set_option maxHeartbeats 1000000 in
theorem specErrorValues_any (p pw g l c : Int) (w : World) {a : Option Addr} {n cap : Nat} {S : List Int} (hr : RowAt w a n S) (hca : a = none → cap = 0) (hcap : n ≤ cap) {a' : Option Addr} {n' cap' : Nat} {idx : List Int} (hr' : RowAt w a' n' idx) :
    Calls Try.prog 27 #[cV p pw g l c, .slice a n cap, .slice a' n' cap'] w fun e w' => ∃ v, e = .returned (.tuple #[v, .int .i64 (evC p pw g l c S idx)]) ∧ Below w.heap.size w w' ∧ ResL w w' v (evR p pw g l c S idx) := by
  have HR := Lib.hid hr
  have HR' := Lib.hid hr'
  have HCA := Lib.hid hca
  have HCP := Lib.hid hcap
  have hl := Lib.hid hr.len
  have hl' := Lib.hid hr'.len
  have hsm := hr.small
  have hsm' := hr'.small
  clear hr hr' hca hcap
  go_enter Try.func27, Try.ntmps27
  go_wp2_with fail
  refine (isCode_any p pw g l c _).mono ?_
  rintro e w1 ⟨rfl, hb1⟩
  have HB := Lib.hid ((below1 w _).trans (hb1.mono (by simp)))
  have HX := Lib.hid ((boxC_new w p pw g l c CT).below hb1 (by simp))
  clear hb1
  cases h : validC p pw g l c
  · obtain ⟨f0, f1⟩ := ev_bad (S := S) (idx := idx) h
    have hf0 := Lib.hid f0
    have hf1 := Lib.hid f1
    clear f0 f1
    go_wp2_with fail
    go_ret2
    exact ⟨_, by rw [hf0.out]; rfl, HB.out, by rw [hf1.out]; exact ResL.none _ _⟩
  obtain ⟨hv, hc1, hc2, hcl, hl1, _⟩ := validC_iff h
  have HVB := Lib.hid hv
  obtain ⟨_, c0, c1, c2, c3, c4⟩ := HX.out
  have HA := Lib.hid (l02Is_any p pw g (ranged_of hv) w1 (cap := cap) (HR.out.below' HB.out))
  clear hv
  by_cases hn : (n : Int) = c
  rotate_left
  · obtain ⟨f0, f1⟩ := ev_range (S := S) (idx := idx) h (fun x => hn (by rw [← hl.out]; exact x.1))
    have hf0 := Lib.hid f0
    have hf1 := Lib.hid f1
    have hn' : ((n : Int) != c) = true := by simp; omega
    clear f0 f1
    go_wp2_with fail
    go_ret2
    exact ⟨_, by rw [hf0.out]; rfl, HB.out, by rw [hf1.out]; exact ResL.none _ _⟩
  have hn' : ((n : Int) != c) = false := by simp; omega
  have HN := Lib.hid hn
  clear hn
  go_wp2_with fail
  refine HA.out.mono ?_
  rintro e w2 ⟨rfl, hb2⟩
  have HB2 := Lib.hid (HB.out.trans (hb2.mono HB.out.size))
  have HX2 := Lib.hid (HX.out.below hb2 HX.out.lt)
  clear hb2 c0 c1 c2 c3 c4
  cases hal : allB (ffOf p pw g) S
  · obtain ⟨f0, f1⟩ := ev_range (S := S) (idx := idx) h (fun x => by rw [hal] at x; cases x.2)
    have hf0 := Lib.hid f0
    have hf1 := Lib.hid f1
    clear f0 f1
    go_wp2_with fail
    go_ret2
    exact ⟨_, by rw [hf0.out]; rfl, HB2.out, by rw [hf1.out]; exact ResL.none _ _⟩
  have HS2 := Lib.hid (show (S.length : Int) = c ∧ allB (ffOf p pw g) S = true from ⟨by rw [hl.out]; exact HN.out, hal⟩)
  have HI := Lib.hid (l05Indices_any p pw g l c (by omega) hl1 (cap := cap') (HR'.out.below' HB2.out))
  obtain ⟨_, c0, c1, c2, c3, c4⟩ := HX2.out
  clear hal
  go_wp2_with fail
  refine HI.out.mono ?_
  rintro e w3 ⟨rfl, hb3⟩
  have HB3 := Lib.hid (HB2.out.trans (hb3.mono HB2.out.size))
  have HX3 := Lib.hid (HX2.out.below hb3 HX2.out.lt)
  clear hb3 c0 c1 c2 c3 c4
  cases hri : risB 0 (l - 1) idx
  · obtain ⟨f0, f1⟩ := ev_state (idx := idx) h HS2.out hri
    have hf0 := Lib.hid f0
    have hf1 := Lib.hid f1
    clear f0 f1
    go_wp2_with fail
    go_ret2
    exact ⟨_, by rw [hf0.out]; rfl, HB3.out, by rw [hf1.out]; exact ResL.none _ _⟩
  obtain ⟨_, c0, c1, c2, c3, c4⟩ := HX3.out
  by_cases hlim : (n' : Int) ≤ c
  rotate_left
  · obtain ⟨f0, f1⟩ := ev_limit (idx := idx) h HS2.out hri (by rw [hl'.out]; exact hlim)
    have hf0 := Lib.hid f0
    have hf1 := Lib.hid f1
    have hlim' : c < (n' : Int) := by omega
    clear f0 f1
    go_wp2_with fail
    go_ret2
    exact ⟨_, by rw [hf0.out]; rfl, HB3.out, by rw [hf1.out]; exact ResL.none _ _⟩
  have hlim' : ¬ c < (n' : Int) := by omega
  obtain ⟨V, hs, hz, hyes, hno⟩ := ev_V (idx := idx) h HS2.out hri (by rw [hl'.out]; exact hlim)
  have hrl := risB_iff hri
  rw [hl'.out] at hrl
  obtain ⟨L, rfl⟩ : ∃ L : Nat, l = (L : Int) := ⟨l.toNat, by omega⟩
  have hcn2 : c.toNat = n := by have := HN.out; omega
  rw [hcn2] at hyes hno
  have HYES := Lib.hid hyes
  have HNO := Lib.hid hno
  have HRL := Lib.hid hrl
  have HV := Lib.hid (l05Values_any hs (cap := cap) (HR.out.below' HB3.out) HCP.out HCA.out hz HN.out (cap' := cap') (HR'.out.below' HB3.out) hrl)
  have HVE := Lib.hid (valsL_els V (L : Int) n S idx)
  have HVLN := Lib.hid (show (valsL V (L : Int) n S idx).length = n' by unfold valsL; rw [List.length_map, hl'.out])
  have HVB2 := Lib.hid (show valB V (L : Int) n S idx = decide (syn V.F (spread L idx (valsL V (L : Int) n S idx)) n = S) from rfl)
  clear hyes hno hz hrl hcn2 hri
  generalize valsL V (L : Int) n S idx = vl at *
  go_wp2_with fail
  refine HV.out.mono ?_
  rintro e w4 ⟨v4, rfl, hb4, ho4⟩
  have HB4 := Lib.hid (HB3.out.trans (hb4.mono HB3.out.size))
  have HX4 := Lib.hid (HX3.out.below hb4 HX3.out.lt)
  obtain ⟨a4, c4', rfl, -, h4⟩ := ho4.shape
  rw [HVLN.out] at h4 ⊢
  have HO4 := Lib.hid ho4
  have HR4 := Lib.hid h4.row
  clear hb4 ho4 h4 c0 c1 c2 c3 c4 HV
  have HSP := Lib.hid (fun W (hb : Below w4.heap.size w4 W) => l05Spread_any p pw g c L (by omega) (cap := cap') ((HR'.out.below' HB4.out).below' hb) (cap' := c4') (HR4.out.below' hb) (Nat.le_refl _) HRL.out)
  have hspl : (spread L idx vl).length = L := spTo_length L idx vl _
  have HSY := Lib.hid (fun W (a5 : Option Addr) (c5 : Nat) (h5 : RowAt W a5 L (spread L idx vl)) => l04Syndromes_any p pw g L c (by omega) hc2 HVB.out W (cap := c5) h5 (by rw [← hs.sf.hV]; exact spTo_els HVE.out _))
  rw [← hs.sf.hV] at HSY
  rw [show c.toNat = n by have := HN.out; omega] at HSY
  have hsyl := syn_length V.F (spread L idx vl) n
  have HSM := Lib.hid (fun W (a6 : Option Addr) (c6 : Nat) (h6 : RowAt W a6 n (syn V.F (spread L idx vl) n)) (hs6 : RowAt W a n S) => l05Same_any W (cap := c6) (cap' := cap) h6 hs6)
  rw [← HVB2.out] at HSM
  obtain ⟨_, c0, c1, c2, c3, c4⟩ := HX4.out
  have HSPL := Lib.hid hspl
  have HSYL := Lib.hid hsyl
  clear hspl hsyl
  generalize syn V.F (spread L idx vl) n = sy at *
  generalize spread L idx vl = sp at *
  go_wp2_with fail
  go_region_held3 (fun w' => w'.cell? ⟨w.heap.size, 0, none⟩ = some (.int .i64 p) ∧ w'.cell? ⟨w.heap.size, 1, none⟩ = some (.int .i64 pw) ∧ w'.cell? ⟨w.heap.size, 2, none⟩ = some (.int .i64 g) ∧ w'.cell? ⟨w.heap.size, 3, none⟩ = some (.int .i64 (L : Int)) ∧ w'.cell? ⟨w.heap.size, 4, none⟩ = some (.int .i64 c))
    (first | go_keep | ((try (dsimp only)); go_split_ands; (repeat' apply And.intro); all_goals (first | go_keep | exact keep_cell (hbQ.below _) (by assumption) | exact keep_cell hbY (by assumption) | exact keep_cell hbS (by assumption))))
    (first | (go_at_call 81; refine (HSP.out _ (Drew.below (drew1 w4) _)).mono ?_; rintro e w5 ⟨v5, rfl, hbS, hoS⟩; have hb5 := Below.more (Drew.below (drew1 w4) w4.heap.size) (Nat.le_refl _) hbS; obtain ⟨a5, c5, rfl, -, h5⟩ := hoS.shape; rw [HSPL.out] at h5 ⊢) | (go_at_call 80; refine (HSY.out w5 a5 c5 h5.row).mono ?_; rintro e w6 ⟨v6, rfl, hbY, hoY⟩; have hb6 := Below.more hb5 (Nat.le_refl _) hbY; obtain ⟨a6, c6, rfl, -, h6⟩ := hoY; rw [HSYL.out] at h6 ⊢) | (go_at_call 87; refine (HSM.out w6 a6 c6 h6.row ((HR.out.below' HB4.out).below' hb6)).mono ?_; rintro e w7 ⟨rfl, hbQ⟩))
  have hb7 := Below.more hb6 (Nat.le_refl _) (hbQ.below _)
  have HB7 := Lib.hid (HB4.out.trans (hb7.mono HB4.out.size))
  have HO7 := Lib.hid ((HO4.out.below hb7).res (w := w) HB3.out.size)
  clear hbS hoS hbY hbQ hb5 hb6 hb7 h5 h6 c0 c1 c2 c3 c4 HSP HSY HSM
  cases hvb : valB V L n S idx
  · have f := HNO.out hvb
    have hf0 := Lib.hid f.1
    have hf1 := Lib.hid f.2
    clear f
    go_wp2_with fail
    go_ret2
    exact ⟨_, by rw [hf0.out]; rfl, HB7.out, by rw [hf1.out]; exact ResL.none _ _⟩
  · have f := HYES.out hvb
    have hf0 := Lib.hid f.1
    have hf1 := Lib.hid f.2
    clear f
    rw [HVLN.out] at HO7
    go_wp2_with fail
    go_ret2
    exact ⟨_, by rw [hf0.out]; rfl, HB7.out, by rw [hf1.out]; exact HO7.out⟩
end Go.Proofs.Ytfhkkpfiflgofaa
