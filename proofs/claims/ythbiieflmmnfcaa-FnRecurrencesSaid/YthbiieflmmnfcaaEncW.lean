/-
  The parts EncW, EncO.
-/
import Derived.Test.YthbiieflmmnfcaaEnc
/-
  The walks of the two EncodeWord.
-/
namespace Go.Proofs.Ythbiieflmmnfcaa
open Go.RowKit
set_option linter.unusedVariables false

open Classical in
noncomputable def encC (p pw g l c : Int) (zs : List Int) : Int := if validC p pw g l c = true then (if (zs.length : Int) = l - c ∧ allB (ffOf p pw g) zs = true then 0 else 2) else 1
noncomputable def encWR (p pw g l c : Int) (zs : List Int) : List Int := if encC p pw g l c zs = 0 then onC p pw g l c (fun V => encL V l.toNat c.toNat zs) else []
theorem encWR_no {p pw g l c : Int} {zs : List Int} (h : ¬ encC p pw g l c zs = 0) : encWR p pw g l c zs = [] := by unfold encWR; rw [if_neg h]
theorem enc_bad {p pw g l c : Int} {zs : List Int} (h : validC p pw g l c = false) : encC p pw g l c zs = 1 ∧ encWR p pw g l c zs = [] := by
  have : encC p pw g l c zs = 1 := by unfold encC; rw [if_neg (by simp [h])]
  exact ⟨this, encWR_no (by omega)⟩
theorem enc_range {p pw g l c : Int} {zs : List Int} (h : validC p pw g l c = true) (h2 : ¬ ((zs.length : Int) = l - c ∧ allB (ffOf p pw g) zs = true)) : encC p pw g l c zs = 2 ∧ encWR p pw g l c zs = [] := by
  have : encC p pw g l c zs = 2 := by unfold encC; rw [if_pos h, if_neg h2]
  exact ⟨this, encWR_no (by omega)⟩
theorem enc_ok {p pw g l c : Int} {zs : List Int} (h : validC p pw g l c = true) (h2 : (zs.length : Int) = l - c) (h3 : allB (ffOf p pw g) zs = true) : ∃ V : VF, SC V p pw g l c ∧ VF.els V zs ∧ encC p pw g l c zs = 0 ∧ encWR p pw g l c zs = encL V l.toNat c.toNat zs := by
  obtain ⟨V, hs, hon⟩ := validC_V h
  have h0 : encC p pw g l c zs = 0 := by unfold encC; rw [if_pos h, if_pos ⟨h2, h3⟩]
  exact ⟨V, hs, fun z hz => by rw [hs.sf.hV]; exact allB_iff.1 h3 z hz, h0, by unfold encWR; rw [if_pos h0, hon]⟩
theorem encL_length (V : VF) (L c : Nat) (zs : List Int) : (encL V L c zs).length = zs.length + c := by unfold encL; rw [List.length_append, chkTo_length]
theorem encWR_len (p pw g l c : Int) (zs : List Int) : (encWR p pw g l c zs).length ≤ 1048576 := by
  cases h : validC p pw g l c
  · rw [(enc_bad h).2]; simp
  · by_cases h2 : (zs.length : Int) = l - c ∧ allB (ffOf p pw g) zs = true
    · obtain ⟨V, _, _, _, e⟩ := enc_ok h h2.1 h2.2
      obtain ⟨_, _, _, _, hl, _⟩ := validC_iff h
      rw [e, encL_length]; omega
    · rw [(enc_range h h2).2]; simp
theorem implEncodeWord_any (p pw g l c : Int) (w : World) {a : Option Addr} {n cap : Nat} {zs : List Int} (hr : RowAt w a n zs) (hca : a = none → cap = 0) :
    Calls Try.prog 25 #[cV p pw g l c, .slice a n cap] w fun e w' => ∃ v, e = .returned (.tuple #[v, .int .i64 (encC p pw g l c zs)]) ∧ Below w.heap.size w w' ∧ ResL w w' v (encWR p pw g l c zs) := by
  have HR := Lib.hid hr
  have HCA := Lib.hid hca
  have hl := Lib.hid hr.len
  have hsm := hr.small
  clear hr hca
  have ec := Lib.hid (codeC_nil p pw g l c)
  go_enter Try.func25, Try.ntmps25
  go_wp2_with fail
  refine (words_any p pw g l c _ (rows_none _ none)).mono ?_
  rintro e w1 ⟨v, rfl, hb1, hcod⟩
  rw [ec.out] at hcod ⊢
  have HB := Lib.hid ((below1 w _).trans (hb1.mono (by simp)))
  have HCOD := Lib.hid hcod
  clear hb1 hcod
  cases h : validC p pw g l c
  · have e1 : validI p pw g l c = 1 := by unfold validI; rw [h]; rfl
    have hcn : (validI p pw g l c != 0) = true := by rw [e1]; rfl
    obtain ⟨f0, f1⟩ := enc_bad (zs := zs) h
    have hf0 := Lib.hid (show encC p pw g l c zs = validI p pw g l c by rw [f0, e1])
    have hf1 := Lib.hid f1
    clear f0 f1 e1
    go_wp2_with fail
    go_ret2
    exact ⟨_, by rw [hf0.out]; rfl, HB.out, by rw [hf1.out]; exact ResL.none _ _⟩
  have e1 : validI p pw g l c = 0 := by unfold validI; rw [h]; rfl
  have hcn : (validI p pw g l c != 0) = false := by rw [e1]; rfl
  obtain ⟨b, rfl, _, hcod⟩ := HCOD.out e1
  have HCD := Lib.hid hcod
  obtain ⟨_, hc1, hc2, hcl, hl1, _⟩ := validC_iff h
  obtain ⟨bc, hc0, hcal⟩ := hcod.cal
  have HA := Lib.hid (fun q => hasAll_any (hcal.drewN q) (cap := cap) ((Drew.more (Drew.refl w1) q).row (HR.out.below' HB.out)))
  have hl0 := hcod.len
  have hk0 := hcod.chk
  clear e1 hcod hcal HCOD
  by_cases hn : (n : Int) = l - c
  rotate_left
  · obtain ⟨f0, f1⟩ := enc_range (zs := zs) h (fun x => hn (by rw [← hl.out]; exact x.1))
    have hf0 := Lib.hid f0
    have hf1 := Lib.hid f1
    have hn' : ((n : Int) != l - c) = true := by simp; omega
    have q1 : IntKind.i64.wrap (l - c) = l - c := IntWalk.i64_in _ (by omega)
    clear f0 f1
    go_wp2_with fail
    go_quiet (fail)
    go_wp2_with fail
    go_ret2
    exact ⟨_, by rw [hf0.out]; rfl, HB.out.trans ((Drew.below (drew4 _ _) _).mono HB.out.size), by rw [hf1.out]; exact ResL.none _ _⟩
  have hn' : ((n : Int) != l - c) = false := by simp; omega
  have q1 : IntKind.i64.wrap (l - c) = l - c := IntWalk.i64_in _ (by omega)
  have HN := Lib.hid hn
  clear hn
  cases hal : allB (ffOf p pw g) zs
  · obtain ⟨f0, f1⟩ := enc_range (zs := zs) h (fun x => by rw [hal] at x; cases x.2)
    have hf0 := Lib.hid f0
    have hf1 := Lib.hid f1
    rw [hal] at HA
    clear f0 f1
    go_wp2_with fail
    go_quiet (first | (go_at_call 74; exact Calls.quiet_of_same ((HA.out _).mono fun e w' h => ⟨h.1, h.2.symm⟩)))
    go_wp2_with fail
    go_ret2
    exact ⟨_, by rw [hf0.out]; rfl, HB.out.trans ((Drew.below (drew4 _ _) _).mono HB.out.size), by rw [hf1.out]; exact ResL.none _ _⟩
  · rw [hal] at HA
    obtain ⟨V, hs, hz, f0, f1⟩ := enc_ok h (by rw [hl.out]; exact HN.out) hal
    have hf0 := Lib.hid f0
    have hf1 := Lib.hid f1
    have HE := Lib.hid (fun q => encode_any hs (w := w1.drewN q) (HCD.out.below (Drew.below (drew4 w1 q) _)) (cap := cap) ((HR.out.below' HB.out).below' (Drew.below (drew4 w1 q) _)) HCA.out hz HN.out)
    clear f0 f1 hz
    go_wp2_with fail
    go_quiet (first | (go_at_call 74; exact Calls.quiet_of_same ((HA.out _).mono fun e w' h => ⟨h.1, h.2.symm⟩)))
    go_wp2_with fail
    refine (HE.out _).mono ?_
    rintro e w3 ⟨v3, rfl, hb3, ho3⟩
    have hb3' : Below w1.heap.size w1 w3 := Below.more (Drew.below (drew4 w1 _) w1.heap.size) (Nat.le_refl _) hb3
    have HB3 := Lib.hid (HB.out.trans (hb3'.mono HB.out.size))
    have HO3 := Lib.hid ((ho3.lower (C := w1.heap.size) (Nat.le_refl _)).res (w := w) HB.out.size)
    clear hb3 hb3' ho3
    go_wp2_with fail
    go_ret2
    exact ⟨_, by rw [hf0.out]; rfl, HB3.out, by rw [hf1.out]; exact HO3.out⟩
theorem specEncodeWord_any (p pw g l c : Int) (w : World) {a : Option Addr} {n cap : Nat} {zs : List Int} (hr : RowAt w a n zs) (hca : a = none → cap = 0) :
    Calls Try.prog 24 #[cV p pw g l c, .slice a n cap] w fun e w' => ∃ v, e = .returned (.tuple #[v, .int .i64 (encC p pw g l c zs)]) ∧ Below w.heap.size w w' ∧ ResL w w' v (encWR p pw g l c zs) := by
  have HR := Lib.hid hr
  have HCA := Lib.hid hca
  have hl := Lib.hid hr.len
  have hsm := hr.small
  clear hr hca
  go_enter Try.func24, Try.ntmps24
  go_wp2_with fail
  refine (isCode_any p pw g l c _).mono ?_
  rintro e w1 ⟨rfl, hb1⟩
  have HB := Lib.hid ((below1 w _).trans (hb1.mono (by simp)))
  have HX := Lib.hid ((boxC_new w p pw g l c CT).below hb1 (by simp))
  clear hb1
  cases h : validC p pw g l c
  · obtain ⟨f0, f1⟩ := enc_bad (zs := zs) h
    have hf0 := Lib.hid f0
    have hf1 := Lib.hid f1
    clear f0 f1
    go_wp2_with fail
    go_ret2
    exact ⟨_, by rw [hf0.out]; rfl, HB.out, by rw [hf1.out]; exact ResL.none _ _⟩
  obtain ⟨hv, hc1, hc2, hcl, hl1, _⟩ := validC_iff h
  obtain ⟨_, c0, c1, c2, c3, c4⟩ := HX.out
  have HI := Lib.hid (l02Is_any p pw g (ranged_of hv) w1 (cap := cap) (HR.out.below' HB.out))
  clear hv
  have q1 : IntKind.i64.wrap (l - c) = l - c := IntWalk.i64_in _ (by omega)
  by_cases hn : (n : Int) = l - c
  rotate_left
  · obtain ⟨f0, f1⟩ := enc_range (zs := zs) h (fun x => hn (by rw [← hl.out]; exact x.1))
    have hf0 := Lib.hid f0
    have hf1 := Lib.hid f1
    have hn' : ((n : Int) != l - c) = true := by simp; omega
    clear f0 f1
    go_wp2_with fail
    go_ret2
    exact ⟨_, by rw [hf0.out]; rfl, HB.out, by rw [hf1.out]; exact ResL.none _ _⟩
  have hn' : ((n : Int) != l - c) = false := by simp; omega
  have HN := Lib.hid hn
  clear hn
  go_wp2_with fail
  refine HI.out.mono ?_
  rintro e w2 ⟨rfl, hb2⟩
  have HB2 := Lib.hid (HB.out.trans (hb2.mono HB.out.size))
  have HX2 := Lib.hid (HX.out.below hb2 HX.out.lt)
  clear hb2 c0 c1 c2 c3 c4
  cases hal : allB (ffOf p pw g) zs
  · obtain ⟨f0, f1⟩ := enc_range (zs := zs) h (fun x => by rw [hal] at x; cases x.2)
    have hf0 := Lib.hid f0
    have hf1 := Lib.hid f1
    clear f0 f1
    go_wp2_with fail
    go_ret2
    exact ⟨_, by rw [hf0.out]; rfl, HB2.out, by rw [hf1.out]; exact ResL.none _ _⟩
  · obtain ⟨V, hs, hz, f0, f1⟩ := enc_ok h (by rw [hl.out]; exact HN.out) hal
    have hf0 := Lib.hid f0
    have hf1 := Lib.hid f1
    have HE := Lib.hid (l04Encode_any hs (cap := cap) (HR.out.below' HB2.out) HCA.out hz HN.out)
    obtain ⟨_, c0, c1, c2, c3, c4⟩ := HX2.out
    clear f0 f1 hz
    go_wp2_with fail
    refine HE.out.mono ?_
    rintro e w3 ⟨v3, rfl, hb3, ho3⟩
    have HB3 := Lib.hid (HB2.out.trans (hb3.mono HB2.out.size))
    have HO3 := Lib.hid (ho3.res (w := w) HB2.out.size)
    clear hb3 ho3
    go_wp2_with fail
    go_ret2
    exact ⟨_, by rw [hf0.out]; rfl, HB3.out, by rw [hf1.out]; exact HO3.out⟩
end Go.Proofs.Ythbiieflmmnfcaa
/-
  The reference's encoded word: a row of the call's own.
-/
namespace Go.Proofs.Ythbiieflmmnfcaa
open Go.RowKit
set_option linter.unusedVariables false

theorem encWR_length {p pw g l c : Int} {zs : List Int} (h : encC p pw g l c zs = 0) : ((encWR p pw g l c zs).length : Int) = l ∧ 2 ≤ l ∧ validC p pw g l c = true := by
  have hv : validC p pw g l c = true := by
    cases hv : validC p pw g l c
    · rw [(enc_bad hv).1] at h; cases h
    · rfl
  obtain ⟨_, hc1, hc2, hcl, hl1, _⟩ := validC_iff hv
  have h2 : (zs.length : Int) = l - c ∧ allB (ffOf p pw g) zs = true := by
    unfold encC at h
    rw [if_pos hv] at h
    split at h
    · assumption
    · cases h
  obtain ⟨V, hs, hz, f0, f1⟩ := enc_ok hv h2.1 h2.2
  rw [f1, encL_length]
  exact ⟨by omega, by omega, hv⟩
set_option maxHeartbeats 1000000 in
theorem specEncodeWordO_any (p pw g l c : Int) (w : World) {a : Option Addr} {n cap : Nat} {zs : List Int} (hr : RowAt w a n zs) (hca : a = none → cap = 0) :
    Calls Try.prog 24 #[cV p pw g l c, .slice a n cap] w fun e w' => ∃ v, e = .returned (.tuple #[v, .int .i64 (encC p pw g l c zs)]) ∧ Below w.heap.size w w' ∧ OwnL w' w.heap.size v (encWR p pw g l c zs) := by
  have HR := Lib.hid hr
  have HCA := Lib.hid hca
  have hl := Lib.hid hr.len
  have hsm := hr.small
  clear hr hca
  go_enter Try.func24, Try.ntmps24
  go_wp2_with fail
  refine (isCode_any p pw g l c _).mono ?_
  rintro e w1 ⟨rfl, hb1⟩
  have HB := Lib.hid ((below1 w _).trans (hb1.mono (by simp)))
  have HX := Lib.hid ((boxC_new w p pw g l c CT).below hb1 (by simp))
  clear hb1
  cases h : validC p pw g l c
  · obtain ⟨f0, f1⟩ := enc_bad (zs := zs) h
    have hf0 := Lib.hid f0
    have hf1 := Lib.hid f1
    clear f0 f1
    go_wp2_with fail
    go_ret2
    exact ⟨_, by rw [hf0.out]; rfl, HB.out, by rw [hf1.out]; exact OwnL.nil _ _ HB.out.size⟩
  obtain ⟨hv, hc1, hc2, hcl, hl1, _⟩ := validC_iff h
  obtain ⟨_, c0, c1, c2, c3, c4⟩ := HX.out
  have HI := Lib.hid (l02Is_any p pw g (ranged_of hv) w1 (cap := cap) (HR.out.below' HB.out))
  clear hv
  have q1 : IntKind.i64.wrap (l - c) = l - c := IntWalk.i64_in _ (by omega)
  by_cases hn : (n : Int) = l - c
  rotate_left
  · obtain ⟨f0, f1⟩ := enc_range (zs := zs) h (fun x => hn (by rw [← hl.out]; exact x.1))
    have hf0 := Lib.hid f0
    have hf1 := Lib.hid f1
    have hn' : ((n : Int) != l - c) = true := by simp; omega
    clear f0 f1
    go_wp2_with fail
    go_ret2
    exact ⟨_, by rw [hf0.out]; rfl, HB.out, by rw [hf1.out]; exact OwnL.nil _ _ HB.out.size⟩
  have hn' : ((n : Int) != l - c) = false := by simp; omega
  have HN := Lib.hid hn
  clear hn
  go_wp2_with fail
  refine HI.out.mono ?_
  rintro e w2 ⟨rfl, hb2⟩
  have HB2 := Lib.hid (HB.out.trans (hb2.mono HB.out.size))
  have HX2 := Lib.hid (HX.out.below hb2 HX.out.lt)
  clear hb2 c0 c1 c2 c3 c4
  cases hal : allB (ffOf p pw g) zs
  · obtain ⟨f0, f1⟩ := enc_range (zs := zs) h (fun x => by rw [hal] at x; cases x.2)
    have hf0 := Lib.hid f0
    have hf1 := Lib.hid f1
    clear f0 f1
    go_wp2_with fail
    go_ret2
    exact ⟨_, by rw [hf0.out]; rfl, HB2.out, by rw [hf1.out]; exact OwnL.nil _ _ HB2.out.size⟩
  · obtain ⟨V, hs, hz, f0, f1⟩ := enc_ok h (by rw [hl.out]; exact HN.out) hal
    have hf0 := Lib.hid f0
    have hf1 := Lib.hid f1
    have HE := Lib.hid (l04Encode_any hs (cap := cap) (HR.out.below' HB2.out) HCA.out hz HN.out)
    obtain ⟨_, c0, c1, c2, c3, c4⟩ := HX2.out
    clear f0 f1 hz
    go_wp2_with fail
    refine HE.out.mono ?_
    rintro e w3 ⟨v3, rfl, hb3, ho3⟩
    have HB3 := Lib.hid (HB2.out.trans (hb3.mono HB2.out.size))
    have HO3 := Lib.hid (ho3.lower (C := w.heap.size) HB2.out.size)
    clear hb3 ho3
    go_wp2_with fail
    go_ret2
    exact ⟨_, by rw [hf0.out]; rfl, HB3.out, by rw [hf1.out]; exact HO3.out⟩
end Go.Proofs.Ythbiieflmmnfcaa
