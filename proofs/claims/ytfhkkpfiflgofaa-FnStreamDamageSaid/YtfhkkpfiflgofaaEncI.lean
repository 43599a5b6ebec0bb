/-
  The implementation's EncodeStream: its walk.
-/
import Derived.Test.YtfhkkpfiflgofaaOrdI
import Derived.Test.YtfhkkpfiflgofaaEncR
import Derived.Test.YtfhkkpfiflgofaaRnd
import Derived.RangeFuncBox
namespace Go.Proofs.Ytfhkkpfiflgofaa
open Go.RowKit
set_option linter.unusedVariables false
attribute [local go_sem] Oper.semAt_some

set_option maxHeartbeats 8000000 in
set_option maxRecDepth 100000 in
theorem implEncodeStreamO_any (p pw g D C N : Int) (w : World) {a : Option Addr} {m cap : Nat} {zs : List Int} (hr : RowAt w a m zs) (hcap : m ≤ cap) :
    Calls Try.prog 13 #[lV p pw g D C N, .slice a m cap] w fun e w' => ∃ v, e = .returned (.tuple #[v, .int .i64 (esC p pw g D C N zs)]) ∧ Below w.heap.size w w' ∧ OwnL w' w.heap.size v (esR p pw g D C N zs) := by
  have HR := Lib.hid hr
  have hlen := Lib.hid hr.len
  have hsm := hr.small
  have HB := Lib.hid (below1 w (.cells #[.int .i64 p, .int .i64 pw, .int .i64 g, .int .i64 D, .int .i64 C, .int .i64 N] LT))
  have L0 := Lib.hid (LB.new w p pw g D C N)
  clear hr
  refine (callsIn_wide (n := 3)).1 ?_
  refine callsIn_of_wp_marks Try.func13 rfl trivial ?_ rfl
  simp only [Try.ntmps13, List.size_toArray, List.length_cons, List.length_nil, Nat.reduceAdd, Nat.reduceSub, Array.replicate_succ, Array.replicate_zero, List.push_toArray, List.append_toArray, List.nil_append, List.cons_append]
  refine wpIn_wide.2 ?_
  generalize hw1 : w.alloc (.cells #[.int .i64 p, .int .i64 pw, .int .i64 g, .int .i64 D, .int .i64 C, .int .i64 N] LT) = w1 at *
  have k0 := L0.out.c0
  have k1 := L0.out.c1
  have k2 := L0.out.c2
  have k3 := L0.out.c3
  have k4 := L0.out.c4
  have k5 := L0.out.c5
  go_wp2_with fail
  (try rw [hw1])
  clear hw1
  refine (implIsLayout_any p pw g D C N _).mono ?_
  rintro e w2 ⟨rfl, hb2⟩
  have B2 := Lib.hid (HB.out.trans (hb2.mono HB.out.size))
  have L2 := Lib.hid (L0.out.below hb2 L0.out.lt)
  clear hb2 HB L0 k0 k1 k2 k3 k4 k5
  cases hlay : layB p pw g D C N with
  | false =>
    obtain ⟨f0, f1⟩ := es_bad (zs := zs) hlay
    have hf0 := Lib.hid f0
    have hf1 := Lib.hid f1
    clear f0 f1 hlay
    go_wp2_with fail
    refine marks_ret rfl (results_tmp2 rfl _ _ _) ?_
    exact ⟨_, by rw [hf0.out]; rfl, B2.out, by rw [hf1.out]; exact OwnL.nil _ _ B2.out.size⟩
  | true =>
  obtain ⟨q, r, n, c, hl, htot, hval, hvB⟩ := lay_ok hlay
  have HL := Lib.hid hl
  have HTOT := Lib.hid htot
  have HV := Lib.hid hval
  have HLAY := Lib.hid hlay
  have HVB := Lib.hid hvB
  have HD := Lib.hid hl.hD
  clear hl htot hval hvB hlay
  have k0 := L2.out.c0
  have k1 := L2.out.c1
  have k2 := L2.out.c2
  have k3 := L2.out.c3
  have k4 := L2.out.c4
  have k5 := L2.out.c5
  go_wp2_with fail
  refine (calc_any p pw g _).mono ?_
  rintro e w3 ⟨vc, rfl, hb3, hcal⟩
  obtain ⟨bc, rfl, hbc, hcal⟩ := hcal HVB.out
  have B3 := Lib.hid (B2.out.trans (hb3.mono B2.out.size))
  have L3 := Lib.hid (L2.out.below hb3 L2.out.lt)
  have HCAL := Lib.hid hcal
  clear hb3 hcal k0 k1 k2 k3 k4 k5
  have k3 := L3.out.c3
  by_cases hn : (m : Int) = D
  rotate_left
  · obtain ⟨f0, f1⟩ := es_range (zs := zs) HLAY.out (fun x => hn (by rw [← hlen.out]; exact x.1))
    have hf0 := Lib.hid f0
    have hf1 := Lib.hid f1
    have hn' : ((m : Int) != D) = true := by simp; omega
    clear f0 f1
    go_wp2_with fail
    refine marks_ret rfl (results_tmp2 rfl _ _ _) ?_
    exact ⟨_, by rw [hf0.out]; rfl, B3.out, by rw [hf1.out]; exact OwnL.nil _ _ B3.out.size⟩
  have hn' : ((m : Int) != D) = false := by simp; omega
  have HN := Lib.hid hn
  clear hn
  go_wp2_with fail
  refine (hasAll_any (HCAL.out) (cap := cap) (HR.out.below' B3.out)).mono ?_
  rintro e w' ⟨rfl, rfl⟩
  clear k3
  cases hal : allB (ffOf p pw g) zs
  · obtain ⟨f0, f1⟩ := es_range (zs := zs) HLAY.out (fun x => by rw [hal] at x; cases x.2)
    have hf0 := Lib.hid f0
    have hf1 := Lib.hid f1
    clear f0 f1
    go_wp2_with fail
    refine marks_ret rfl (results_tmp2 rfl _ _ _) ?_
    exact ⟨_, by rw [hf0.out]; rfl, B3.out, by rw [hf1.out]; exact OwnL.nil _ _ B3.out.size⟩
  obtain ⟨f0, f1⟩ := es_ok (zs := zs) HLAY.out (by rw [hlen.out]; exact HN.out) hal HL.out
  have hf0 := Lib.hid f0
  have hf1 := Lib.hid f1
  have HZ := Lib.hid hal
  have HM := Lib.hid (show zs.length = q * n + r by have h1 := HN.out; have h2 := HD.out; have h3 := hlen.out; omega)
  have hq := HL.out.qle
  have hq1 := HL.out.q1
  have hn1 := HL.out.n1
  have hn16 := HL.out.n16
  have hrn := HL.out.rn
  have hc64 := HL.out.c64
  have HLT := Lib.hid (ordS_length q r n c (Nat.le_of_lt hrn))
  have HSH := Lib.hid (shN_le q r n)
  have HOF := Lib.hid (fun b hb => offS_le (q := q) (r := r) (n := n) (b := b) (Nat.le_of_lt hrn) hb)
  have hmD : m = q * n + r := by have h1 := HM.out; have h3 := hlen.out; omega
  have hHD := HD.out
  rw [← hmD] at HOF hHD
  clear f0 f1 hal
  obtain rfl : N = (n : Int) := HL.out.hN
  obtain rfl : C = (c : Int) := HL.out.hC
  have HHD := Lib.hid hHD
  have HMD := Lib.hid hmD
  have hmb : m ≤ 1500 := by have := HTOT.out; omega
  have hmpos : 0 < m := by have := HL.out.nD; omega
  obtain ⟨ba, oa, rfl, hba, -⟩ := HR.out.at' hmpos
  clear hmD hHD
  have hmk := fun w => run_make_rows w n (by omega)
  have hX0 : w.heap.size < w3.heap.size := L3.out.lt
  have k3 := L3.out.c3
  have k5 := L3.out.c5
  have R4 := Lib.hid (Rag.made w3 w3.heap.size (Nat.le_refl _) n (by omega) w3.heap.size rfl (fun _ => 0) (fun _ => 0) (wdS p pw g q r n c zs))
  have b4 := below1 w3 (.cells (madeCells #[.slice none 0 0] n) 26)
  have s4 : (w3.alloc (.cells (madeCells #[.slice none 0 0] n) 26)).heap.size = w3.heap.size + 1 := by simp
  have b5 := below1 (w3.alloc (.cells (madeCells #[.slice none 0 0] n) 26)) (.cells #[.slice (some ⟨w3.heap.size, 0, none⟩) n n] 55)
  have X5 := Boxed.new (w3.alloc (.cells (madeCells #[.slice none 0 0] n) 26)) 55 (.slice (some ⟨w3.heap.size, 0, none⟩) n n)
  rw [s4] at X5
  have X6 := Lib.hid X5
  have R6 := Lib.hid (R4.out.below b5)
  have L6 := Lib.hid ((L3.out.below b4 L3.out.lt).below b5 (by omega))
  have B6 := Lib.hid ((b4 : Below w3.heap.size w3 _).trans (b5.mono (by omega)))
  clear R4 b4 b5 X5
  go_wp2_with fail
  generalize (w3.alloc (.cells (madeCells #[.slice none 0 0] n) 26)).alloc (.cells #[.slice (some ⟨w3.heap.size, 0, none⟩) n n] 55) = w6 at *
  clear hmk k3 k5
  go_loopw [9, 42] (fun f t wr => ∃ (k o : Nat) (G cp : Nat → Nat), k ≤ n ∧ f = .int .i64 o ∧ t = .int .i64 k ∧ Hid (o = offN (shN q r n) k) ∧ Hid (Rag wr w3.heap.size (.slice (some ⟨w3.heap.size, 0, none⟩) n n) n k G cp (wdS p pw g q r n c zs)) ∧ Hid (Boxed wr (w3.heap.size + 1) 55 (.slice (some ⟨w3.heap.size, 0, none⟩) n n)) ∧ Hid (LB wr w.heap.size p pw g D c n) ∧ Hid (Below w3.heap.size w3 wr)) (fun _ t _ => n - (intOf t).toNat)
  case atStart => exact ⟨0, 0, _, _, by omega, rfl, rfl, Lib.hid rfl, R6, X6, L6, B6⟩
  case round =>
    clear R6 X6 L6 B6
    obtain ⟨k, o, G, cp, hk, rfl, rfl, ho, hR, hX, hL, hB⟩ := hrel
    by_cases hkn : k < n
    · have hki : (k : Int) < (n : Int) := by omega
      have k0 := hL.out.c0
      have k1 := hL.out.c1
      have k2 := hL.out.c2
      have k3 := hL.out.c3
      have k4 := hL.out.c4
      have k5 := hL.out.c5
      go_wp2_with fail
      refine (share_any p pw g HL.out k _ rfl (by omega) _).mono ?_
      rintro e' w7 ⟨rfl, hb7⟩
      have R7 := Lib.hid (hR.out.below hb7)
      have L7 := Lib.hid (hL.out.below hb7 hL.out.lt)
      have X7 := Lib.hid (show Boxed w7 _ _ _ from (hb7.block _ hX.out.lt).trans hX.out)
      have B7 := Lib.hid (hB.out.trans (hb7.mono hB.out.size))
      clear hb7 hR hL hX hB k0 k1 k2 k3 k4 k5
      have k0 := L7.out.c0
      have k1 := L7.out.c1
      have k2 := L7.out.c2
      have k3 := L7.out.c3
      have k4 := L7.out.c4
      have k5 := L7.out.c5
      go_wp2_with fail
      refine (lcode_any p pw g HL.out k _ rfl (by omega) _).mono ?_
      rintro e' w8 ⟨rfl, hb8⟩
      have R8 := Lib.hid (R7.out.below hb8)
      have L8 := Lib.hid (L7.out.below hb8 L7.out.lt)
      have X8 := Lib.hid (show Boxed w8 _ _ _ from (hb8.block _ X7.out.lt).trans X7.out)
      have B8 := Lib.hid (B7.out.trans (hb8.mono B7.out.size))
      obtain ⟨V, hs, hbe, hwd, hwl, -⟩ := wd_V (HV.out k hkn) (Nat.le_of_lt hrn) hkn HM.out HZ.out
      have HVK := Lib.hid (HV.out k hkn)
      have hof := HOF.out k hkn
      have HO2 := Lib.hid (show offN (shN q r n) (k + 1) = o + shN q r n k by rw [ho.out]; rfl)
      rw [← ho.out] at hof
      obtain ⟨hs1, hs2⟩ := HSH.out k
      have HWD := Lib.hid (show wdS p pw g q r n c zs k = encL V ((shN q r n k + c : Nat) : Int).toNat (c : Int).toNat ((zs.drop o).take (shN q r n k)) by rw [hwd]; unfold blS; rw [ho.out])
      have HWL := Lib.hid hwl
      have HEL := Lib.hid (show VF.els V ((zs.drop o).take (shN q r n k)) by have := hbe; unfold blS at this; rw [← ho.out] at this; exact this)
      have HS := Lib.hid hs
      have hne : ¬ cap = o := by omega
      obtain ⟨Sk, hSk⟩ : ∃ Sk, shN q r n k = Sk := ⟨_, rfl⟩
      rw [hSk] at hs1 hs2 hof HO2 HWL HWD HVK HEL HS ⊢
      have HWP := Lib.hid (show 0 < (wdS p pw g q r n c zs k).length by rw [HWL.out]; omega)
      have e10 : ((Sk + c : Nat) : Int) = (Sk : Int) + (c : Int) := by omega
      rw [e10] at HWD HVK HS ⊢
      have hsc : (o : Int) + (Sk : Int) ≤ (cap : Int) := by omega
      have h0os : 0 ≤ (o : Int) + (Sk : Int) := by omega
      have htn : ((o : Int) + (Sk : Int)).toNat = o + Sk := by omega
      have y1 : -1000000 ≤ (o : Int) + (Sk : Int) ∧ (o : Int) + (Sk : Int) ≤ 1000000 := by omega
      clear e10 hb8 R7 L7 X7 B7 k0 k1 k2 k3 k4 k5 hSk hs hbe hwd hwl
      go_wp2_with fail
      refine (coder_any p pw g _ _ _).mono ?_
      rintro e' w9 ⟨vd, rfl, hb9, hcod⟩
      rw [HVK.out]
      obtain ⟨bd, rfl, hbd, hcod⟩ := hcod HVK.out
      have R9 := Lib.hid (R8.out.below hb9)
      have L9 := Lib.hid (L8.out.below hb9 L8.out.lt)
      have X9 := Lib.hid (show Boxed w9 _ _ _ from (hb9.block _ X8.out.lt).trans X8.out)
      have B9 := Lib.hid (B8.out.trans (hb9.mono B8.out.size))
      have HEN := Lib.hid (fun W (hb : Below w9.heap.size w9 W) => encode_any HS.out (hcod.below hb) (cap := cap - o) (part_some (cap := cap) ((HR.out.below' B3.out).below' ((B9.out.mono (Nat.le_refl _)).trans (hb.mono B9.out.size))) o Sk hof) (fun h => by cases h) HEL.out (by omega))
      obtain ⟨v1, v2⟩ := wraps y1
      have xc := X9.out.cell
      clear hb9 hcod R8 L8 X8 B8 y1
      go_wp2_with fail
      refine wp_region_noPanic ?_
      refine wp_region_S (S := (fun w' => w'.cell? ⟨w3.heap.size + 1, 0, none⟩ = some (.slice (some ⟨w3.heap.size, 0, none⟩) n n))) 12 rfl (by kernel_rfl) ?_ (fun hHeld => ?_)
      · (try dsimp only); exact xc
      refine wpAnyH_take (i := 0) (oi := _) (v := ?_) rfl (by kernel_rfl) (by kernel_rfl) (by kernel_rfl) (fun _ _ _ h => h) (Or.inl ⟨by rfl, ?_⟩) hHeld ?_
      rotate_left
      · intro w0 hSw; (try dsimp only at hSw); go_simp; (try with_reducible rfl)
      (try dsimp only [Act.put, List.setIfInBounds_toArray, List.set_cons_zero, List.set_cons_succ])
      refine wpAnyH_take (i := 1) (oi := _) (v := ?_) rfl (by kernel_rfl) (by kernel_rfl) (by kernel_rfl) (fun _ _ _ h => h) (Or.inl ⟨by rfl, ?_⟩) hHeld ?_
      rotate_left
      · intro w0 hSw; (try dsimp only at hSw); go_simp; (try with_reducible rfl)
      (try dsimp only [Act.put, List.setIfInBounds_toArray, List.set_cons_zero, List.set_cons_succ])
      refine wpAnyH_take (i := 2) (oi := _) (v := ?_) rfl (by kernel_rfl) (by kernel_rfl) (by kernel_rfl) (fun _ _ _ h => h) (Or.inl ⟨by rfl, ?_⟩) hHeld ?_
      rotate_left
      · intro w0 hSw; (try dsimp only at hSw); go_simp; (try with_reducible rfl)
      (try dsimp only [Act.put, List.setIfInBounds_toArray, List.set_cons_zero, List.set_cons_succ])
      refine wpAnyH_take (i := 3) (oi := _) (v := ?_) rfl (by kernel_rfl) (by kernel_rfl) (by kernel_rfl) (fun _ _ _ h => h) (Or.inl ⟨by rfl, ?_⟩) hHeld ?_
      rotate_left
      · intro w0 hSw; (try dsimp only at hSw); go_simp; (try with_reducible rfl)
      (try dsimp only [Act.put, List.setIfInBounds_toArray, List.set_cons_zero, List.set_cons_succ])
      refine wpAnyH_take (i := 4) (oi := _) (v := ?_) rfl (by kernel_rfl) (by kernel_rfl) (by kernel_rfl) (fun _ _ _ h => h) (Or.inl ⟨by rfl, ?_⟩) hHeld ?_
      rotate_left
      · intro w0 hSw; (try dsimp only at hSw); go_simp; (try with_reducible rfl)
      (try dsimp only [Act.put, List.setIfInBounds_toArray, List.set_cons_zero, List.set_cons_succ])
      refine wpAnyH_take (i := 5) (oi := _) (v := ?_) rfl (by kernel_rfl) (by kernel_rfl) (by kernel_rfl) (fun _ _ _ h => h) (Or.inl ⟨by rfl, ?_⟩) hHeld ?_
      rotate_left
      · intro w0 hSw; (try dsimp only at hSw); go_simp; (try with_reducible rfl)
      (try dsimp only [Act.put, List.setIfInBounds_toArray, List.set_cons_zero, List.set_cons_succ])
      refine wpAnyH_take (i := 6) (oi := _) (v := ?_) rfl (by kernel_rfl) (by kernel_rfl) (by kernel_rfl) (fun _ _ _ h => h) (Or.inl ⟨by rfl, ?_⟩) hHeld ?_
      rotate_left
      · intro w0 hSw; (try dsimp only at hSw); go_simp; (try with_reducible rfl)
      (try dsimp only [Act.put, List.setIfInBounds_toArray, List.set_cons_zero, List.set_cons_succ])
      refine wpAnyH_take (i := 7) (oi := _) (v := ?_) rfl (by kernel_rfl) (by kernel_rfl) (by kernel_rfl) (fun _ _ _ h => h) (Or.inl ⟨by rfl, ?_⟩) hHeld ?_
      rotate_left
      · intro w0 hSw; (try dsimp only at hSw); go_simp; (try with_reducible rfl)
      (try dsimp only [Act.put, List.setIfInBounds_toArray, List.set_cons_zero, List.set_cons_succ])
      refine wpAnyH_take (i := 8) (oi := _) (v := ?_) rfl (by kernel_rfl) (by kernel_rfl) (by kernel_rfl) (fun _ _ _ h => h) (Or.inl ⟨by rfl, ?_⟩) hHeld ?_
      rotate_left
      · intro w0 hSw; (try dsimp only at hSw); go_simp; (try with_reducible rfl)
      (try dsimp only [Act.put, List.setIfInBounds_toArray, List.set_cons_zero, List.set_cons_succ])
      refine wpAnyH_ready (rs := [9]) (by kernel_rfl) (by simp) ?_
      refine AllReadyH.cons (o := _) rfl (fun K hK => ?_) AllReadyH.nil
      go_simp
      refine (HEN.out _ (Drew.below (drew1 w9) _)).mono ?_
      rintro e w10 ⟨v10, rfl, hbE, hoE⟩
      rw [← HWD.out] at hoE
      obtain ⟨g7, c7, -, rfl, hg7, hg7b, -, -, -⟩ := hoE.form HWP.out
      have R10 := R9.out.below ((Drew.below (drew1 w9) w9.heap.size).trans hbE)
      have c10 := R10.free (Nat.le_refl _) hkn
      have f10 := R10.fz k
      rw [HWL.out]
      go_wp2_with fail
      refine hK.out _ _ ?_ (fun hHeld => ?_)
      · (try dsimp only); exact keep_cell hbE hHeld
      clear hK K
      (try dsimp only [Act.put, List.setIfInBounds_toArray, List.set_cons_zero, List.set_cons_succ])
      refine wpAnyH_take (i := 10) (oi := _) (v := ?_) rfl (by kernel_rfl) (by kernel_rfl) (by kernel_rfl) (fun _ _ _ h => h) (Or.inl ⟨by rfl, ?_⟩) hHeld ?_
      rotate_left
      · intro w0 hSw; (try dsimp only at hSw); go_simp; (try with_reducible rfl)
      (try dsimp only [Act.put, List.setIfInBounds_toArray, List.set_cons_zero, List.set_cons_succ])
      refine wpAnyH_ready (rs := [11]) (by kernel_rfl) (by simp) ?_
      refine AllReadyH.cons (o := _) rfl (fun K hK => ?_) AllReadyH.nil
      go_simp
      refine hK.out _ _ ?_ (fun hHeld => ?_)
      · (try dsimp only); exact (World.cell?_setCell_far _ _ _ _ (by simp)).trans hHeld
      clear hK K
      (try dsimp only [Act.put, List.setIfInBounds_toArray, List.set_cons_zero, List.set_cons_succ])
      refine wpAnyH_done (by kernel_rfl) ?_ _
      refine NoPanic.normal ?_
      clear v1 v2
      have hb10 := ((Drew.below (drew1 w9) w9.heap.size).trans hbE)
      have B10 := B9.out.trans (hb10.mono B9.out.size)
      have hrow := hoE
      rw [HWL.out] at hrow
      have R11 := Lib.hid (show Rag (w10.setCell ⟨w3.heap.size, k, none⟩ (.slice (some ⟨g7, 0, none⟩) (Sk + c) c7)) w3.heap.size (.slice (some ⟨w3.heap.size, 0, none⟩) n n) n (k + 1) (fun t => if t = k then g7 else G t) (fun t => if t = k then c7 else cp t) (wdS p pw g q r n c zs) by
        have h1 := R9.out.next (zs := wdS p pw g q r n c zs k) hkn hb10 (hoE.lower (Nat.le_refl _))
        rw [HWL.out] at h1
        refine h1.congr fun j hj => ?_
        by_cases e : j = k
        · subst e; rw [if_pos rfl]
        · rw [if_neg e])
      have X11 := Lib.hid (show Boxed (w10.setCell ⟨w3.heap.size, k, none⟩ (.slice (some ⟨g7, 0, none⟩) (Sk + c) c7)) (w3.heap.size + 1) 55 (.slice (some ⟨w3.heap.size, 0, none⟩) n n) from (Below.heap_setCell _ _ _ _ (by simp)).trans ((hb10.block _ X9.out.lt).trans X9.out))
      have L11 := Lib.hid ((L9.out.below hb10 L9.out.lt).other (H := w3.heap.size) (o := k) (by omega) (.slice (some ⟨g7, 0, none⟩) (Sk + c) c7))
      have B11 := Lib.hid (B10.setCell (p := ⟨w3.heap.size, k, none⟩) (Nat.le_refl _) (.slice (some ⟨g7, 0, none⟩) (Sk + c) c7))
      have y1 : -1000000 ≤ (o : Int) + (Sk : Int) ∧ (o : Int) + (Sk : Int) ≤ 1000000 := by omega
      clear hrow hb10 B10 hoE hbE hHeld R10 c10 f10 xc R9 X9 L9 B9
      obtain ⟨v1, v2⟩ := wraps y1
      clear y1
      go_wp2_with fail
      clear v1 v2
      go_roundw
      case rel => exact ⟨k + 1, o + Sk, _, _, by omega, by simp, by go_num, Lib.hid HO2.out.symm, R11, X11, L11, B11⟩
      case measure => simp [intOf]; omega
    · obtain rfl : k = n := by omega
      have hki : ¬ (k : Int) < (k : Int) := by omega
      have k0 := hL.out.c0
      have k1 := hL.out.c1
      have k2 := hL.out.c2
      have k3 := hL.out.c3
      have k4 := hL.out.c4
      have k5 := hL.out.c5
      go_wp2_with fail
      refine (total_any p pw g HL.out _).mono ?_
      rintro e w12 ⟨rfl, hb12⟩
      have R12 := Lib.hid (hR.out.below hb12)
      have X12 := Lib.hid (show Boxed w12 _ _ _ from (hb12.block _ hX.out.lt).trans hX.out)
      have L12 := Lib.hid (hL.out.below hb12 hL.out.lt)
      have B12 := Lib.hid (hB.out.trans (hb12.mono hB.out.size))
      clear hb12 hR hX hL hB k0 k1 k2 k3 k4 k5 ho
      obtain ⟨T, hT⟩ : ∃ T, (ordS q r k c).length = T := ⟨_, rfl⟩
      have HT := Lib.hid hT
      rw [hT] at HLT
      have hTb : T ≤ 1500 := by have h1 := HLT.out; have h2 := HTOT.out; have h3 : k * q = q * k := Nat.mul_comm _ _; omega
      rw [show D + (k : Int) * (c : Int) = (T : Int) by have h1 := HLT.out; have h2 := HD.out; have h3 : k * q = q * k := Nat.mul_comm _ _; rw [h2, h1]; simp; omega]
      have hmk := fun w => run_make_ints2 w 26 Try.underlying26 0 (T : Int) (Int.le_refl _) (by omega) (by omega)
      simp only [Int.toNat_natCast, Int.toNat_zero] at hmk
      have O13 := Lib.hid ((OwnL.made w12 w12.heap.size (Nat.le_refl _) T (by omega) w12.heap.size rfl).below (below1 _ (.cells #[.slice (some ⟨w12.heap.size, 0, none⟩) 0 T] 26)))
      have s13 : (w12.alloc (.cells (madeCells #[.int .i64 0] T) 2)).heap.size = w12.heap.size + 1 := by simp
      have Y13 := Boxed.new (w12.alloc (.cells (madeCells #[.int .i64 0] T) 2)) 26 (.slice (some ⟨w12.heap.size, 0, none⟩) 0 T)
      rw [s13] at Y13
      have Y13 := Lib.hid Y13
      have b13 := (below1 w12 (.cells (madeCells #[.int .i64 0] T) 2)).trans ((below1 (w12.alloc (.cells (madeCells #[.int .i64 0] T) 2)) (.cells #[.slice (some ⟨w12.heap.size, 0, none⟩) 0 T] 26)).mono (by omega))
      have C13 := Lib.hid b13
      have L13 := Lib.hid (L12.out.below b13 L12.out.lt)
      have s13b : ((w12.alloc (.cells (madeCells #[.int .i64 0] T) 2)).alloc (.cells #[.slice (some ⟨w12.heap.size, 0, none⟩) 0 T] 26)).heap.size = w12.heap.size + 2 := by simp
      obtain ⟨w13, hw13⟩ : ∃ w13, (w12.alloc (.cells (madeCells #[.int .i64 0] T) 2)).alloc (.cells #[.slice (some ⟨w12.heap.size, 0, none⟩) 0 T] 26) = w13 := ⟨_, rfl⟩
      rw [hw13] at O13 Y13 C13 L13 s13b
      have k0 := L13.out.c0
      have k1 := L13.out.c1
      have k2 := L13.out.c2
      have k3 := L13.out.c3
      have k4 := L13.out.c4
      have k5 := L13.out.c5
      clear b13 s13 hT
      go_wp2_with fail
      (try rw [hw13])
      clear hmk hw13
      go_wp2_with fail
      refine ((callsIn_wide (n := 1)).1 (order_in 1 p pw g D c k _)).mono ?_
      rintro e w14 ⟨rfl, rfl⟩
      go_wp2_with fail
      have LN14 := LB.new w13 p pw g D c k
      rw [s13b] at LN14
      have s14 : (w13.alloc (.cells #[.int .i64 p, .int .i64 pw, .int .i64 g, .int .i64 D, .int .i64 (c : Int), .int .i64 (k : Int)] LT)).heap.size = w12.heap.size + 3 := by simp [s13b]
      have b14 := below1 w13 (.cells #[.int .i64 p, .int .i64 pw, .int .i64 g, .int .i64 D, .int .i64 (c : Int), .int .i64 (k : Int)] LT)
      have O14 := O13.out.below b14
      have Y14 := Y13.out.alloc (.cells #[.int .i64 p, .int .i64 pw, .int .i64 g, .int .i64 D, .int .i64 (c : Int), .int .i64 (k : Int)] LT)
      have C14 := C13.out.trans (b14.mono (by omega))
      generalize w13.alloc (.cells #[.int .i64 p, .int .i64 pw, .int .i64 g, .int .i64 D, .int .i64 (c : Int), .int .i64 (k : Int)] LT) = w14 at *
      have HO14 := Lib.hid O14
      have HY14 := Lib.hid Y14
      have HC14 := Lib.hid C14
      clear k0 k1 k2 k3 k4 k5 O13 Y13 C13 L13 b14 O14 Y14 C14
      refine (wpIn_wide (n := 3)).1 ?_
      refine wpIn_rangeFunc_ownF rfl (by omega) (gf := 118) (lb := #[.pointer (some ⟨w12.heap.size + 2, 0, none⟩)]) rfl trivial (enters_of Try.func118 (by kernel_rfl) rfl)
        (order_stops p pw g HL.out 2 (by omega) (w12.heap.size + 2) w14 (by omega) LN14) keepsAt_t (keepsAt_b (by omega)) (Below.refl _ _) (fun _ => rfl)
        (fun pre W => (∃ v, Boxed W (w12.heap.size + 1) 26 v ∧ W.ownsRow w12.heap.size 2 1 v (strL (pre.map Subtype.val) (fun b e => gi (wdS p pw g q r k c zs b) e)).length ((strL (pre.map Subtype.val) (fun b e => gi (wdS p pw g q r k c zs b) e)).map (Value.int .i64)) ∧ True) ∧ (W.heap[w12.heap.size + 2]? = some (.cells #[.int .i64 p, .int .i64 pw, .int .i64 g, .int .i64 D, .int .i64 (c : Int), .int .i64 (k : Int)] LT (0, 0)) ∧ Below w12.heap.size w12 W))
        (fun _ _ _ => False)
        (OwnFrom.and (Go.Own.from (holdsRow_own w12.heap.size (w12.heap.size + 1) 26 2 1 (fun pre : List (OrdX q r k c) => (strL (pre.map Subtype.val) (fun b e => gi (wdS p pw g q r k c zs b) e)).length) (fun pre => (strL (pre.map Subtype.val) (fun b e => gi (wdS p pw g q r k c zs b) e)).map (Value.int .i64)) (fun _ _ => True)) _) (OwnFrom.and (Go.Own.from (own_at _ _ rfl) _) (ownFrom_below (Nat.le_refl _) (by omega))))
        (fun _ _ _ _ _ hs _ _ => hs)
        ⟨⟨_, HY14.out, HO14.out.2, trivial⟩, LN14.blk, HC14.out⟩
        ?a1 ?assign ?body ?done ?stop
      case stop =>
        rintro D2 c2 pre W _ _ h _
        exact h.elim
      case assign =>
        intro l x W K hK
        have HK := Lib.hid hK
        clear hK
        gi_wp2
        exact HK.out
      case body =>
        rintro l pre ⟨⟨xb, xe⟩, hxo⟩ W ⟨⟨v, hv, hrow, -⟩, hLBW, hBW⟩ hlt
        have hmem : xb < k ∧ xe < shN q r k xb + c := ordS_mem.1 hxo
        obtain ⟨V, -, -, -, hwl, -⟩ := wd_V (HV.out xb hmem.1) (Nat.le_of_lt hrn) hmem.1 HM.out HZ.out
        have RW := R12.out.below hBW
        have q1 := hv.cell
        have q2 : W.cell? ⟨w3.heap.size + 1, 0, none⟩ = some (.slice (some ⟨w3.heap.size, 0, none⟩) k k) := (hBW.cell (p := ⟨w3.heap.size + 1, 0, none⟩) X12.out.lt).trans X12.out.cell
        have q3 := RW.slot hmem.1
        have q4 := (RW.cell hmem.1 (i := xe) (by rw [hwl]; exact hmem.2)).1
        have hbk : (xb : Int) < (k : Int) := by have := hmem.1; omega
        have hek : (xe : Int) < ((wdS p pw g q r k c zs xb).length : Int) := by rw [hwl]; have := hmem.2; omega
        have HNE := Lib.hid (show G xb < w12.heap.size from (R12.out.rlt hmem.1).2)
        have hpl : (strL (pre.map Subtype.val) (fun b e => gi (wdS p pw g q r k c zs b) e)).length = pre.length := by rw [strL_length, List.length_map]
        have HST := Lib.hid (show strL ((pre ++ [(⟨(xb, xe), hxo⟩ : OrdX q r k c)]).map Subtype.val) (fun b e => gi (wdS p pw g q r k c zs b) e) = strL (pre.map Subtype.val) (fun b e => gi (wdS p pw g q r k c zs b) e) ++ [gi (wdS p pw g q r k c zs xb) xe] by rw [List.map_append]; exact strL_snoc _ _ _)
        rw [HT.out] at hlt
        have hll : (strL (pre.map Subtype.val) (fun b e => gi (wdS p pw g q r k c zs b) e)).length ≤ 16777216 := by rw [hpl]; omega
        have hsz : w12.heap.size ≤ W.heap.size := hBW.size
        clear hpl hwl
        generalize gi (wdS p pw g q r k c zs xb) xe = z at *
        generalize (wdS p pw g q r k c zs xb).length = lw at *
        refine wpIn_block ?_
        refine region_lastW_round (S := (fun w' => w'.cell? ⟨w12.heap.size + 1, 0, none⟩ = some v ∧ w'.cell? ⟨w3.heap.size + 1, 0, none⟩ = some (.slice (some ⟨w3.heap.size, 0, none⟩) k k) ∧ w'.cell? ⟨w3.heap.size, xb, none⟩ = some (.slice (some ⟨G xb, 0, none⟩) lw (cp xb)) ∧ w'.cell? ⟨G xb, xe, none⟩ = some (.int .i64 z))) 10 (by kernel_rfl) (by kernel_rfl) (fun ⟨_, _, h⟩ => h) rfl (by kernel_rfl) ?_ (fun hHeld => ?_)
        · (try dsimp only); exact ⟨q1, q2, q3, q4⟩
        simp only [List.take_succ_cons, List.take_zero]
        refine wpAnyH_take (i := 0) (oi := _) (v := ?_) rfl (by kernel_rfl) (by kernel_rfl) (by kernel_rfl) (fun _ _ _ h => h) (Or.inl ⟨by rfl, ?_⟩) hHeld ?_
        rotate_left
        · intro w0 hSw; (try dsimp only at hSw); go_simp; (try with_reducible rfl)
        (try dsimp only [Act.put, List.setIfInBounds_toArray, List.set_cons_zero, List.set_cons_succ])
        refine wpAnyH_take (i := 1) (oi := _) (v := ?_) rfl (by kernel_rfl) (by kernel_rfl) (by kernel_rfl) (fun _ _ _ h => h) (Or.inl ⟨by rfl, ?_⟩) hHeld ?_
        rotate_left
        · intro w0 hSw; (try dsimp only at hSw); go_simp; (try with_reducible rfl)
        (try dsimp only [Act.put, List.setIfInBounds_toArray, List.set_cons_zero, List.set_cons_succ])
        refine wpAnyH_take (i := 2) (oi := _) (v := ?_) rfl (by kernel_rfl) (by kernel_rfl) (by kernel_rfl) (fun _ _ _ h => h) (Or.inl ⟨by rfl, ?_⟩) hHeld ?_
        rotate_left
        · intro w0 hSw; (try dsimp only at hSw); go_simp; (try with_reducible rfl)
        (try dsimp only [Act.put, List.setIfInBounds_toArray, List.set_cons_zero, List.set_cons_succ])
        refine wpAnyH_take (i := 3) (oi := _) (v := ?_) rfl (by kernel_rfl) (by kernel_rfl) (by kernel_rfl) (fun _ _ _ h => h) (Or.inl ⟨by rfl, ?_⟩) hHeld ?_
        rotate_left
        · intro w0 hSw; (try dsimp only at hSw); go_simp; (try with_reducible rfl)
        (try dsimp only [Act.put, List.setIfInBounds_toArray, List.set_cons_zero, List.set_cons_succ])
        refine wpAnyH_take (i := 4) (oi := _) (v := ?_) rfl (by kernel_rfl) (by kernel_rfl) (by kernel_rfl) (fun _ _ _ h => h) (Or.inl ⟨by rfl, ?_⟩) hHeld ?_
        rotate_left
        · intro w0 hSw; (try dsimp only at hSw); go_simp; (try with_reducible rfl)
        (try dsimp only [Act.put, List.setIfInBounds_toArray, List.set_cons_zero, List.set_cons_succ])
        refine wpAnyH_take (i := 5) (oi := _) (v := ?_) rfl (by kernel_rfl) (by kernel_rfl) (by kernel_rfl) (fun _ _ _ h => h) (Or.inl ⟨by rfl, ?_⟩) hHeld ?_
        rotate_left
        · intro w0 hSw; (try dsimp only at hSw); go_simp; (try with_reducible rfl)
        (try dsimp only [Act.put, List.setIfInBounds_toArray, List.set_cons_zero, List.set_cons_succ])
        refine wpAnyH_take (i := 6) (oi := _) (v := ?_) rfl (by kernel_rfl) (by kernel_rfl) (by kernel_rfl) (fun _ _ _ h => h) (Or.inl ⟨by rfl, ?_⟩) hHeld ?_
        rotate_left
        · intro w0 hSw; (try dsimp only at hSw); go_simp; (try with_reducible rfl)
        (try dsimp only [Act.put, List.setIfInBounds_toArray, List.set_cons_zero, List.set_cons_succ])
        refine wpAnyH_take (i := 7) (oi := _) (v := ?_) rfl (by kernel_rfl) (by kernel_rfl) (by kernel_rfl) (fun _ _ _ h => h) (Or.inl ⟨by rfl, ?_⟩) hHeld ?_
        rotate_left
        · intro w0 hSw; (try dsimp only at hSw); go_simp; (try with_reducible rfl)
        (try dsimp only [Act.put, List.setIfInBounds_toArray, List.set_cons_zero, List.set_cons_succ])
        have hH7 := hHeld
        refine wpAnyH_ready (rs := [8]) (by kernel_rfl) (by simp) ?_
        refine AllReadyH.cons (o := _) rfl (fun K hK => ?_) AllReadyH.nil
        go_simp
        refine hK.out _ _ ?_ (fun hHeld => ?_)
        · (try dsimp only); exact ⟨keep_cell (below1 W.drew _) hHeld.1, keep_cell (below1 W.drew _) hHeld.2.1, keep_cell (below1 W.drew _) hHeld.2.2.1, keep_cell (below1 W.drew _) hHeld.2.2.2⟩
        clear hK K
        (try dsimp only [Act.put, List.setIfInBounds_toArray, List.set_cons_zero, List.set_cons_succ])
        refine wpAnyH_ready (rs := [9]) (by kernel_rfl) (by simp) ?_
        refine AllReadyH.cons (o := _) rfl (fun K hK => ?_) AllReadyH.nil
        refine step_oneG rfl _ _ _ rfl Try.underlying26 z (show OwnL W.drew w12.heap.size v _ from ⟨hsz, hrow⟩) rfl _ rfl rfl hll ?_
        intro v8 w8 hown8 hg8 hg8b hat8
        obtain ⟨g8, c8, -, rfl, -, -, -, -, -⟩ := hown8.form (by simp)
        obtain ⟨hv1, hv2, hr2, hk2, hb2⟩ := Boxed.appended (show Boxed W.drew (w12.heap.size + 1) 26 v from hv) (by decide) (show W.drew.ownsRow _ _ _ _ _ _ from hrow) hsz (Nat.le_succ _) hown8.2 hg8b
        have hb8 : Below w12.heap.size W.drew w8 := (Below.refl w12.heap.size W.drew).grown hg8 hsz (fun q5 e5 => (hrow.lt q5 e5).1)
        refine hK.out _ _ ?_ (fun hHeld => ?_)
        · (try dsimp only); exact ⟨hv1.cell, (hb8.cell (p := ⟨w3.heap.size + 1, 0, none⟩) X12.out.lt).trans hH7.2.1, (hb8.cell (p := ⟨w3.heap.size, xb, none⟩) (R12.out.top.lt _ rfl).2).trans hH7.2.2.1, (hb8.cell (p := ⟨G xb, xe, none⟩) HNE.out).trans hH7.2.2.2⟩
        clear hK K
        (try dsimp only [Act.put, List.setIfInBounds_toArray, List.set_cons_zero, List.set_cons_succ])
        refine wpAnyH_done (by kernel_rfl) (lastQ_normalW ?_) _
        have kc1 := hv1.cell
        have kf1 := hv1.frozen
        have HRW := Lib.hid hrow
        have HLB2 := Lib.hid hLBW
        clear hH7 hHeld q1 q2 q3 q4 hrow hLBW
        simp only [List.length_append, List.length_singleton] at hv2 hr2 hk2 hb2
        have HV2 := Lib.hid hv2
        have HR2 := Lib.hid hr2
        have HK2 := Lib.hid hk2
        have HB2 := Lib.hid hb2
        have HG8 := Lib.hid hg8
        have HNR := Lib.hid (not_row_of HLB2.out (by decide) HRW.out)
        clear hv2 hr2 hk2 hb2 hg8 hg8b hat8 hown8 hv1 hb8 hv
        go_wp2_with fail
        have hat : (w8.setCell ⟨w12.heap.size + 1, 0, none⟩ (.slice (some ⟨g8, 0, none⟩) ((strL (pre.map Subtype.val) (fun b e => gi (wdS p pw g q r k c zs b) e)).length + 1) c8)).heap[w12.heap.size + 2]? = W.heap[w12.heap.size + 2]? :=
          (Below.heap_setCell _ _ _ _ (by show w12.heap.size + 2 ≠ w12.heap.size + 1; omega)).trans (HG8.out.block (w12.heap.size + 2) (Array.getElem?_eq_some_iff.1 HLB2.out).1 HNR.out)
        refine ⟨(KeepsOthers.drew W).trans HK2.out, hat, ⟨⟨_, HV2.out, ?_, trivial⟩, hat.trans HLB2.out, (hBW.trans (Drew.below (drew1 W) _)).trans HB2.out⟩⟩
        have hfin := HR2.out
        have hst := HST.out
        show World.ownsRow _ _ _ _ _ (strL ((pre ++ [(⟨(xb, xe), hxo⟩ : OrdX q r k c)]).map Subtype.val) _).length ((strL ((pre ++ [(⟨(xb, xe), hxo⟩ : OrdX q r k c)]).map Subtype.val) _).map _)
        rw [hst, List.length_append]
        exact hfin
      case done =>
        rintro D2 ys W hD hys ⟨⟨v, hv, hrow, -⟩, hLBW, hBW⟩ hK
        have HYS := Lib.hid hys
        have HRW := Lib.hid hrow
        have HKK := Lib.hid hK
        have hc := hv.cell
        clear hys hrow hLBW hv hK
        go_wp2_with fail
        refine marks_retD rfl HKK.out (results_tmp2 rfl _ _ _) ?_
        refine ⟨v, by rw [hf0.out]; rfl, ?_, ?_⟩
        · have b1 := B3.out.trans (B12.out.mono B3.out.size)
          have b2 := b1.trans (hBW.mono b1.size)
          have hs14 := HC14.out.size
          exact b2.trans (belowK_b (w := w14) (by have := b1.size; omega) W D2 _ _ hD HKK.out rfl rfl)
        · have hr2 := ownsRow_putObj HRW.out (.deferred none) HKK.out rfl
          rw [HYS.out] at hr2
          rw [hf1.out]
          have hsz := (B3.out.trans (B12.out.mono B3.out.size)).size
          exact OwnL.lower (B := w12.heap.size) ⟨by have := hBW.size; simp [World.putObj]; omega, hr2⟩ hsz
end Go.Proofs.Ytfhkkpfiflgofaa
