/-
  The parts EncS, EncT.
-/
import Derived.Test.YtfhkkpfiflgofaaStrD
import Derived.Test.YtfhkkpfiflgofaaOrd
import Derived.Test.YtfhkkpfiflgofaaOwn
import Derived.Test.YtfhkkpfiflgofaaRnd
/-
  The reference's EncodeStream: its walk.
-/
namespace Go.Proofs.Ytfhkkpfiflgofaa
open Go.RowKit
set_option linter.unusedVariables false

theorem part_some {w : World} {ba oa n cap : Nat} {zs : List Int} (hr : RowAt w (some ⟨ba, oa, none⟩) n zs) (l s : Nat) (h : l + s ≤ n) : RowAt w (some ⟨ba, oa + l, none⟩) s ((zs.drop l).take s) := by
  refine ⟨?_, ?_, fun h0 => ?_⟩
  · rw [List.length_take, List.length_drop, hr.len]; omega
  · have := hr.small; omega
  · obtain ⟨b, off, e, hb, hc⟩ := hr.at' (by omega)
    cases e
    exact ⟨ba, oa + l, rfl, hb, fun j hj => by rw [gi_take hj, gi_drop, Nat.add_assoc]; exact hc (l + j) (by omega)⟩
set_option maxHeartbeats 8000000 in
set_option maxRecDepth 100000 in
theorem l07Encode_any (p pw g : Int) {D C N : Int} {q r n c : Nat} (hl : LN D C N q r n c) (htot : q * n + r + n * c ≤ 1500) (hval : ∀ b, b < n → validC p pw g ((shN q r n b + c : Nat) : Int) (c : Int) = true) (w : World) {a : Option Addr} {m cap : Nat} {zs : List Int} (hr : RowAt w a m zs) (hcap : m ≤ cap) (hm : m = q * n + r) (hz : allB (ffOf p pw g) zs = true) :
    Calls Try.prog 48 #[lV p pw g D C N, .slice a m cap] w fun e w' => ∃ v, e = .returned v ∧ Below w.heap.size w w' ∧ OwnL w' w.heap.size v (strL (ordS q r n c) (fun b e => gi (wdS p pw g q r n c zs b) e)) := by
  have HL := Lib.hid hl
  have HV := Lib.hid hval
  have HR := Lib.hid hr
  have HZ := Lib.hid hz
  have HM := Lib.hid (hr.len.trans hm)
  have hq := hl.qle
  have hq1 := hl.q1
  have hn1 := hl.n1
  have hn16 := hl.n16
  have hrn := hl.rn
  have hc64 := hl.c64
  have HTOT := Lib.hid htot
  have HLT := Lib.hid (ordS_length q r n c (Nat.le_of_lt hrn))
  have HSH := Lib.hid (shN_le q r n)
  have HOF := Lib.hid (fun b hb => offS_le (q := q) (r := r) (n := n) (b := b) (Nat.le_of_lt hrn) hb)
  obtain rfl : N = (n : Int) := hl.hN
  obtain rfl : C = (c : Int) := hl.hC
  have hmpos : 0 < m := by have := hl.nD; omega
  obtain ⟨ba, oa, rfl, hba, -⟩ := hr.at' hmpos
  have L0 := Lib.hid (LB.new w p pw g D c n)
  have B0 := Lib.hid (below1 w (.cells #[.int .i64 p, .int .i64 pw, .int .i64 g, .int .i64 D, .int .i64 (c : Int), .int .i64 (n : Int)] LT))
  have hmb : m ≤ 1500 := by omega
  rw [← hm] at HOF
  clear hl hval hr hz htot hm
  go_enter Try.func48, Try.ntmps48
  generalize hw1 : w.alloc (.cells #[.int .i64 p, .int .i64 pw, .int .i64 g, .int .i64 D, .int .i64 (c : Int), .int .i64 (n : Int)] LT) = w1 at *
  have hX1 : w.heap.size < w1.heap.size := L0.out.lt
  have R2 := Lib.hid (Rag.empty w1 w1.heap.size (Nat.le_refl _) w1.heap.size rfl (fun _ => 0) (fun _ => 0) (wdS p pw g q r n c zs))
  have L2 := Lib.hid (L0.out.below (below1 w1 (.cells #[] 26)) L0.out.lt)
  have B2 := Lib.hid (below1 w1 (.cells #[] 26))
  go_wp2_with fail
  (try rw [hw1])
  clear hw1
  generalize w1.alloc (.cells #[] 26) = w2 at *
  go_loopw [5, 6, 7] (fun v f t wr => ∃ (k o : Nat) (G cp : Nat → Nat), k ≤ n ∧ f = .int .i64 o ∧ t = .int .i64 k ∧ Hid (o = offN (shN q r n) k) ∧ Hid (Rag wr w1.heap.size v k k G cp (wdS p pw g q r n c zs)) ∧ Hid (LB wr w.heap.size p pw g D c n) ∧ Hid (Below w1.heap.size w1 wr)) (fun _ _ t _ => n - (intOf t).toNat)
  case atStart => exact ⟨0, 0, _, _, by omega, rfl, rfl, Lib.hid rfl, R2, L2, B2⟩
  case round =>
    clear R2 L2 B2
    obtain ⟨k, o, G, cp, hk, rfl, rfl, ho, hR, hL, hB⟩ := hrel
    have k0 := hL.out.c0
    have k1 := hL.out.c1
    have k2 := hL.out.c2
    have k3 := hL.out.c3
    have k4 := hL.out.c4
    have k5 := hL.out.c5
    by_cases hkn : k < n
    · have hki : (k : Int) < (n : Int) := by omega
      go_wp2_with fail
      refine (l07Size_any p pw g HL.out k _ rfl (by omega) _).mono ?_
      rintro e' w5 ⟨rfl, hb5⟩
      have R5 := Lib.hid (hR.out.below hb5)
      have L5 := Lib.hid (hL.out.below hb5 hL.out.lt)
      have B5 := Lib.hid (hB.out.trans (hb5.mono hB.out.size))
      obtain ⟨V, hs, hbe, hwd, hwl, -⟩ := wd_V (HV.out k hkn) (Nat.le_of_lt hrn) hkn HM.out HZ.out
      have hof := HOF.out k hkn
      have HO2 := Lib.hid (show offN (shN q r n) (k + 1) = o + shN q r n k by rw [ho.out]; rfl)
      rw [← ho.out] at hof
      obtain ⟨hs1, hs2⟩ := HSH.out k
      have HROW := Lib.hid (fun (W : World) (hb : Below w1.heap.size w1 W) => part_some (cap := cap) ((HR.out.below' B0.out).below' hb) o (shN q r n k) hof)
      have HEN := Lib.hid (fun W (hb : Below w1.heap.size w1 W) => l04Encode_any hs (cap := cap - o) (HROW.out W hb) (fun h => by cases h) (by have := hbe; unfold blS at this; rw [← ho.out] at this; exact this) (by omega))
      have HWD := Lib.hid (show wdS p pw g q r n c zs k = encL V ((shN q r n k + c : Nat) : Int).toNat (c : Int).toNat ((zs.drop o).take (shN q r n k)) by rw [hwd]; unfold blS; rw [ho.out])
      have HWL := Lib.hid hwl
      have HBK := Lib.hid (fun W => l07Block_any p pw g HL.out k _ rfl (show k ≤ 1000 by omega) W)
      have hne : ¬ cap = o := by omega
      obtain ⟨Sk, hSk⟩ : ∃ Sk, shN q r n k = Sk := ⟨_, rfl⟩
      rw [hSk] at hs1 hs2 hof HO2 HEN HWL HWD HBK ⊢
      have hsc : (o : Int) + (Sk : Int) ≤ (cap : Int) := by omega
      have hkk : k ≤ 100000 := by omega
      have h0os : 0 ≤ (o : Int) + (Sk : Int) := by omega
      have htn : ((o : Int) + (Sk : Int)).toNat = o + Sk := by omega
      have e10 : ((Sk + c : Nat) : Int) = (Sk : Int) + (c : Int) := by omega
      rw [e10] at HEN HWD HBK
      have y1 : -1000000 ≤ (o : Int) + (Sk : Int) ∧ (o : Int) + (Sk : Int) ≤ 1000000 := by omega
      obtain ⟨v1, v2⟩ := wraps y1
      clear y1 hb5 hR hL hB k0 k1 k2 k3 k4 k5 hSk HROW hs hbe hwd hwl
      have k0 := L5.out.c0
      have k1 := L5.out.c1
      have k2 := L5.out.c2
      have k3 := L5.out.c3
      have k4 := L5.out.c4
      have k5 := L5.out.c5
      obtain ⟨at_, cv, rfl, hmc, hac⟩ := R5.out.shape
      go_wp2_with fail
      clear v1 v2
      refine wp_region_S (S := (fun w' => w'.cell? ⟨w.heap.size, 0, none⟩ = some (.int .i64 p) ∧ w'.cell? ⟨w.heap.size, 1, none⟩ = some (.int .i64 pw) ∧ w'.cell? ⟨w.heap.size, 2, none⟩ = some (.int .i64 g) ∧ w'.cell? ⟨w.heap.size, 3, none⟩ = some (.int .i64 D) ∧ w'.cell? ⟨w.heap.size, 4, none⟩ = some (.int .i64 (c : Int)) ∧ w'.cell? ⟨w.heap.size, 5, none⟩ = some (.int .i64 (n : Int)))) 12 rfl (by kernel_rfl) ?_ (fun hHeld => ?_)
      · (try dsimp only); exact ⟨k0, k1, k2, k3, k4, k5⟩
      refine wpAnyH_take (i := 0) (oi := _) (v := ?_) rfl (by kernel_rfl) (by kernel_rfl) (by kernel_rfl) (fun _ _ _ h => h) (Or.inl ⟨by rfl, ?_⟩) hHeld ?_
      rotate_left
      · intro w0 hSw; (try dsimp only at hSw); go_simp; (try with_reducible rfl)
      (try dsimp only [Act.put, List.setIfInBounds_toArray, List.set_cons_zero, List.set_cons_succ])
      refine wpAnyH_take (i := 1) (oi := _) (v := ?_) rfl (by kernel_rfl) (by kernel_rfl) (by kernel_rfl) (fun _ _ _ h => h) (Or.inl ⟨by rfl, ?_⟩) hHeld ?_
      rotate_left
      · intro w0 hSw; (try dsimp only at hSw); go_simp; (try with_reducible rfl)
      (try dsimp only [Act.put, List.setIfInBounds_toArray, List.set_cons_zero, List.set_cons_succ])
      refine wpAnyH_take (i := 2) (oi := _) (v := ?_) rfl (by kernel_rfl) (by kernel_rfl) (by kernel_rfl) (fun _ _ _ h => h) (Or.inl ⟨by rfl, ?_⟩) hHeld ?_
      rotate_left
      · intro w0 hSw; (try dsimp only at hSw); go_simp; (try with_reducible rfl)
      (try dsimp only [Act.put, List.setIfInBounds_toArray, List.set_cons_zero, List.set_cons_succ])
      refine wpAnyH_take (i := 4) (oi := _) (v := ?_) rfl (by kernel_rfl) (by kernel_rfl) (by kernel_rfl) (fun _ _ _ h => h) (Or.inl ⟨by rfl, ?_⟩) hHeld ?_
      rotate_left
      · intro w0 hSw; (try dsimp only at hSw); go_simp; (try with_reducible rfl)
      (try dsimp only [Act.put, List.setIfInBounds_toArray, List.set_cons_zero, List.set_cons_succ])
      refine wpAnyH_take (i := 5) (oi := _) (v := ?_) rfl (by kernel_rfl) (by kernel_rfl) (by kernel_rfl) (fun _ _ _ h => h) (Or.inl ⟨by rfl, ?_⟩) hHeld ?_
      rotate_left
      · intro w0 hSw; (try dsimp only at hSw); go_simp; (try with_reducible rfl)
      (try dsimp only [Act.put, List.setIfInBounds_toArray, List.set_cons_zero, List.set_cons_succ])
      refine wpAnyH_take (i := 6) (oi := _) (v := ?_) rfl (by kernel_rfl) (by kernel_rfl) (by kernel_rfl) (fun _ _ _ h => h) (Or.inl ⟨by rfl, ?_⟩) hHeld ?_
      rotate_left
      · intro w0 hSw; (try dsimp only at hSw); go_simp; (try with_reducible rfl)
      (try dsimp only [Act.put, List.setIfInBounds_toArray, List.set_cons_zero, List.set_cons_succ])
      refine wpAnyH_take (i := 7) (oi := _) (v := ?_) rfl (by kernel_rfl) (by kernel_rfl) (by kernel_rfl) (fun _ _ _ h => h) (Or.inl ⟨by rfl, ?_⟩) hHeld ?_
      rotate_left
      · intro w0 hSw; (try dsimp only at hSw); go_simp; (try with_reducible rfl)
      (try dsimp only [Act.put, List.setIfInBounds_toArray, List.set_cons_zero, List.set_cons_succ])
      refine wpAnyH_ready (rs := [3]) (by kernel_rfl) (by simp) ?_
      refine AllReadyH.cons (o := _) rfl (fun K hK => ?_) AllReadyH.nil
      go_simp
      refine (HBK.out _).mono ?_
      rintro e w6 ⟨rfl, hbK⟩
      go_wp2_with fail
      refine hK.out _ _ ?_ (fun hHeld => ?_)
      · (try dsimp only); exact ⟨keep_cell hbK hHeld.1, keep_cell hbK hHeld.2.1, keep_cell hbK hHeld.2.2.1, keep_cell hbK hHeld.2.2.2.1, keep_cell hbK hHeld.2.2.2.2.1, keep_cell hbK hHeld.2.2.2.2.2⟩
      clear hK K
      (try dsimp only [Act.put, List.setIfInBounds_toArray, List.set_cons_zero, List.set_cons_succ])
      refine wpAnyH_ready (rs := [8]) (by kernel_rfl) (by simp) ?_
      refine AllReadyH.cons (o := _) rfl (fun K hK => ?_) AllReadyH.nil
      go_simp
      refine (HEN.out _ (B5.out.trans (((Drew.below (drew1 w5) w5.heap.size).trans hbK).mono B5.out.size))).mono ?_
      rintro e w7 ⟨v7, rfl, hbE, hoE⟩
      rw [← HWD.out] at hoE
      obtain ⟨g7, c7, -, rfl, hg7, hg7b, -, -, -⟩ := hoE.form (by rw [HWL.out]; omega)
      rw [HWL.out]
      go_wp2_with fail
      refine hK.out _ _ ?_ (fun hHeld => ?_)
      · (try dsimp only); exact ⟨keep_cell hbE hHeld.1, keep_cell hbE hHeld.2.1, keep_cell hbE hHeld.2.2.1, keep_cell hbE hHeld.2.2.2.1, keep_cell hbE hHeld.2.2.2.2.1, keep_cell hbE hHeld.2.2.2.2.2⟩
      clear hK K
      (try dsimp only [Act.put, List.setIfInBounds_toArray, List.set_cons_zero, List.set_cons_succ])
      have hH7 := hHeld
      refine wpAnyH_ready (rs := [9]) (by kernel_rfl) (by simp) ?_
      refine AllReadyH.cons (o := _) rfl (fun K hK => ?_) AllReadyH.nil
      go_simp
      refine hK.out _ _ ?_ (fun hHeld => ?_)
      · (try dsimp only); exact ⟨keep_cell (below1 w7 _) hHeld.1, keep_cell (below1 w7 _) hHeld.2.1, keep_cell (below1 w7 _) hHeld.2.2.1, keep_cell (below1 w7 _) hHeld.2.2.2.1, keep_cell (below1 w7 _) hHeld.2.2.2.2.1, keep_cell (below1 w7 _) hHeld.2.2.2.2.2⟩
      clear hK K
      (try dsimp only [Act.put, List.setIfInBounds_toArray, List.set_cons_zero, List.set_cons_succ])
      refine wpAnyH_ready (rs := [10]) (by kernel_rfl) (by simp) ?_
      refine AllReadyH.cons (o := _) rfl (fun K hK => ?_) AllReadyH.nil
      have R7 := (R5.out.below ((Drew.below (drew1 w5) w5.heap.size).trans hbK)).below hbE
      refine step_rag rfl _ _ _ rfl Try.underlying55 R7 (g := g7) (c := c7) (zs := wdS p pw g q r n c zs k) (hoE.lower (by have := (B5.out.trans (((Drew.below (drew1 w5) w5.heap.size).trans hbK).mono B5.out.size)).size; omega)) (fun e => by have := (R5.out.top.lt _ e).2; have := ((Drew.below (drew1 w5) w5.heap.size).trans hbK).size; omega) (fun j hj e => by have := (R5.out.rlt hj).2; have := ((Drew.below (drew1 w5) w5.heap.size).trans hbK).size; omega) rfl _ rfl (Sk + c) HWL.out.symm rfl hkk ?_
      intro v8 w8 hr8 hb8
      refine hK.out _ _ ?_ (fun hHeld => ?_)
      · (try dsimp only); exact ⟨(hb8.cell hX1).trans hH7.1, (hb8.cell hX1).trans hH7.2.1, (hb8.cell hX1).trans hH7.2.2.1, (hb8.cell hX1).trans hH7.2.2.2.1, (hb8.cell hX1).trans hH7.2.2.2.2.1, (hb8.cell hX1).trans hH7.2.2.2.2.2⟩
      clear hK K
      (try dsimp only [Act.put, List.setIfInBounds_toArray, List.set_cons_zero, List.set_cons_succ])
      refine wpAnyH_take (i := 11) (oi := _) (v := ?_) rfl (by kernel_rfl) (by kernel_rfl) (by kernel_rfl) (fun _ _ _ h => h) (Or.inl ⟨by rfl, ?_⟩) hHeld ?_
      rotate_left
      · intro w0 hSw; (try dsimp only at hSw); go_simp; (try with_reducible rfl)
      (try dsimp only [Act.put, List.setIfInBounds_toArray, List.set_cons_zero, List.set_cons_succ])
      refine wpAnyH_done (by kernel_rfl) ?_ _
      have hb7 := ((Drew.below (drew1 w5) w5.heap.size).trans hbK).trans (hbE.mono (((Drew.below (drew1 w5) w5.heap.size).trans hbK).size))
      have hB7 := B5.out.trans (hb7.mono B5.out.size)
      have R8 := Lib.hid (show Rag w8 w1.heap.size v8 (k + 1) (k + 1) (fun t => if t = k then g7 else G t) (fun t => if t = k then c7 else cp t) (wdS p pw g q r n c zs) from hr8.congr fun j hj => by
        by_cases e : j = k
        · subst e; rw [if_pos rfl]
        · rw [if_neg e])
      have L8 := Lib.hid ((L5.out.below hb7 L5.out.lt).below hb8 hX1)
      have B8 := Lib.hid (hB7.trans hb8)
      clear hr8 hb8 hb7 hB7 hbE hoE hbK hHeld hH7 k0 k1 k2 k3 k4 k5 R5 L5 B5
      go_wp2_with fail
      go_roundw
      case rel => exact ⟨k + 1, o + Sk, _, _, by omega, by simp, by go_num, Lib.hid HO2.out.symm, R8, L8, B8⟩
      case measure => simp [intOf]; omega
    · obtain rfl : k = n := by omega
      have hki : ¬ (k : Int) < (k : Int) := by omega
      obtain ⟨RW, cvw, rfl, hmc, -, -⟩ := hR.out.form (by omega)
      have R3 := Lib.hid (hR.out.below (below1 wr (.cells #[] 2)))
      have L3 := Lib.hid (hL.out.below (below1 wr (.cells #[] 2)) hL.out.lt)
      have O3 := Lib.hid (OwnL.empty wr w1.heap.size hB.out.size wr.heap.size rfl)
      have hlt3 : w1.heap.size ≤ wr.heap.size := hB.out.size
      have B3 := Lib.hid (hB.out.trans (((Below.refl w1.heap.size wr).alloc hB.out.size (.cells #[] 2))))
      have A3 := Lib.hid (show AptV (.slice (some ⟨wr.heap.size, 0, none⟩) 0 0) (.slice (some ⟨RW, 0, none⟩) k cvw) k G from fun q hq => by
        have : wr.heap.size = q := by simpa [Value.ownBlock] using hq
        subst this
        exact ⟨fun e2 => by have := (hR.out.top.lt _ e2).2; omega, fun j hj e2 => by have := (hR.out.rlt hj).2; omega⟩)
      have hMpos : 0 < k * q + r + k * c := by have : 0 < k * q := Nat.mul_pos (by omega) (by omega); omega
      obtain ⟨hlq, w3, hw3⟩ : (wr.alloc (.cells #[] 2)).heap.size = wr.heap.size + 1 ∧ ∃ w3, wr.alloc (.cells #[] 2) = w3 := ⟨by simp, _, rfl⟩
      rw [hw3] at R3 L3 O3 B3 hlq
      clear k0 k1 k2 k3 k4 hR hB ho
      have j0 := L3.out.c0
      have j1 := L3.out.c1
      have j2 := L3.out.c2
      have j3 := L3.out.c3
      have j4 := L3.out.c4
      have j5 := L3.out.c5
      go_wp2_with fail
      (try rw [hw3])
      clear hw3 hL
      go_wp2_with fail
      refine (l07Order_any p pw g HL.out HTOT.out _).mono ?_
      rintro e w4 ⟨v4, rfl, hb4, G2, cp2, hR4⟩
      have R4 := Lib.hid (R3.out.below hb4)
      have O4 := Lib.hid (O3.out.below hb4)
      have T4 := Lib.hid hR4
      have B4 := Lib.hid (B3.out.trans (hb4.mono B3.out.size))
      have A4 := Lib.hid (show AptV (.slice (some ⟨wr.heap.size, 0, none⟩) 0 0) v4 (ordS q r k c).length G2 from fun q2 hq => by
        have : wr.heap.size = q2 := by simpa [Value.ownBlock] using hq
        subst this
        refine ⟨fun e2 => ?_, fun j hj e2 => ?_⟩
        · have := (hR4.rlt (B := w3.heap.size) (j := 0) (by rw [HLT.out]; omega)).1
          rcases hR4.top.2 with ⟨h0, _⟩ | ⟨gg, _, _, h0, hgg, _⟩
          · rw [h0] at e2; cases e2
          · rw [h0] at e2
            have : gg = wr.heap.size := by simpa [Value.ownBlock] using e2
            omega
        · have := (hR4.rlt hj).1; omega)
      clear hb4 hR4 R3 O3 B3 L3 j0 j1 j2 j3 j4 j5
      obtain ⟨RO, cvo, rfl, hmc2, -, -⟩ := T4.out.form (by rw [HLT.out]; omega)
      obtain ⟨M, hM⟩ : ∃ M, (ordS q r k c).length = M := ⟨_, rfl⟩
      rw [hM] at T4 A4 HLT hmc2 ⊢
      have HM2 := Lib.hid hM
      have hM15 : M ≤ 1500 := by have h1 := HLT.out; have h2 := HTOT.out; have h3 : k * q = q * k := Nat.mul_comm _ _; omega
      go_wp2_with fail
      go_loopw [9, 11] (fun vo t wr => ∃ i : Nat, i ≤ M ∧ t = .int .i64 i ∧ Hid (OwnL wr w1.heap.size vo (strL ((ordS q r k c).take i) (fun b e => gi (wdS p pw g q r k c zs b) e))) ∧ Hid (Rag wr w1.heap.size (.slice (some ⟨RW, 0, none⟩) k cvw) k k G cp (wdS p pw g q r k c zs)) ∧ Hid (Rag wr w3.heap.size (.slice (some ⟨RO, 0, none⟩) M cvo) M M G2 cp2 (prL (ordS q r k c))) ∧ Hid (AptV vo (.slice (some ⟨RW, 0, none⟩) k cvw) k G) ∧ Hid (AptV vo (.slice (some ⟨RO, 0, none⟩) M cvo) M G2) ∧ Hid (Below w1.heap.size w1 wr)) (fun _ t _ => M - (intOf t).toNat)
      case atStart => exact ⟨0, by omega, rfl, O4, R4, T4, A3, A4, B4⟩
      case round =>
        clear O4 R4 T4 A3 A4 B4
        obtain ⟨i, hi, rfl, hO, hR, hT, hA, hA2, hB⟩ := hrel
        by_cases him : i < M
        · have hii : (i : Int) < (M : Int) := by omega
          have hio : i < (ordS q r k c).length := by rw [HM2.out]; exact him
          obtain ⟨xb, xe, hx⟩ : ∃ xb xe, (ordS q r k c)[i] = (xb, xe) := ⟨_, _, rfl⟩
          have hmem : xb < k ∧ xe < shN q r k xb + c := ordS_mem.1 (show (xb, xe) ∈ ordS q r k c by rw [← hx]; exact List.getElem_mem hio)
          have hpr : prL (ordS q r k c) i = [(xb : Int), (xe : Int)] := by
            unfold prL; rw [List.getD_eq_getElem?_getD, List.getElem?_eq_getElem hio, hx]; rfl
          obtain ⟨V, -, -, -, hwl, -⟩ := wd_V (HV.out xb hmem.1) (Nat.le_of_lt hrn) hmem.1 HM.out HZ.out
          have HST := Lib.hid (show strL ((ordS q r k c).take i) (fun b e => gi (wdS p pw g q r k c zs b) e) ++ [gi (wdS p pw g q r k c zs xb) xe] = strL ((ordS q r k c).take (i + 1)) (fun b e => gi (wdS p pw g q r k c zs b) e) by
            rw [List.take_succ_eq_append_getElem hio, strL_snoc, hx])
          have q1 := hT.out.slot him
          have q2 := (hT.out.cell him (i := 0) (by rw [hpr]; simp)).1
          have q3 := (hT.out.cell him (i := 1) (by rw [hpr]; simp)).1
          rw [hpr] at q1 q2 q3
          have q4 := hR.out.slot hmem.1
          have q5 := (hR.out.cell hmem.1 (i := xe) (by rw [hwl]; exact hmem.2)).1
          have hbk : (xb : Int) < (k : Int) := by have := hmem.1; omega
          have hek : (xe : Int) < ((wdS p pw g q r k c zs xb).length : Int) := by rw [hwl]; have := hmem.2; omega
          have hll : (strL ((ordS q r k c).take i) (fun b e => gi (wdS p pw g q r k c zs b) e)).length ≤ 16777216 := by rw [strL_length, List.length_take]; omega
          change wr.cell? ⟨RO, i, none⟩ = some (.slice (some ⟨G2 i, 0, none⟩) 2 (cp2 i)) at q1
          change wr.cell? ⟨G2 i, 0, none⟩ = some (.int .i64 (xb : Int)) at q2
          change wr.cell? ⟨G2 i, 1, none⟩ = some (.int .i64 (xe : Int)) at q3
          generalize gi (wdS p pw g q r k c zs xb) xe = z at *
          generalize (wdS p pw g q r k c zs xb).length = lw at *
          have hxb := hmem.1
          clear hpr hx hmem hwl
          obtain ⟨ao, co, rfl, hco, -⟩ := hO.out.shape
          go_wp2_with fail
          refine wp_region_S (S := (fun w' => w'.cell? ⟨RO, i, none⟩ = some (.slice (some ⟨G2 i, 0, none⟩) 2 (cp2 i)) ∧ w'.cell? ⟨G2 i, 0, none⟩ = some (.int .i64 (xb : Int)) ∧ w'.cell? ⟨G2 i, 1, none⟩ = some (.int .i64 (xe : Int)) ∧ w'.cell? ⟨RW, xb, none⟩ = some (.slice (some ⟨G xb, 0, none⟩) lw (cp xb)) ∧ w'.cell? ⟨G xb, xe, none⟩ = some (.int .i64 z))) 21 rfl (by kernel_rfl) ?_ (fun hHeld => ?_)
          · (try dsimp only); exact ⟨q1, q2, q3, q4, q5⟩
          refine wpAnyH_take (i := 0) (oi := _) (v := ?_) rfl (by kernel_rfl) (by kernel_rfl) (by kernel_rfl) (fun _ _ _ h => h) (Or.inl ⟨by rfl, ?_⟩) hHeld ?_
          rotate_left
          · intro w0 hSw; (try dsimp only at hSw); go_simp; (try with_reducible rfl)
          (try dsimp only [Act.put, List.setIfInBounds_toArray, List.set_cons_zero, List.set_cons_succ])
          refine wpAnyH_take (i := 1) (oi := _) (v := ?_) rfl (by kernel_rfl) (by kernel_rfl) (by kernel_rfl) (fun _ _ _ h => h) (Or.inl ⟨by rfl, ?_⟩) hHeld ?_
          rotate_left
          · intro w0 hSw; (try dsimp only at hSw); go_simp; (try with_reducible rfl)
          (try dsimp only [Act.put, List.setIfInBounds_toArray, List.set_cons_zero, List.set_cons_succ])
          refine wpAnyH_take (i := 2) (oi := _) (v := ?_) rfl (by kernel_rfl) (by kernel_rfl) (by kernel_rfl) (fun _ _ _ h => h) (Or.inl ⟨by rfl, ?_⟩) hHeld ?_
          rotate_left
          · intro w0 hSw; (try dsimp only at hSw); go_simp; (try with_reducible rfl)
          (try dsimp only [Act.put, List.setIfInBounds_toArray, List.set_cons_zero, List.set_cons_succ])
          refine wpAnyH_take (i := 3) (oi := _) (v := ?_) rfl (by kernel_rfl) (by kernel_rfl) (by kernel_rfl) (fun _ _ _ h => h) (Or.inl ⟨by rfl, ?_⟩) hHeld ?_
          rotate_left
          · intro w0 hSw; (try dsimp only at hSw); go_simp; (try with_reducible rfl)
          (try dsimp only [Act.put, List.setIfInBounds_toArray, List.set_cons_zero, List.set_cons_succ])
          refine wpAnyH_take (i := 4) (oi := _) (v := ?_) rfl (by kernel_rfl) (by kernel_rfl) (by kernel_rfl) (fun _ _ _ h => h) (Or.inl ⟨by rfl, ?_⟩) hHeld ?_
          rotate_left
          · intro w0 hSw; (try dsimp only at hSw); go_simp; (try with_reducible rfl)
          (try dsimp only [Act.put, List.setIfInBounds_toArray, List.set_cons_zero, List.set_cons_succ])
          refine wpAnyH_take (i := 5) (oi := _) (v := ?_) rfl (by kernel_rfl) (by kernel_rfl) (by kernel_rfl) (fun _ _ _ h => h) (Or.inl ⟨by rfl, ?_⟩) hHeld ?_
          rotate_left
          · intro w0 hSw; (try dsimp only at hSw); go_simp; (try with_reducible rfl)
          (try dsimp only [Act.put, List.setIfInBounds_toArray, List.set_cons_zero, List.set_cons_succ])
          refine wpAnyH_take (i := 6) (oi := _) (v := ?_) rfl (by kernel_rfl) (by kernel_rfl) (by kernel_rfl) (fun _ _ _ h => h) (Or.inl ⟨by rfl, ?_⟩) hHeld ?_
          rotate_left
          · intro w0 hSw; (try dsimp only at hSw); go_simp; (try with_reducible rfl)
          (try dsimp only [Act.put, List.setIfInBounds_toArray, List.set_cons_zero, List.set_cons_succ])
          refine wpAnyH_take (i := 7) (oi := _) (v := ?_) rfl (by kernel_rfl) (by kernel_rfl) (by kernel_rfl) (fun _ _ _ h => h) (Or.inl ⟨by rfl, ?_⟩) hHeld ?_
          rotate_left
          · intro w0 hSw; (try dsimp only at hSw); go_simp; (try with_reducible rfl)
          (try dsimp only [Act.put, List.setIfInBounds_toArray, List.set_cons_zero, List.set_cons_succ])
          refine wpAnyH_take (i := 8) (oi := _) (v := ?_) rfl (by kernel_rfl) (by kernel_rfl) (by kernel_rfl) (fun _ _ _ h => h) (Or.inl ⟨by rfl, ?_⟩) hHeld ?_
          rotate_left
          · intro w0 hSw; (try dsimp only at hSw); go_simp; (try with_reducible rfl)
          (try dsimp only [Act.put, List.setIfInBounds_toArray, List.set_cons_zero, List.set_cons_succ])
          refine wpAnyH_take (i := 9) (oi := _) (v := ?_) rfl (by kernel_rfl) (by kernel_rfl) (by kernel_rfl) (fun _ _ _ h => h) (Or.inl ⟨by rfl, ?_⟩) hHeld ?_
          rotate_left
          · intro w0 hSw; (try dsimp only at hSw); go_simp; (try with_reducible rfl)
          (try dsimp only [Act.put, List.setIfInBounds_toArray, List.set_cons_zero, List.set_cons_succ])
          refine wpAnyH_take (i := 10) (oi := _) (v := ?_) rfl (by kernel_rfl) (by kernel_rfl) (by kernel_rfl) (fun _ _ _ h => h) (Or.inl ⟨by rfl, ?_⟩) hHeld ?_
          rotate_left
          · intro w0 hSw; (try dsimp only at hSw); go_simp; (try with_reducible rfl)
          (try dsimp only [Act.put, List.setIfInBounds_toArray, List.set_cons_zero, List.set_cons_succ])
          refine wpAnyH_take (i := 11) (oi := _) (v := ?_) rfl (by kernel_rfl) (by kernel_rfl) (by kernel_rfl) (fun _ _ _ h => h) (Or.inl ⟨by rfl, ?_⟩) hHeld ?_
          rotate_left
          · intro w0 hSw; (try dsimp only at hSw); go_simp; (try with_reducible rfl)
          (try dsimp only [Act.put, List.setIfInBounds_toArray, List.set_cons_zero, List.set_cons_succ])
          refine wpAnyH_take (i := 12) (oi := _) (v := ?_) rfl (by kernel_rfl) (by kernel_rfl) (by kernel_rfl) (fun _ _ _ h => h) (Or.inl ⟨by rfl, ?_⟩) hHeld ?_
          rotate_left
          · intro w0 hSw; (try dsimp only at hSw); go_simp; (try with_reducible rfl)
          (try dsimp only [Act.put, List.setIfInBounds_toArray, List.set_cons_zero, List.set_cons_succ])
          refine wpAnyH_take (i := 13) (oi := _) (v := ?_) rfl (by kernel_rfl) (by kernel_rfl) (by kernel_rfl) (fun _ _ _ h => h) (Or.inl ⟨by rfl, ?_⟩) hHeld ?_
          rotate_left
          · intro w0 hSw; (try dsimp only at hSw); go_simp; (try with_reducible rfl)
          (try dsimp only [Act.put, List.setIfInBounds_toArray, List.set_cons_zero, List.set_cons_succ])
          refine wpAnyH_take (i := 14) (oi := _) (v := ?_) rfl (by kernel_rfl) (by kernel_rfl) (by kernel_rfl) (fun _ _ _ h => h) (Or.inl ⟨by rfl, ?_⟩) hHeld ?_
          rotate_left
          · intro w0 hSw; (try dsimp only at hSw); go_simp; (try with_reducible rfl)
          (try dsimp only [Act.put, List.setIfInBounds_toArray, List.set_cons_zero, List.set_cons_succ])
          refine wpAnyH_take (i := 15) (oi := _) (v := ?_) rfl (by kernel_rfl) (by kernel_rfl) (by kernel_rfl) (fun _ _ _ h => h) (Or.inl ⟨by rfl, ?_⟩) hHeld ?_
          rotate_left
          · intro w0 hSw; (try dsimp only at hSw); go_simp; (try with_reducible rfl)
          (try dsimp only [Act.put, List.setIfInBounds_toArray, List.set_cons_zero, List.set_cons_succ])
          refine wpAnyH_take (i := 16) (oi := _) (v := ?_) rfl (by kernel_rfl) (by kernel_rfl) (by kernel_rfl) (fun _ _ _ h => h) (Or.inl ⟨by rfl, ?_⟩) hHeld ?_
          rotate_left
          · intro w0 hSw; (try dsimp only at hSw); go_simp; (try with_reducible rfl)
          (try dsimp only [Act.put, List.setIfInBounds_toArray, List.set_cons_zero, List.set_cons_succ])
          refine wpAnyH_take (i := 17) (oi := _) (v := ?_) rfl (by kernel_rfl) (by kernel_rfl) (by kernel_rfl) (fun _ _ _ h => h) (Or.inl ⟨by rfl, ?_⟩) hHeld ?_
          rotate_left
          · intro w0 hSw; (try dsimp only at hSw); go_simp; (try with_reducible rfl)
          (try dsimp only [Act.put, List.setIfInBounds_toArray, List.set_cons_zero, List.set_cons_succ])
          have hH7 := hHeld
          refine wpAnyH_ready (rs := [18]) (by kernel_rfl) (by simp) ?_
          refine AllReadyH.cons (o := _) rfl (fun K hK => ?_) AllReadyH.nil
          go_simp
          refine hK.out _ _ ?_ (fun hHeld => ?_)
          · (try dsimp only); exact ⟨keep_cell (below1 wr.drew _) hHeld.1, keep_cell (below1 wr.drew _) hHeld.2.1, keep_cell (below1 wr.drew _) hHeld.2.2.1, keep_cell (below1 wr.drew _) hHeld.2.2.2.1, keep_cell (below1 wr.drew _) hHeld.2.2.2.2⟩
          clear hK K
          (try dsimp only [Act.put, List.setIfInBounds_toArray, List.set_cons_zero, List.set_cons_succ])
          refine wpAnyH_ready (rs := [19]) (by kernel_rfl) (by simp) ?_
          refine AllReadyH.cons (o := _) rfl (fun K hK => ?_) AllReadyH.nil
          refine step_oneG rfl _ _ _ rfl Try.underlying26 z (hO.out.below (Drew.below (drew1 wr) _)) rfl _ rfl rfl hll ?_
          intro v8 w8 hown8 hg8 hg8b hat8
          refine hK.out _ _ ?_ (fun hHeld => ?_)
          · (try dsimp only); exact ⟨hg8.cell hH7.1 hA2.out.top, hg8.cell hH7.2.1 (hA2.out.at him), hg8.cell hH7.2.2.1 (hA2.out.at him), hg8.cell hH7.2.2.2.1 hA.out.top, hg8.cell hH7.2.2.2.2 (hA.out.at hxb)⟩
          clear hK K
          (try dsimp only [Act.put, List.setIfInBounds_toArray, List.set_cons_zero, List.set_cons_succ])
          refine wpAnyH_take (i := 20) (oi := _) (v := ?_) rfl (by kernel_rfl) (by kernel_rfl) (by kernel_rfl) (fun _ _ _ h => h) (Or.inl ⟨by rfl, ?_⟩) hHeld ?_
          rotate_left
          · intro w0 hSw; (try dsimp only at hSw); go_simp; (try with_reducible rfl)
          (try dsimp only [Act.put, List.setIfInBounds_toArray, List.set_cons_zero, List.set_cons_succ])
          refine wpAnyH_done (by kernel_rfl) ?_ _
          have O8 := Lib.hid (show OwnL w8 w1.heap.size v8 (strL ((ordS q r k c).take (i + 1)) (fun b e => gi (wdS p pw g q r k c zs b) e)) by rw [← HST.out]; exact hown8)
          have R8 := Lib.hid ((hR.out.below (Drew.below (drew1 wr) _)).grown hg8 hA.out)
          have T8 := Lib.hid ((hT.out.below (Drew.below (drew1 wr) _)).grown hg8 hA2.out)
          have A8 := Lib.hid (hA.out.next (hR.out.below (Drew.below (drew1 wr) _)) (b := wr.drew.heap.size + 1) (by omega) hat8)
          have AA8 := Lib.hid (hA2.out.next (hT.out.below (Drew.below (drew1 wr) _)) (b := wr.drew.heap.size + 1) (by omega) hat8)
          have B8 := Lib.hid (grown_below (hB.out.trans (Drew.below (drew1 wr) _)) (Nat.le_refl _) hg8 (fun q2 hq2 => (hO.out.2.lt q2 hq2).1))
          clear hown8 hg8 hg8b hat8 hHeld hH7 q1 q2 q3 q4 q5 hO hR hT hA hA2 hB HST
          go_wp2_with fail
          go_roundw
          case rel => exact ⟨i + 1, by omega, by go_num, O8, R8, T8, A8, AA8, B8⟩
          case measure => simp [intOf]; omega
        · obtain rfl : i = M := by omega
          have hii : ¬ (i : Int) < (i : Int) := by omega
          have BF := Lib.hid (B0.out.trans (hB.out.mono B0.out.size))
          have OF := Lib.hid (hO.out.lower (C := w.heap.size) (by omega))
          have HTA := Lib.hid (show (ordS q r k c).take i = ordS q r k c from List.take_of_length_le (by rw [HM2.out]; exact Nat.le_refl _))
          go_wp2_with fail
          go_ret
          exact ⟨_, rfl, BF.out, by have h1 := OF.out; rw [HTA.out] at h1; exact h1⟩
end Go.Proofs.Ytfhkkpfiflgofaa
/-
  The reference's EncodeStream and stream code.
-/
namespace Go.Proofs.Ytfhkkpfiflgofaa
open Go.RowKit
set_option linter.unusedVariables false

set_option maxHeartbeats 4000000 in
set_option maxRecDepth 100000 in
theorem specEncodeStreamO_any (p pw g D C N : Int) (w : World) {a : Option Addr} {m cap : Nat} {zs : List Int} (hr : RowAt w a m zs) (hcap : m ≤ cap) :
    Calls Try.prog 10 #[lV p pw g D C N, .slice a m cap] w fun e w' => ∃ v, e = .returned (.tuple #[v, .int .i64 (esC p pw g D C N zs)]) ∧ Below w.heap.size w w' ∧ OwnL w' w.heap.size v (esR p pw g D C N zs) := by
  have HR := Lib.hid hr
  have hlen := Lib.hid hr.len
  have hsm := hr.small
  have HB := Lib.hid (below1 w (.cells #[.int .i64 p, .int .i64 pw, .int .i64 g, .int .i64 D, .int .i64 C, .int .i64 N] LT))
  have L0 := Lib.hid (LB.new w p pw g D C N)
  clear hr
  go_enter Try.func10, Try.ntmps10
  go_wp2_with fail
  refine (specIsLayout_any p pw g D C N _).mono ?_
  rintro e w2 ⟨rfl, hb2⟩
  have B2 := Lib.hid (HB.out.trans (hb2.mono HB.out.size))
  have L2 := Lib.hid (L0.out.below hb2 L0.out.lt)
  clear hb2 HB L0
  cases hlay : layB p pw g D C N with
  | false =>
    obtain ⟨f0, f1⟩ := es_bad (zs := zs) hlay
    have hf0 := Lib.hid f0
    have hf1 := Lib.hid f1
    clear f0 f1 hlay
    go_wp2_with fail
    go_ret2
    exact ⟨_, by rw [hf0.out]; rfl, B2.out, by rw [hf1.out]; exact OwnL.nil _ _ B2.out.size⟩
  | true =>
  obtain ⟨q, r, n, c, hl, htot, hval, hvB⟩ := lay_ok hlay
  have HI := Lib.hid (fun W (hb : Below w.heap.size w W) => l02Is_any p pw g (ranged_of hvB) W (cap := cap) (HR.out.below' hb))
  have HL := Lib.hid hl
  have HTOT := Lib.hid htot
  have HV := Lib.hid hval
  have HLAY := Lib.hid hlay
  have HD := Lib.hid hl.hD
  clear hl htot hval hvB hlay
  have k0 := L2.out.c0
  have k1 := L2.out.c1
  have k2 := L2.out.c2
  have k3 := L2.out.c3
  have k4 := L2.out.c4
  have k5 := L2.out.c5
  by_cases hn : (m : Int) = D
  rotate_left
  · obtain ⟨f0, f1⟩ := es_range (zs := zs) HLAY.out (fun x => hn (by rw [← hlen.out]; exact x.1))
    have hf0 := Lib.hid f0
    have hf1 := Lib.hid f1
    have hn' : ((m : Int) != D) = true := by simp; omega
    clear f0 f1
    go_wp2_with fail
    go_ret2
    exact ⟨_, by rw [hf0.out]; rfl, B2.out, by rw [hf1.out]; exact OwnL.nil _ _ B2.out.size⟩
  have hn' : ((m : Int) != D) = false := by simp; omega
  have HN := Lib.hid hn
  clear hn
  go_wp2_with fail
  refine (HI.out _ B2.out).mono ?_
  rintro e w3 ⟨rfl, hb3⟩
  have B3 := Lib.hid (B2.out.trans (hb3.mono B2.out.size))
  have L3 := Lib.hid (L2.out.below hb3 L2.out.lt)
  clear hb3 k0 k1 k2 k3 k4 k5
  cases hal : allB (ffOf p pw g) zs
  · obtain ⟨f0, f1⟩ := es_range (zs := zs) HLAY.out (fun x => by rw [hal] at x; cases x.2)
    have hf0 := Lib.hid f0
    have hf1 := Lib.hid f1
    clear f0 f1
    go_wp2_with fail
    go_ret2
    exact ⟨_, by rw [hf0.out]; rfl, B3.out, by rw [hf1.out]; exact OwnL.nil _ _ B3.out.size⟩
  · obtain ⟨f0, f1⟩ := es_ok (zs := zs) HLAY.out (by rw [hlen.out]; exact HN.out) hal HL.out
    have hf0 := Lib.hid f0
    have hf1 := Lib.hid f1
    have HE := Lib.hid (l07Encode_any p pw g HL.out HTOT.out HV.out w3 (HR.out.below' B3.out) hcap (by have h1 := HN.out; have h2 := HD.out; omega) hal)
    clear f0 f1
    have k0 := L3.out.c0
    have k1 := L3.out.c1
    have k2 := L3.out.c2
    have k3 := L3.out.c3
    have k4 := L3.out.c4
    have k5 := L3.out.c5
    go_wp2_with fail
    refine HE.out.mono ?_
    rintro e w4 ⟨v4, rfl, hb4, ho4⟩
    have B4 := Lib.hid (B3.out.trans (hb4.mono B3.out.size))
    have O4 := Lib.hid (ho4.lower (C := w.heap.size) B3.out.size)
    clear hb4 ho4
    go_wp2_with fail
    go_ret2
    exact ⟨_, by rw [hf0.out]; rfl, B4.out, by rw [hf1.out]; exact O4.out⟩
end Go.Proofs.Ytfhkkpfiflgofaa
