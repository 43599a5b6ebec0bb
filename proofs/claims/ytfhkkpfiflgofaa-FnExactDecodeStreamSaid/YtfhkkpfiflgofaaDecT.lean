/-
  The reference's DecodeStream.
-/
import Derived.Test.YtfhkkpfiflgofaaBlkC
import Derived.Test.YtfhkkpfiflgofaaWordS
namespace Go.Proofs.Ytfhkkpfiflgofaa
open Go.RowKit
set_option linter.unusedVariables false

set_option maxHeartbeats 8000000 in
set_option maxRecDepth 100000 in
theorem l07Decode_any (p pw g : Int) {D C N : Int} {q r n c : Nat} (hl : LN D C N q r n c) (htot : q * n + r + n * c ≤ 1500) (hval : ∀ b, b < n → validC p pw g ((shN q r n b + c : Nat) : Int) (c : Int) = true) (w : World) {a : Option Addr} {m cap : Nat} {s : List Int} (hr : RowAt w a m s) (hm : m = (ordS q r n c).length) (hs : allB (ffOf p pw g) s = true)
    {a' : Option Addr} {n' cap' : Nat} {E : List Int} (hr' : RowAt w a' n' E) (hris : RisTo 0 (((ordS q r n c).length : Int) - 1) E n') :
    Calls Try.prog 99 #[lV p pw g D C N, .slice a m cap, .slice a' n' cap'] w fun e w' => ∃ v, e = .returned (.tuple #[v, .int .i64 (ddN p pw g q r n c s E), .bool (dsF p pw g q r n c s E)]) ∧ Below w.heap.size w w' ∧ OwnL w' w.heap.size v (ddL p pw g q r n c s E) := by
  have HL := Lib.hid hl
  have HR := Lib.hid hr
  have HR' := Lib.hid hr'
  have HV := Lib.hid hval
  have HS := Lib.hid hs
  have HM := Lib.hid hm
  have HRIS := Lib.hid hris
  have hq := hl.qle
  have hq1 := hl.q1
  have hn1 := hl.n1
  have hn16 := hl.n16
  have hrn := hl.rn
  have hc64 := hl.c64
  have hc1 := hl.c1
  have HTOT := Lib.hid htot
  have HLT := Lib.hid (ordS_length q r n c (Nat.le_of_lt hrn))
  have HSH := Lib.hid (shN_le q r n)
  have HTN := Lib.hid (show D + N * C = (((ordS q r n c).length : Nat) : Int) by
    obtain ⟨mm, hmm, hm2, -⟩ := hl.mul
    have hD := hl.hD
    rw [HLT.out, hmm]
    have : n * q = q * n := Nat.mul_comm _ _
    omega)
  obtain rfl : N = (n : Int) := hl.hN
  obtain rfl : C = (c : Int) := hl.hC
  have hM15 : (ordS q r n c).length ≤ 1500 := by rw [HLT.out]; have h3 : n * q = q * n := Nat.mul_comm _ _; omega
  have L0 := Lib.hid (LB.new w p pw g D c n)
  have B0 := Lib.hid (below1 w (.cells #[.int .i64 p, .int .i64 pw, .int .i64 g, .int .i64 D, .int .i64 (c : Int), .int .i64 (n : Int)] LT))
  have HM15 := Lib.hid hM15
  clear hl hr hr' hval hs htot hris hm hM15
  go_enter Try.func99, Try.ntmps99
  generalize hw1 : w.alloc (.cells #[.int .i64 p, .int .i64 pw, .int .i64 g, .int .i64 D, .int .i64 (c : Int), .int .i64 (n : Int)] LT) = w1 at *
  have k0 := L0.out.c0
  have k1 := L0.out.c1
  have k2 := L0.out.c2
  have k3 := L0.out.c3
  have k4 := L0.out.c4
  have k5 := L0.out.c5
  go_wp2_with fail
  (try rw [hw1])
  clear hw1
  go_wp2_with fail
  refine (l07Words_any p pw g HL.out HTOT.out _ (cap := cap) (HR.out.below' B0.out) HM.out).mono ?_
  rintro e w2 ⟨v2, rfl, hb2, GW, cw, hR2⟩
  have RW2 := Lib.hid hR2
  have L2 := Lib.hid (L0.out.below hb2 L0.out.lt)
  have B2 := Lib.hid (B0.out.trans (hb2.mono B0.out.size))
  obtain ⟨RW, cvw, rfl, -, -, -⟩ := hR2.form (by omega)
  have HSP := Lib.hid (fun W (hb : Below w.heap.size w W) => l07Spread_any (tot := (ordS q r n c).length) (by have := HM15.out; omega) (cap := cap') (HR'.out.below' hb) HRIS.out)
  have HWO := Lib.hid (fun W (aa : Option Addr) (mm cc : Nat) (hrr : RowAt W aa mm (lostL (ordS q r n c).length E)) (hmm : mm = (ordS q r n c).length) => l07Words_any p pw g HL.out HTOT.out W (cap := cc) hrr hmm)
  have HTO := Lib.hid (fun W => l07Total_any p pw g HL.out W)
  rw [HTN.out] at HTO
  have HLL := Lib.hid (lostL_length (ordS q r n c).length E)
  clear hb2 hR2 k0 k1 k2 k3 k4 k5 L0
  have k0 := L2.out.c0
  have k1 := L2.out.c1
  have k2 := L2.out.c2
  have k3 := L2.out.c3
  have k4 := L2.out.c4
  have k5 := L2.out.c5
  obtain ⟨T, hT⟩ : ∃ T, (ordS q r n c).length = T := ⟨_, rfl⟩
  have HT := Lib.hid hT
  rw [hT] at HSP HTO HWO HLL HM15
  clear hT
  go_wp2_with fail
  refine wp_region_S (S := (fun w' => w'.cell? ⟨w.heap.size, 0, none⟩ = some (.int .i64 p) ∧ w'.cell? ⟨w.heap.size, 1, none⟩ = some (.int .i64 pw) ∧ w'.cell? ⟨w.heap.size, 2, none⟩ = some (.int .i64 g) ∧ w'.cell? ⟨w.heap.size, 3, none⟩ = some (.int .i64 D) ∧ w'.cell? ⟨w.heap.size, 4, none⟩ = some (.int .i64 (c : Int)) ∧ w'.cell? ⟨w.heap.size, 5, none⟩ = some (.int .i64 (n : Int)))) 7 rfl (by kernel_rfl) ?_ (fun hHeld => ?_)
  · (try dsimp only); exact ⟨k0, k1, k2, k3, k4, k5⟩
  refine wpAnyH_take (i := 0) (oi := _) (v := ?_) rfl (by kernel_rfl) (by kernel_rfl) (by kernel_rfl) (fun _ _ _ h => h) (Or.inl ⟨by rfl, ?_⟩) hHeld ?_
  rotate_left
  · intro w0 hSw; (try dsimp only at hSw); go_simp; (try with_reducible rfl)
  (try dsimp only [Act.put, List.setIfInBounds_toArray, List.set_cons_zero, List.set_cons_succ])
  refine wpAnyH_take (i := 1) (oi := _) (v := ?_) rfl (by kernel_rfl) (by kernel_rfl) (by kernel_rfl) (fun _ _ _ h => h) (Or.inl ⟨by rfl, ?_⟩) hHeld ?_
  rotate_left
  · intro w0 hSw; (try dsimp only at hSw); go_simp; (try with_reducible rfl)
  (try dsimp only [Act.put, List.setIfInBounds_toArray, List.set_cons_zero, List.set_cons_succ])
  refine wpAnyH_take (i := 2) (oi := _) (v := ?_) rfl (by kernel_rfl) (by kernel_rfl) (by kernel_rfl) (fun _ _ _ h => h) (Or.inl ⟨by rfl, ?_⟩) hHeld ?_
  rotate_left
  · intro w0 hSw; (try dsimp only at hSw); go_simp; (try with_reducible rfl)
  (try dsimp only [Act.put, List.setIfInBounds_toArray, List.set_cons_zero, List.set_cons_succ])
  refine wpAnyH_ready (rs := [3]) (by kernel_rfl) (by simp) ?_
  refine AllReadyH.cons (o := _) rfl (fun K hK => ?_) AllReadyH.nil
  go_simp
  refine (HTO.out _).mono ?_
  rintro e w3 ⟨rfl, hb3⟩
  go_wp2_with fail
  refine hK.out _ _ ?_ (fun hHeld => ?_)
  · (try dsimp only); exact ⟨keep_cell hb3 hHeld.1, keep_cell hb3 hHeld.2.1, keep_cell hb3 hHeld.2.2.1, keep_cell hb3 hHeld.2.2.2.1, keep_cell hb3 hHeld.2.2.2.2.1, keep_cell hb3 hHeld.2.2.2.2.2⟩
  clear hK K
  (try dsimp only [Act.put, List.setIfInBounds_toArray, List.set_cons_zero, List.set_cons_succ])
  refine wpAnyH_ready (rs := [4]) (by kernel_rfl) (by simp) ?_
  refine AllReadyH.cons (o := _) rfl (fun K hK => ?_) AllReadyH.nil
  go_simp
  have hB3 := (Drew.below (drew1 w2) w2.heap.size).trans hb3
  refine (HSP.out _ (B2.out.trans (hB3.mono B2.out.size))).mono ?_
  rintro e w4 ⟨v4, rfl, hb4, ho4⟩
  obtain ⟨a4, c4, rfl, hc4, hn4, hrow4⟩ := ho4.cap
  rw [HLL.out] at hrow4 ⊢
  go_wp2_with fail
  refine hK.out _ _ ?_ (fun hHeld => ?_)
  · (try dsimp only); exact ⟨keep_cell hb4 hHeld.1, keep_cell hb4 hHeld.2.1, keep_cell hb4 hHeld.2.2.1, keep_cell hb4 hHeld.2.2.2.1, keep_cell hb4 hHeld.2.2.2.2.1, keep_cell hb4 hHeld.2.2.2.2.2⟩
  clear hK K
  (try dsimp only [Act.put, List.setIfInBounds_toArray, List.set_cons_zero, List.set_cons_succ])
  refine wpAnyH_ready (rs := [5]) (by kernel_rfl) (by simp) ?_
  refine AllReadyH.cons (o := _) rfl (fun K hK => ?_) AllReadyH.nil
  go_simp
  refine (HWO.out _ a4 _ c4 hrow4.row rfl).mono ?_
  rintro e w5 ⟨v5, rfl, hb5, GM, cm, hR5⟩
  go_wp2_with fail
  refine hK.out _ _ ?_ (fun hHeld => ?_)
  · (try dsimp only); exact ⟨keep_cell hb5 hHeld.1, keep_cell hb5 hHeld.2.1, keep_cell hb5 hHeld.2.2.1, keep_cell hb5 hHeld.2.2.2.1, keep_cell hb5 hHeld.2.2.2.2.1, keep_cell hb5 hHeld.2.2.2.2.2⟩
  clear hK K
  (try dsimp only [Act.put, List.setIfInBounds_toArray, List.set_cons_zero, List.set_cons_succ])
  refine wpAnyH_take (i := 6) (oi := _) (v := ?_) rfl (by kernel_rfl) (by kernel_rfl) (by kernel_rfl) (fun _ _ _ h => h) (Or.inl ⟨by rfl, ?_⟩) hHeld ?_
  rotate_left
  · intro w0 hSw; (try dsimp only at hSw); go_simp; (try with_reducible rfl)
  (try dsimp only [Act.put, List.setIfInBounds_toArray, List.set_cons_zero, List.set_cons_succ])
  refine wpAnyH_done (by kernel_rfl) ?_ _
  have hb25 : Below w2.heap.size w2 w5 := (hB3.trans (hb4.mono hB3.size)).trans (hb5.mono (hB3.trans (hb4.mono hB3.size)).size)
  have L5 := Lib.hid (L2.out.below hb25 L2.out.lt)
  have RW5 := Lib.hid (RW2.out.below hb25)
  have B5 := Lib.hid (B2.out.trans (hb25.mono B2.out.size))
  have RM5 := Lib.hid hR5
  obtain ⟨RM, cvm, rfl, -, -, -⟩ := hR5.form (by omega)
  have O6 := Lib.hid (show OwnL (w5.alloc (.cells #[] 2)) w5.heap.size (.slice (some ⟨w5.heap.size, 0, none⟩) 0 0) (dsTo p pw g q r n c s E 0) from OwnL.empty w5 w5.heap.size (Nat.le_refl _) _ rfl)
  have B6 := Lib.hid (below1 w5 (.cells #[] 2))
  clear hb25 hB3 hb3 hb4 hb5 ho4 hrow4 hR5 hHeld k0 k1 k2 k3 k4 k5 L2 RW2 HSP HTO HWO
  go_wp2_with fail
  go_loopw [11, 12, 13] (fun v nn t wr => ∃ k : Nat, k ≤ n ∧ t = .int .i64 k ∧ nn = .int .i64 ((dsN p pw g q r n c s E k : Nat) : Int) ∧ Hid (∀ j, j < k → cB p pw g q r n c s E j = true) ∧ Hid (OwnL wr w5.heap.size v (dsTo p pw g q r n c s E k)) ∧ Hid (Below w5.heap.size w5 wr)) (fun _ _ t _ => n - (intOf t).toNat)
  case atStart => exact ⟨0, by omega, rfl, rfl, Lib.hid (fun j hj => absurd hj (Nat.not_lt_zero j)), O6, B6⟩
  case round =>
    clear O6 B6
    obtain ⟨k, hk, rfl, rfl, hall, ho, hB⟩ := hrel
    have L7 := Lib.hid (L5.out.below hB.out L5.out.lt)
    have k0 := L7.out.c0
    have k1 := L7.out.c1
    have k2 := L7.out.c2
    have k3 := L7.out.c3
    have k4 := L7.out.c4
    have k5 := L7.out.c5
    by_cases hkn : k < n
    · have hki : (k : Int) < (n : Int) := by omega
      have RW7 := Lib.hid (RW5.out.below hB.out)
      have RM7 := Lib.hid (RM5.out.below hB.out)
      have q1 := RW7.out.slot hkn
      have q2 := RM7.out.slot hkn
      rw [wB_length] at q1 q2
      have HRWK := Lib.hid (fun W (hb : Below wr.heap.size wr W) => (RW7.out.row hkn).below' hb)
      have HRMK := Lib.hid (fun W (hb : Below wr.heap.size wr W) => (RM7.out.row hkn).below' hb)
      have HCW := Lib.hid (RW7.out.caps hkn)
      rw [wB_length] at HRWK HRMK HCW
      obtain ⟨hs1, hs2⟩ := HSH.out k
      have HBK := Lib.hid (fun W => l07Block_any p pw g HL.out k _ rfl (show k ≤ 1000 by omega) W)
      have HSZ := Lib.hid (fun W => l07Size_any p pw g HL.out k _ rfl (show k ≤ 1000 by omega) W)
      have HIX := Lib.hid (fun W (aa : Option Addr) (cc : Nat) (hrr : RowAt W aa (shN q r n k + c) (wB q r n c (lostL T E) k)) => l07Indices_any (cap := cc) hrr (by omega))
      rw [eB_ne hkn T HT.out.symm (shN q r n k + c) (Nat.le_refl _)] at HIX
      change Hid (∀ (W : World) (aa : Option Addr) (cc : Nat) (hrr : RowAt W aa (shN q r n k + c) (wB q r n c (lostL T E) k)), Calls _ _ _ _ fun e w' => ∃ v, e = .returned v ∧ Below W.heap.size W w' ∧ OwnL w' W.heap.size v (eB q r n c E k)) at HIX
      have HCOR := Lib.hid (fun W (a1 : Option Addr) (c1 : Nat) (hr1 : RowAt W a1 (shN q r n k + c) (wB q r n c s k)) (hc1 : shN q r n k + c ≤ c1) (ha1 : a1 = none → c1 = 0) (a2 : Option Addr) (n2 c2 : Nat) (hr2 : RowAt W a2 n2 (eB q r n c E k)) (hc2 : n2 ≤ c2) => blkCorrectS_any (HV.out k hkn) hkn HS.out (cap := c1) hr1 hc1 ha1 (cap' := c2) hr2 hc2)
      have HOL := Lib.hid (fun h => oB_len (E := E) (HV.out k hkn) hkn HS.out h)
      have HTS := Lib.hid (dsTo_succ p pw g q r n c s E k)
      have hdl := dsN_le p pw g q r n c s E k
      have HNS := Lib.hid (show dsN p pw g q r n c s E (k + 1) = dsN p pw g q r n c s E k + (dB p pw g q r n c s E k).length from rfl)
      have HDL := Lib.hid (show (dB p pw g q r n c s E k).length ≤ 1048576 from crD_len _ _ _ _ _ _ _)
      have HTL := Lib.hid (dsTo_len p pw g q r n c s E k)
      obtain ⟨Sk, hSk⟩ : ∃ Sk, shN q r n k = Sk := ⟨_, rfl⟩
      rw [hSk] at hs1 hs2 q1 q2 HRWK HRMK HCW HBK HSZ HIX HCOR HOL HTS
      have e10 : ((Sk + c : Nat) : Int) = (Sk : Int) + (c : Int) := by omega
      rw [e10] at HBK HCOR
      have HDN := Lib.hid hdl
      have hkk : k * 1048576 ≤ 16777216 := by omega
      have hdn2 : dsN p pw g q r n c s E k ≤ 16777216 := by omega
      clear e10 hSk hdl
      go_wp2_with fail
      refine wp_region_S (S := (fun w' => w'.cell? ⟨w.heap.size, 0, none⟩ = some (.int .i64 p) ∧ w'.cell? ⟨w.heap.size, 1, none⟩ = some (.int .i64 pw) ∧ w'.cell? ⟨w.heap.size, 2, none⟩ = some (.int .i64 g) ∧ w'.cell? ⟨w.heap.size, 3, none⟩ = some (.int .i64 D) ∧ w'.cell? ⟨w.heap.size, 4, none⟩ = some (.int .i64 (c : Int)) ∧ w'.cell? ⟨w.heap.size, 5, none⟩ = some (.int .i64 (n : Int)) ∧ w'.cell? ⟨RW, k, none⟩ = some (.slice (some ⟨GW k, 0, none⟩) (Sk + c) (cw k)) ∧ w'.cell? ⟨RM, k, none⟩ = some (.slice (some ⟨GM k, 0, none⟩) (Sk + c) (cm k)))) 20 rfl (by kernel_rfl) ?_ (fun hHeld => ?_)
      · (try dsimp only); exact ⟨k0, k1, k2, k3, k4, k5, q1, q2⟩
      refine wpAnyH_take (i := 0) (oi := _) (v := ?_) rfl (by kernel_rfl) (by kernel_rfl) (by kernel_rfl) (fun _ _ _ h => h) (Or.inl ⟨by rfl, ?_⟩) hHeld ?_
      rotate_left
      · intro w0 hSw; (try dsimp only at hSw); go_simp; (try with_reducible rfl)
      (try dsimp only [Act.put, List.setIfInBounds_toArray, List.set_cons_zero, List.set_cons_succ])
      refine wpAnyH_take (i := 1) (oi := _) (v := ?_) rfl (by kernel_rfl) (by kernel_rfl) (by kernel_rfl) (fun _ _ _ h => h) (Or.inl ⟨by rfl, ?_⟩) hHeld ?_
      rotate_left
      · intro w0 hSw; (try dsimp only at hSw); go_simp; (try with_reducible rfl)
      (try dsimp only [Act.put, List.setIfInBounds_toArray, List.set_cons_zero, List.set_cons_succ])
      refine wpAnyH_take (i := 3) (oi := _) (v := ?_) rfl (by kernel_rfl) (by kernel_rfl) (by kernel_rfl) (fun _ _ _ h => h) (Or.inl ⟨by rfl, ?_⟩) hHeld ?_
      rotate_left
      · intro w0 hSw; (try dsimp only at hSw); go_simp; (try with_reducible rfl)
      (try dsimp only [Act.put, List.setIfInBounds_toArray, List.set_cons_zero, List.set_cons_succ])
      refine wpAnyH_take (i := 4) (oi := _) (v := ?_) rfl (by kernel_rfl) (by kernel_rfl) (by kernel_rfl) (fun _ _ _ h => h) (Or.inl ⟨by rfl, ?_⟩) hHeld ?_
      rotate_left
      · intro w0 hSw; (try dsimp only at hSw); go_simp; (try with_reducible rfl)
      (try dsimp only [Act.put, List.setIfInBounds_toArray, List.set_cons_zero, List.set_cons_succ])
      refine wpAnyH_take (i := 5) (oi := _) (v := ?_) rfl (by kernel_rfl) (by kernel_rfl) (by kernel_rfl) (fun _ _ _ h => h) (Or.inl ⟨by rfl, ?_⟩) hHeld ?_
      rotate_left
      · intro w0 hSw; (try dsimp only at hSw); go_simp; (try with_reducible rfl)
      (try dsimp only [Act.put, List.setIfInBounds_toArray, List.set_cons_zero, List.set_cons_succ])
      refine wpAnyH_take (i := 6) (oi := _) (v := ?_) rfl (by kernel_rfl) (by kernel_rfl) (by kernel_rfl) (fun _ _ _ h => h) (Or.inl ⟨by rfl, ?_⟩) hHeld ?_
      rotate_left
      · intro w0 hSw; (try dsimp only at hSw); go_simp; (try with_reducible rfl)
      (try dsimp only [Act.put, List.setIfInBounds_toArray, List.set_cons_zero, List.set_cons_succ])
      refine wpAnyH_take (i := 7) (oi := _) (v := ?_) rfl (by kernel_rfl) (by kernel_rfl) (by kernel_rfl) (fun _ _ _ h => h) (Or.inl ⟨by rfl, ?_⟩) hHeld ?_
      rotate_left
      · intro w0 hSw; (try dsimp only at hSw); go_simp; (try with_reducible rfl)
      (try dsimp only [Act.put, List.setIfInBounds_toArray, List.set_cons_zero, List.set_cons_succ])
      refine wpAnyH_take (i := 8) (oi := _) (v := ?_) rfl (by kernel_rfl) (by kernel_rfl) (by kernel_rfl) (fun _ _ _ h => h) (Or.inl ⟨by rfl, ?_⟩) hHeld ?_
      rotate_left
      · intro w0 hSw; (try dsimp only at hSw); go_simp; (try with_reducible rfl)
      (try dsimp only [Act.put, List.setIfInBounds_toArray, List.set_cons_zero, List.set_cons_succ])
      refine wpAnyH_take (i := 9) (oi := _) (v := ?_) rfl (by kernel_rfl) (by kernel_rfl) (by kernel_rfl) (fun _ _ _ h => h) (Or.inl ⟨by rfl, ?_⟩) hHeld ?_
      rotate_left
      · intro w0 hSw; (try dsimp only at hSw); go_simp; (try with_reducible rfl)
      (try dsimp only [Act.put, List.setIfInBounds_toArray, List.set_cons_zero, List.set_cons_succ])
      refine wpAnyH_take (i := 10) (oi := _) (v := ?_) rfl (by kernel_rfl) (by kernel_rfl) (by kernel_rfl) (fun _ _ _ h => h) (Or.inl ⟨by rfl, ?_⟩) hHeld ?_
      rotate_left
      · intro w0 hSw; (try dsimp only at hSw); go_simp; (try with_reducible rfl)
      (try dsimp only [Act.put, List.setIfInBounds_toArray, List.set_cons_zero, List.set_cons_succ])
      refine wpAnyH_ready (rs := [2]) (by kernel_rfl) (by simp) ?_
      refine AllReadyH.cons (o := _) rfl (fun K hK => ?_) AllReadyH.nil
      go_simp
      refine (HBK.out _).mono ?_
      rintro e w7 ⟨rfl, hb7⟩
      go_wp2_with fail
      refine hK.out _ _ ?_ (fun hHeld => ?_)
      · (try dsimp only); exact ⟨keep_cell hb7 hHeld.1, keep_cell hb7 hHeld.2.1, keep_cell hb7 hHeld.2.2.1, keep_cell hb7 hHeld.2.2.2.1, keep_cell hb7 hHeld.2.2.2.2.1, keep_cell hb7 hHeld.2.2.2.2.2.1, keep_cell hb7 hHeld.2.2.2.2.2.2.1, keep_cell hb7 hHeld.2.2.2.2.2.2.2⟩
      clear hK K
      (try dsimp only [Act.put, List.setIfInBounds_toArray, List.set_cons_zero, List.set_cons_succ])
      refine wpAnyH_ready (rs := [11]) (by kernel_rfl) (by simp) ?_
      refine AllReadyH.cons (o := _) rfl (fun K hK => ?_) AllReadyH.nil
      go_simp
      have hB7 := (Drew.below (drew1 wr) wr.heap.size).trans hb7
      refine (HIX.out _ _ (cm k) (HRMK.out _ hB7)).mono ?_
      rintro e w8 ⟨v8, rfl, hb8, ho8⟩
      obtain ⟨a8, c8, rfl, hc8, hn8, hrow8⟩ := ho8.cap
      have hB8 := hB7.trans (hb8.mono hB7.size)
      go_wp2_with fail
      refine hK.out _ _ ?_ (fun hHeld => ?_)
      · (try dsimp only); exact ⟨keep_cell hb8 hHeld.1, keep_cell hb8 hHeld.2.1, keep_cell hb8 hHeld.2.2.1, keep_cell hb8 hHeld.2.2.2.1, keep_cell hb8 hHeld.2.2.2.2.1, keep_cell hb8 hHeld.2.2.2.2.2.1, keep_cell hb8 hHeld.2.2.2.2.2.2.1, keep_cell hb8 hHeld.2.2.2.2.2.2.2⟩
      clear hK K
      (try dsimp only [Act.put, List.setIfInBounds_toArray, List.set_cons_zero, List.set_cons_succ])
      refine wpAnyH_ready (rs := [12]) (by kernel_rfl) (by simp) ?_
      refine AllReadyH.cons (o := _) rfl (fun K hK => ?_) AllReadyH.nil
      go_simp
      refine (HCOR.out _ _ (cw k) (HRWK.out _ hB8) HCW.out (fun h => by cases h) a8 _ c8 hrow8.row hc8).mono ?_
      rintro e w9 ⟨v9, v9b, rfl, hb9, hok, zs9, ho9⟩
      go_wp2_with fail
      refine hK.out _ _ ?_ (fun hHeld => ?_)
      · (try dsimp only); exact ⟨keep_cell hb9 hHeld.1, keep_cell hb9 hHeld.2.1, keep_cell hb9 hHeld.2.2.1, keep_cell hb9 hHeld.2.2.2.1, keep_cell hb9 hHeld.2.2.2.2.1, keep_cell hb9 hHeld.2.2.2.2.2.1, keep_cell hb9 hHeld.2.2.2.2.2.2.1, keep_cell hb9 hHeld.2.2.2.2.2.2.2⟩
      clear hK K
      (try dsimp only [Act.put, List.setIfInBounds_toArray, List.set_cons_zero, List.set_cons_succ])
      refine wpAnyH_take (i := 13) (oi := _) (v := ?_) rfl (by kernel_rfl) (by kernel_rfl) (by kernel_rfl) (fun _ _ _ h => h) (Or.inl ⟨by rfl, ?_⟩) hHeld ?_
      rotate_left
      · intro w0 hSw; (try dsimp only at hSw); go_simp; (try with_reducible rfl)
      (try dsimp only [Act.put, List.setIfInBounds_toArray, List.set_cons_zero, List.set_cons_succ])
      refine wpAnyH_take (i := 14) (oi := _) (v := ?_) rfl (by kernel_rfl) (by kernel_rfl) (by kernel_rfl) (fun _ _ _ h => h) (Or.inl ⟨by rfl, ?_⟩) hHeld ?_
      rotate_left
      · intro w0 hSw; (try dsimp only at hSw); go_simp; (try with_reducible rfl)
      (try dsimp only [Act.put, List.setIfInBounds_toArray, List.set_cons_zero, List.set_cons_succ])
      refine wpAnyH_take (i := 15) (oi := _) (v := ?_) rfl (by kernel_rfl) (by kernel_rfl) (by kernel_rfl) (fun _ _ _ h => h) (Or.inl ⟨by rfl, ?_⟩) hHeld ?_
      rotate_left
      · intro w0 hSw; (try dsimp only at hSw); go_simp; (try with_reducible rfl)
      (try dsimp only [Act.put, List.setIfInBounds_toArray, List.set_cons_zero, List.set_cons_succ])
      refine wpAnyH_take (i := 16) (oi := _) (v := ?_) rfl (by kernel_rfl) (by kernel_rfl) (by kernel_rfl) (fun _ _ _ h => h) (Or.inl ⟨by rfl, ?_⟩) hHeld ?_
      rotate_left
      · intro w0 hSw; (try dsimp only at hSw); go_simp; (try with_reducible rfl)
      (try dsimp only [Act.put, List.setIfInBounds_toArray, List.set_cons_zero, List.set_cons_succ])
      refine wpAnyH_take (i := 17) (oi := _) (v := ?_) rfl (by kernel_rfl) (by kernel_rfl) (by kernel_rfl) (fun _ _ _ h => h) (Or.inl ⟨by rfl, ?_⟩) hHeld ?_
      rotate_left
      · intro w0 hSw; (try dsimp only at hSw); go_simp; (try with_reducible rfl)
      (try dsimp only [Act.put, List.setIfInBounds_toArray, List.set_cons_zero, List.set_cons_succ])
      refine wpAnyH_take (i := 18) (oi := _) (v := ?_) rfl (by kernel_rfl) (by kernel_rfl) (by kernel_rfl) (fun _ _ _ h => h) (Or.inl ⟨by rfl, ?_⟩) hHeld ?_
      rotate_left
      · intro w0 hSw; (try dsimp only at hSw); go_simp; (try with_reducible rfl)
      (try dsimp only [Act.put, List.setIfInBounds_toArray, List.set_cons_zero, List.set_cons_succ])
      refine wpAnyH_take (i := 19) (oi := _) (v := ?_) rfl (by kernel_rfl) (by kernel_rfl) (by kernel_rfl) (fun _ _ _ h => h) (Or.inl ⟨by rfl, ?_⟩) hHeld ?_
      rotate_left
      · intro w0 hSw; (try dsimp only at hSw); go_simp; (try with_reducible rfl)
      (try dsimp only [Act.put, List.setIfInBounds_toArray, List.set_cons_zero, List.set_cons_succ])
      refine wpAnyH_done (by kernel_rfl) ?_ _
      have hB9 : Below wr.heap.size wr w9 := hB8.trans (hb9.mono hB8.size)
      have L9 := Lib.hid (L7.out.below hB9 L7.out.lt)
      have O9 := Lib.hid (ho.out.below hB9)
      have B9 := Lib.hid (hB.out.trans (hB9.mono hB.out.size))
      have HOK := Lib.hid hok
      have HLO := Lib.hid (show w5.heap.size ≤ w8.heap.size from Nat.le_trans hB.out.size hB8.size)
      clear hB9 hB8 hB7 hb7 hb8 hb9 ho8 hrow8 hok ho9 hHeld k0 k1 k2 k3 k4 k5 q1 q2 L7 RW7 RM7 HRWK HRMK HCW HBK HIX HCOR ho hB
      cases hcb : cB p pw g q r n c s E k with
      | false =>
        have hf := Lib.hid (dsF_not (E := E) hkn hcb)
        have BF := Lib.hid (B5.out.trans (B9.out.mono B5.out.size))
        clear hcb
        go_wp2_with fail
        go_ret3
        exact ⟨_, by rw [hf.out, (dd_no hf.out).1]; rfl, BF.out, by rw [(dd_no hf.out).2]; exact OwnL.nil _ _ BF.out.size⟩
      | true =>
      obtain ⟨ho1, ho2⟩ := HOK.out hcb
      have hol := HOL.out hcb
      have HCB := Lib.hid hcb
      obtain ⟨g9, c9, -, rfl, -, -, -, hc9, hown9⟩ := ho1.form (by rw [hol]; omega)
      rw [hol] at hc9 hown9 ⊢
      obtain ⟨a9, c9b, rfl, -, -⟩ := ho2.shape
      have HRT := Lib.hid (RowAt.takeN hown9.row (show Sk ≤ Sk + c by omega))
      have k0 := L9.out.c0
      have k1 := L9.out.c1
      have k2 := L9.out.c2
      have k3 := L9.out.c3
      have k4 := L9.out.c4
      have k5 := L9.out.c5
      clear ho1 ho2 hol hcb hown9 HOK HOL
      go_wp2_with fail
      refine (HSZ.out _).mono ?_
      rintro e w10 ⟨rfl, hb10⟩
      have O10 := Lib.hid (O9.out.below hb10)
      have B10 := Lib.hid (B9.out.trans (hb10.mono B9.out.size))
      have HRT10 := Lib.hid (HRT.out.below' hb10)
      have hcap0 : ¬ c9 = 0 := by omega
      have hsc9 : Sk ≤ c9 := by omega
      clear hb10 k0 k1 k2 k3 k4 k5 O9 B9 HRT L9
      have hmc : (Sk : Int) ≤ (c9 : Int) := by omega
      have hln : (dsTo p pw g q r n c s E k).length + Sk ≤ 16777216 := by
        have h1 := HTL.out
        have h2 : k * (q + 1) ≤ 16 * 1501 := Nat.mul_le_mul (by omega) (by omega)
        omega
      obtain ⟨dl, hdl⟩ : ∃ dl, (dB p pw g q r n c s E k).length = dl := ⟨_, rfl⟩
      rw [hdl] at HNS HDL ⊢
      have hdl2 := HDL.out
      clear hdl
      go_wp2_with (at_builtin; refine append_row rfl _ _ _ rfl Try.underlying26 O10.out rfl _ HRT10.out rfl (fun h => by cases h) hln ?_; intro v11 w11 hown11 hb11)
      rw [← HTS.out] at hown11
      have O11 := Lib.hid hown11
      have B11 := Lib.hid (B10.out.trans hb11)
      have HALL := Lib.hid (show ∀ j, j < k + 1 → cB p pw g q r n c s E j = true from fun j hj => by
        by_cases e : j = k
        · rw [e]; exact HCB.out
        · exact hall.out j (by omega))
      obtain ⟨dn, hdn⟩ : ∃ dn, dsN p pw g q r n c s E k = dn := ⟨_, rfl⟩
      rw [hdn] at HNS hdn2 ⊢
      have z2 : IntKind.i64.wrap ((dn : Int) + (dl : Int)) = (dn : Int) + (dl : Int) := IntWalk.i64_in _ (by omega)
      have HZ2 := Lib.hid z2
      clear z2
      have z1 : wrap64 ((dn : Int) + (dl : Int)) = (dn : Int) + (dl : Int) := IntWalk.wrap64_in _ (by omega)
      have z2 := HZ2.out
      clear hown11 hb11 hdn O10 B10 hall HRT10
      go_wp2_with fail
      clear z1 z2
      go_roundw
      case rel => exact ⟨k + 1, by omega, by go_num, by rw [HNS.out]; simp, HALL, O11, B11⟩
      case measure => simp [intOf]; omega
    · obtain rfl : k = n := by omega
      have hki : ¬ (k : Int) < (k : Int) := by omega
      have hf := Lib.hid (dsF_yes hall.out)
      have BF := Lib.hid (B5.out.trans (hB.out.mono B5.out.size))
      have OF := Lib.hid (ho.out.lower (C := w.heap.size) B5.out.size)
      clear hall ho hB
      go_wp2_with fail
      go_ret3
      exact ⟨_, by rw [hf.out, (dd_yes hf.out).1]; rfl, BF.out, by rw [(dd_yes hf.out).2]; exact OF.out⟩
end Go.Proofs.Ytfhkkpfiflgofaa
