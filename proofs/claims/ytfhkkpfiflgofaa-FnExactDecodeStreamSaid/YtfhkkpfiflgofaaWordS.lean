/-
  The reference's words of a stream.
-/
import Derived.Test.YtfhkkpfiflgofaaDecS
import Derived.Test.YtfhkkpfiflgofaaOrd
namespace Go.Proofs.Ytfhkkpfiflgofaa
open Go.RowKit
set_option linter.unusedVariables false

set_option maxHeartbeats 8000000 in
set_option maxRecDepth 100000 in
theorem l07Words_any (p pw g : Int) {D C N : Int} {q r n c : Nat} (hl : LN D C N q r n c) (htot : q * n + r + n * c ≤ 1500) (w : World) {a : Option Addr} {m cap : Nat} {zs : List Int} (hr : RowAt w a m zs) (hm : m = (ordS q r n c).length) :
    Calls Try.prog 142 #[lV p pw g D C N, .slice a m cap] w fun e w' => ∃ v, e = .returned v ∧ Below w.heap.size w w' ∧ ∃ G cp, Rag w' w.heap.size v n n G cp (wB q r n c zs) := by
  have HL := Lib.hid hl
  have HR := Lib.hid hr
  have HM := Lib.hid hm
  have hq := hl.qle
  have hq1 := hl.q1
  have hn1 := hl.n1
  have hn16 := hl.n16
  have hrn := hl.rn
  have hc64 := hl.c64
  have hc1 := hl.c1
  have HTOT := Lib.hid htot
  have HLT := Lib.hid (ordS_length q r n c (Nat.le_of_lt hrn))
  have HSH := Lib.hid (shN_le q r n)
  obtain rfl : N = (n : Int) := hl.hN
  obtain rfl : C = (c : Int) := hl.hC
  have hMpos : 0 < (ordS q r n c).length := by rw [HLT.out]; have : 0 < n * q := Nat.mul_pos (by omega) (by omega); omega
  have hM15 : (ordS q r n c).length ≤ 1500 := by rw [HLT.out]; have h3 : n * q = q * n := Nat.mul_comm _ _; omega
  have hmpos : 0 < m := by omega
  obtain ⟨ba, oa, rfl, hba, -⟩ := hr.at' hmpos
  have L0 := Lib.hid (LB.new w p pw g D c n)
  have B0 := Lib.hid (below1 w (.cells #[.int .i64 p, .int .i64 pw, .int .i64 g, .int .i64 D, .int .i64 (c : Int), .int .i64 (n : Int)] LT))
  have hmb : m ≤ 1500 := by omega
  clear hl hr htot
  go_enter Try.func142, Try.ntmps142
  generalize hw1 : w.alloc (.cells #[.int .i64 p, .int .i64 pw, .int .i64 g, .int .i64 D, .int .i64 (c : Int), .int .i64 (n : Int)] LT) = w1 at *
  have hX1 : w.heap.size < w1.heap.size := L0.out.lt
  have R2 := Lib.hid (Rag.empty w1 w1.heap.size (Nat.le_refl _) w1.heap.size rfl (fun _ => 0) (fun _ => 0) (fun b => splR (ordS q r n c) zs 0 b (shN q r n b + c)))
  have L2 := Lib.hid (L0.out.below (below1 w1 (.cells #[] 26)) L0.out.lt)
  have B2 := Lib.hid (below1 w1 (.cells #[] 26))
  clear hm hM15 hMpos
  go_wp2_with fail
  (try rw [hw1])
  clear hw1
  generalize w1.alloc (.cells #[] 26) = w2 at *
  go_loopw [5, 6] (fun v t wr => ∃ (k : Nat) (G cp : Nat → Nat), k ≤ n ∧ t = .int .i64 k ∧ Hid (Rag wr w1.heap.size v k k G cp (fun b => splR (ordS q r n c) zs 0 b (shN q r n b + c))) ∧ Hid (LB wr w.heap.size p pw g D c n) ∧ Hid (Below w1.heap.size w1 wr)) (fun _ t _ => n - (intOf t).toNat)
  case atStart => exact ⟨0, _, _, by omega, rfl, R2, L2, B2⟩
  case round =>
    clear R2 L2 B2
    obtain ⟨k, G, cp, hk, rfl, hR, hL, hB⟩ := hrel
    have k0 := hL.out.c0
    have k1 := hL.out.c1
    have k2 := hL.out.c2
    have k3 := hL.out.c3
    have k4 := hL.out.c4
    have k5 := hL.out.c5
    by_cases hkn : k < n
    · have hki : (k : Int) < (n : Int) := by omega
      have HSZ := Lib.hid (fun W => l07Size_any p pw g HL.out k _ rfl (show k ≤ 1000 by omega) W)
      obtain ⟨hs1, hs2⟩ := HSH.out k
      have HSP := Lib.hid (fun len : Nat => splR_zero (ordS q r n c) zs k len)
      have HSL := Lib.hid (fun len : Nat => splR_length (ordS q r n c) zs 0 k len)
      obtain ⟨Sk, hSk⟩ : ∃ Sk, shN q r n k = Sk := ⟨_, rfl⟩
      have HSK := Lib.hid hSk
      rw [hSk] at hs1 hs2 HSZ
      have hkk : k ≤ 100000 := by omega
      have htn : ((Sk : Int) + (c : Int)).toNat = Sk + c := by omega
      have hmk := fun w => run_make_ints w 26 Try.underlying26 ((Sk : Int) + (c : Int)) (by omega) (by omega)
      rw [htn] at hmk
      have hsc : Sk + c ≤ 16777216 := by omega
      have y1 : -1000000 ≤ (Sk : Int) + (c : Int) ∧ (Sk : Int) + (c : Int) ≤ 1000000 := by omega
      clear htn hSk
      obtain ⟨at_, cv, rfl, hmc, hac⟩ := hR.out.shape
      obtain ⟨v1, v2⟩ := wraps y1
      clear y1
      go_wp2_with fail
      refine wp_region_S (S := (fun w' => w'.cell? ⟨w.heap.size, 0, none⟩ = some (.int .i64 p) ∧ w'.cell? ⟨w.heap.size, 1, none⟩ = some (.int .i64 pw) ∧ w'.cell? ⟨w.heap.size, 2, none⟩ = some (.int .i64 g) ∧ w'.cell? ⟨w.heap.size, 3, none⟩ = some (.int .i64 D) ∧ w'.cell? ⟨w.heap.size, 4, none⟩ = some (.int .i64 (c : Int)) ∧ w'.cell? ⟨w.heap.size, 5, none⟩ = some (.int .i64 (n : Int)))) 11 rfl (by kernel_rfl) ?_ (fun hHeld => ?_)
      · (try dsimp only); exact ⟨k0, k1, k2, k3, k4, k5⟩
      refine wpAnyH_take (i := 0) (oi := _) (v := ?_) rfl (by kernel_rfl) (by kernel_rfl) (by kernel_rfl) (fun _ _ _ h => h) (Or.inl ⟨by rfl, ?_⟩) hHeld ?_
      rotate_left
      · intro w0 hSw; (try dsimp only at hSw); go_simp; (try with_reducible rfl)
      (try dsimp only [Act.put, List.setIfInBounds_toArray, List.set_cons_zero, List.set_cons_succ])
      refine wpAnyH_take (i := 1) (oi := _) (v := ?_) rfl (by kernel_rfl) (by kernel_rfl) (by kernel_rfl) (fun _ _ _ h => h) (Or.inl ⟨by rfl, ?_⟩) hHeld ?_
      rotate_left
      · intro w0 hSw; (try dsimp only at hSw); go_simp; (try with_reducible rfl)
      (try dsimp only [Act.put, List.setIfInBounds_toArray, List.set_cons_zero, List.set_cons_succ])
      refine wpAnyH_take (i := 2) (oi := _) (v := ?_) rfl (by kernel_rfl) (by kernel_rfl) (by kernel_rfl) (fun _ _ _ h => h) (Or.inl ⟨by rfl, ?_⟩) hHeld ?_
      rotate_left
      · intro w0 hSw; (try dsimp only at hSw); go_simp; (try with_reducible rfl)
      (try dsimp only [Act.put, List.setIfInBounds_toArray, List.set_cons_zero, List.set_cons_succ])
      refine wpAnyH_take (i := 4) (oi := _) (v := ?_) rfl (by kernel_rfl) (by kernel_rfl) (by kernel_rfl) (fun _ _ _ h => h) (Or.inl ⟨by rfl, ?_⟩) hHeld ?_
      rotate_left
      · intro w0 hSw; (try dsimp only at hSw); go_simp; (try with_reducible rfl)
      (try dsimp only [Act.put, List.setIfInBounds_toArray, List.set_cons_zero, List.set_cons_succ])
      refine wpAnyH_take (i := 5) (oi := _) (v := ?_) rfl (by kernel_rfl) (by kernel_rfl) (by kernel_rfl) (fun _ _ _ h => h) (Or.inl ⟨by rfl, ?_⟩) hHeld ?_
      rotate_left
      · intro w0 hSw; (try dsimp only at hSw); go_simp; (try with_reducible rfl)
      (try dsimp only [Act.put, List.setIfInBounds_toArray, List.set_cons_zero, List.set_cons_succ])
      refine wpAnyH_ready (rs := [3]) (by kernel_rfl) (by simp) ?_
      refine AllReadyH.cons (o := _) rfl (fun K hK => ?_) AllReadyH.nil
      go_simp
      refine (HSZ.out _).mono ?_
      rintro e w6 ⟨rfl, hbK⟩
      go_wp2_with fail
      refine hK.out _ _ ?_ (fun hHeld => ?_)
      · (try dsimp only); exact ⟨keep_cell hbK hHeld.1, keep_cell hbK hHeld.2.1, keep_cell hbK hHeld.2.2.1, keep_cell hbK hHeld.2.2.2.1, keep_cell hbK hHeld.2.2.2.2.1, keep_cell hbK hHeld.2.2.2.2.2⟩
      clear hK K
      (try dsimp only [Act.put, List.setIfInBounds_toArray, List.set_cons_zero, List.set_cons_succ])
      refine wpAnyH_take (i := 6) (oi := _) (v := ?_) rfl (by kernel_rfl) (by kernel_rfl) (by kernel_rfl) (fun _ _ _ h => h) (Or.inl ⟨by rfl, ?_⟩) hHeld ?_
      rotate_left
      · intro w0 hSw; (try dsimp only at hSw); go_simp; (try with_reducible rfl)
      (try dsimp only [Act.put, List.setIfInBounds_toArray, List.set_cons_zero, List.set_cons_succ])
      refine wpAnyH_ready (rs := [7]) (by kernel_rfl) (by simp) ?_
      refine AllReadyH.cons (o := _) rfl (fun K hK => ?_) AllReadyH.nil
      go_simp
      refine hK.out _ _ ?_ (fun hHeld => ?_)
      · (try dsimp only); exact ⟨keep_cell (below1 w6 _) hHeld.1, keep_cell (below1 w6 _) hHeld.2.1, keep_cell (below1 w6 _) hHeld.2.2.1, keep_cell (below1 w6 _) hHeld.2.2.2.1, keep_cell (below1 w6 _) hHeld.2.2.2.2.1, keep_cell (below1 w6 _) hHeld.2.2.2.2.2⟩
      clear hK K
      (try dsimp only [Act.put, List.setIfInBounds_toArray, List.set_cons_zero, List.set_cons_succ])
      have hH7 := hHeld
      refine wpAnyH_ready (rs := [8]) (by kernel_rfl) (by simp) ?_
      refine AllReadyH.cons (o := _) rfl (fun K hK => ?_) AllReadyH.nil
      go_simp
      refine hK.out _ _ ?_ (fun hHeld => ?_)
      · (try dsimp only); exact ⟨keep_cell (below1 (w6.alloc _) _) hHeld.1, keep_cell (below1 (w6.alloc _) _) hHeld.2.1, keep_cell (below1 (w6.alloc _) _) hHeld.2.2.1, keep_cell (below1 (w6.alloc _) _) hHeld.2.2.2.1, keep_cell (below1 (w6.alloc _) _) hHeld.2.2.2.2.1, keep_cell (below1 (w6.alloc _) _) hHeld.2.2.2.2.2⟩
      clear hK K
      (try dsimp only [Act.put, List.setIfInBounds_toArray, List.set_cons_zero, List.set_cons_succ])
      refine wpAnyH_ready (rs := [9]) (by kernel_rfl) (by simp) ?_
      refine AllReadyH.cons (o := _) rfl (fun K hK => ?_) AllReadyH.nil
      have hb7 := ((Drew.below (drew1 wr) wr.heap.size).trans hbK).trans ((below1 w6 (.cells (madeCells #[.int .i64 0] (Sk + c)) 2)).mono (((Drew.below (drew1 wr) wr.heap.size).trans hbK).size))
      have R7 := hR.out.below hb7
      have hsz6 := ((Drew.below (drew1 wr) wr.heap.size).trans hbK).size
      have hsz1 := hB.out.size
      have hrow7 : OwnL (w6.alloc (.cells (madeCells #[.int .i64 0] (Sk + c)) 2)) w1.heap.size (.slice (some ⟨w6.heap.size, 0, none⟩) (splR (ordS q r n c) zs 0 k (Sk + c)).length (Sk + c)) (splR (ordS q r n c) zs 0 k (Sk + c)) := (by rw [HSL.out, HSP.out]; exact OwnL.zeros w6 w1.heap.size (Nat.le_trans hsz1 hsz6) (Sk + c) hsc)
      refine step_rag rfl _ _ _ rfl Try.underlying55 R7 hrow7 (fun e => absurd (hR.out.top.lt _ e).2 (Nat.not_lt.2 hsz6)) (fun j hj e => absurd (e ▸ (hR.out.rlt hj).2) (Nat.not_lt.2 hsz6)) rfl (w6.heap.size + 1) (by simp) (Sk + c) (HSL.out _).symm rfl hkk ?_
      intro v8 w8 hr8 hb8
      refine hK.out _ _ ?_ (fun hHeld => ?_)
      · (try dsimp only); exact ⟨(hb8.cell hX1).trans hH7.1, (hb8.cell hX1).trans hH7.2.1, (hb8.cell hX1).trans hH7.2.2.1, (hb8.cell hX1).trans hH7.2.2.2.1, (hb8.cell hX1).trans hH7.2.2.2.2.1, (hb8.cell hX1).trans hH7.2.2.2.2.2⟩
      clear hK K
      (try dsimp only [Act.put, List.setIfInBounds_toArray, List.set_cons_zero, List.set_cons_succ])
      refine wpAnyH_take (i := 10) (oi := _) (v := ?_) rfl (by kernel_rfl) (by kernel_rfl) (by kernel_rfl) (fun _ _ _ h => h) (Or.inl ⟨by rfl, ?_⟩) hHeld ?_
      rotate_left
      · intro w0 hSw; (try dsimp only at hSw); go_simp; (try with_reducible rfl)
      (try dsimp only [Act.put, List.setIfInBounds_toArray, List.set_cons_zero, List.set_cons_succ])
      refine wpAnyH_done (by kernel_rfl) ?_ _
      clear v1 v2
      have R8 := Lib.hid (show Rag w8 w1.heap.size v8 (k + 1) (k + 1) (fun t => if t = k then w6.heap.size else G t) (fun t => if t = k then Sk + c else cp t) (fun b => splR (ordS q r n c) zs 0 b (shN q r n b + c)) from hr8.congr fun j hj => by
        by_cases e : j = k
        · subst e; rw [if_pos rfl, HSK.out]
        · rw [if_neg e])
      have L8 := Lib.hid ((hL.out.below hb7 hL.out.lt).below hb8 hX1)
      have B8 := Lib.hid ((hB.out.trans (hb7.mono hB.out.size)).trans hb8)
      clear hr8 hb8 hb7 hbK hHeld hH7 k0 k1 k2 k3 k4 k5 hR hL hB R7 hrow7 hmk hsz6 hsz1
      go_wp2_with fail
      go_roundw
      case rel => exact ⟨k + 1, _, _, by omega, by go_num, R8, L8, B8⟩
      case measure => simp [intOf]; omega
    · obtain rfl : k = n := by omega
      obtain ⟨wo, rfl⟩ : ∃ wo : World, wo = wr := ⟨_, rfl⟩
      have hki : ¬ (k : Int) < (k : Int) := by omega
      obtain ⟨RW, cvw, rfl, hmc, -, -⟩ := hR.out.form (by omega)
      go_wp2_with fail
      refine (l07Order_any p pw g HL.out HTOT.out _).mono ?_
      rintro e w4 ⟨v4, rfl, hb4, G2, cp2, hR4⟩
      have R4 := Lib.hid (hR.out.below hb4)
      have T4 := Lib.hid hR4
      have B4 := Lib.hid (hB.out.trans (hb4.mono hB.out.size))
      have HX4 := Lib.hid (show w1.heap.size ≤ wo.heap.size from hB.out.size)
      have HGL := Lib.hid (fun j hj => (hR.out.rlt (j := j) hj).2)
      have hRL := (hR.out.top.lt _ rfl).2
      clear hb4 hR4 hR hL hB k0 k1 k2 k3 k4 k5
      obtain ⟨RO, cvo, rfl, hmc2, hRO, -⟩ := T4.out.form (by rw [← HM.out]; omega)
      obtain ⟨M, hM⟩ : ∃ M, (ordS q r k c).length = M := ⟨_, rfl⟩
      have HM2 := Lib.hid hM
      have HMM := Lib.hid HM.out
      rw [hM] at T4 HMM hmc2 ⊢
      obtain rfl : m = M := HMM.out
      clear hM
      go_wp2_with fail
      go_loopw [8] (fun t wr => ∃ i : Nat, i ≤ m ∧ t = .int .i64 i ∧ Hid (Rag wr w1.heap.size (.slice (some ⟨RW, 0, none⟩) k cvw) k k G cp (fun b => splR (ordS q r k c) zs i b (shN q r k b + c))) ∧ Hid (Rag wr wo.heap.size (.slice (some ⟨RO, 0, none⟩) m cvo) m m G2 cp2 (prL (ordS q r k c))) ∧ Hid (Below w1.heap.size w1 wr)) (fun t _ => m - (intOf t).toNat)
      case atStart => exact ⟨0, by omega, rfl, R4, T4, B4⟩
      case round =>
        clear R4 T4 B4
        obtain ⟨i, hi, rfl, hR, hT, hB⟩ := hrel
        by_cases him : i < m
        · have hii : (i : Int) < (m : Int) := by omega
          have hio : i < (ordS q r k c).length := by rw [HM2.out]; exact him
          obtain ⟨xb, xe, hx⟩ : ∃ xb xe, (ordS q r k c)[i] = (xb, xe) := ⟨_, _, rfl⟩
          have hmem : xb < k ∧ xe < shN q r k xb + c := ordS_mem.1 (show (xb, xe) ∈ ordS q r k c by rw [← hx]; exact List.getElem_mem hio)
          have hpr : prL (ordS q r k c) i = [(xb : Int), (xe : Int)] := by
            unfold prL; rw [List.getD_eq_getElem?_getD, List.getElem?_eq_getElem hio, hx]; rfl
          have hs1 := splR_step (ordS_nodup q r k c) zs hio (shN q r k xb + c)
          have hs2 := fun b (hb : b ≠ xb) => splR_other (ordS_nodup q r k c) zs hio (b := b) (by rw [hx]; exact hb) (shN q r k b + c)
          rw [hx] at hs1
          have q1 := hT.out.slot him
          have q2 := (hT.out.cell him (i := 0) (by rw [hpr]; simp)).1
          have q3 := (hT.out.cell him (i := 1) (by rw [hpr]; simp)).1
          rw [hpr] at q1 q2 q3
          have q4 := hR.out.slot hmem.1
          obtain ⟨q5, q5f⟩ := hR.out.cell hmem.1 (i := xe) (by rw [splR_length]; exact hmem.2)
          rw [splR_length] at q4
          obtain ⟨b1, o1, eb, -, hcs⟩ := (HR.out.below' (B0.out.trans (hB.out.mono B0.out.size))).at' (by omega)
          cases eb
          have q6 := hcs i him
          have hbk : (xb : Int) < (k : Int) := by have := hmem.1; omega
          have hek : (xe : Int) < ((shN q r k xb + c : Nat) : Int) := by have := hmem.2; omega
          have R9 := Lib.hid (hR.out.below (Drew.below (drew1 wr) _))
          have R10 := Lib.hid (show Rag (wr.drew.setCell ⟨G xb, xe, none⟩ (.int .i64 (gi zs i))) w1.heap.size (.slice (some ⟨RW, 0, none⟩) k cvw) k k G cp (fun b => splR (ordS q r k c) zs (i + 1) b (shN q r k b + c)) from
            (R9.out.set hmem.1 (i := xe) (by rw [splR_length]; exact hmem.2) (gi zs i)).congr fun j hj => by
              by_cases e : j = xb
              · subst e; rw [if_pos rfl]; exact hs1.symm
              · rw [if_neg e]; exact (hs2 j e).symm)
          have hGx := HGL.out xb hmem.1
          have T10 := Lib.hid ((hT.out.below (Drew.below (drew1 wr) _)).other (H := G xb) (o := xe) (fun e => by have := (hT.out.top.lt _ e).1; omega) (fun j hj e => by have := (hT.out.rlt hj).1; omega) (.int .i64 (gi zs i)))
          have B10 := Lib.hid ((hB.out.trans (Drew.below (drew1 wr) _)).setCell (p := ⟨G xb, xe, none⟩) (hR.out.rlt hmem.1).1 (.int .i64 (gi zs i)))
          change wr.cell? ⟨RO, i, none⟩ = some (.slice (some ⟨G2 i, 0, none⟩) 2 (cp2 i)) at q1
          change wr.cell? ⟨G2 i, 0, none⟩ = some (.int .i64 (xb : Int)) at q2
          change wr.cell? ⟨G2 i, 1, none⟩ = some (.int .i64 (xe : Int)) at q3
          generalize gi (splR (ordS q r k c) zs i xb (shN q r k xb + c)) xe = z0 at *
          generalize gi zs i = z at *
          generalize shN q r k xb + c = lw at *
          clear hpr hx hmem hs1 hs2 hcs R9
          go_wp2_with fail
          refine wp_region_last (S := (fun w' => w'.cell? ⟨RO, i, none⟩ = some (.slice (some ⟨G2 i, 0, none⟩) 2 (cp2 i)) ∧ w'.cell? ⟨G2 i, 0, none⟩ = some (.int .i64 (xb : Int)) ∧ w'.cell? ⟨G2 i, 1, none⟩ = some (.int .i64 (xe : Int)) ∧ w'.cell? ⟨RW, xb, none⟩ = some (.slice (some ⟨G xb, 0, none⟩) lw (cp xb)) ∧ w'.cell? ⟨ba, oa + i, none⟩ = some (.int .i64 z))) 20 (by kernel_rfl) rfl (by kernel_rfl) ?_ (fun hHeld => ?_)
          · (try dsimp only); exact ⟨q1, q2, q3, q4, q6⟩
          simp only [List.take_succ_cons, List.take_zero]
          refine wpAnyH_take (i := 0) (oi := _) (v := ?_) rfl (by kernel_rfl) (by kernel_rfl) (by kernel_rfl) (fun _ _ _ h => h) (Or.inl ⟨by rfl, ?_⟩) hHeld ?_
          rotate_left
          · intro w0 hSw; (try dsimp only at hSw); go_simp; (try with_reducible rfl)
          (try dsimp only [Act.put, List.setIfInBounds_toArray, List.set_cons_zero, List.set_cons_succ])
          refine wpAnyH_take (i := 1) (oi := _) (v := ?_) rfl (by kernel_rfl) (by kernel_rfl) (by kernel_rfl) (fun _ _ _ h => h) (Or.inl ⟨by rfl, ?_⟩) hHeld ?_
          rotate_left
          · intro w0 hSw; (try dsimp only at hSw); go_simp; (try with_reducible rfl)
          (try dsimp only [Act.put, List.setIfInBounds_toArray, List.set_cons_zero, List.set_cons_succ])
          refine wpAnyH_take (i := 2) (oi := _) (v := ?_) rfl (by kernel_rfl) (by kernel_rfl) (by kernel_rfl) (fun _ _ _ h => h) (Or.inl ⟨by rfl, ?_⟩) hHeld ?_
          rotate_left
          · intro w0 hSw; (try dsimp only at hSw); go_simp; (try with_reducible rfl)
          (try dsimp only [Act.put, List.setIfInBounds_toArray, List.set_cons_zero, List.set_cons_succ])
          refine wpAnyH_take (i := 3) (oi := _) (v := ?_) rfl (by kernel_rfl) (by kernel_rfl) (by kernel_rfl) (fun _ _ _ h => h) (Or.inl ⟨by rfl, ?_⟩) hHeld ?_
          rotate_left
          · intro w0 hSw; (try dsimp only at hSw); go_simp; (try with_reducible rfl)
          (try dsimp only [Act.put, List.setIfInBounds_toArray, List.set_cons_zero, List.set_cons_succ])
          refine wpAnyH_take (i := 4) (oi := _) (v := ?_) rfl (by kernel_rfl) (by kernel_rfl) (by kernel_rfl) (fun _ _ _ h => h) (Or.inl ⟨by rfl, ?_⟩) hHeld ?_
          rotate_left
          · intro w0 hSw; (try dsimp only at hSw); go_simp; (try with_reducible rfl)
          (try dsimp only [Act.put, List.setIfInBounds_toArray, List.set_cons_zero, List.set_cons_succ])
          refine wpAnyH_take (i := 5) (oi := _) (v := ?_) rfl (by kernel_rfl) (by kernel_rfl) (by kernel_rfl) (fun _ _ _ h => h) (Or.inl ⟨by rfl, ?_⟩) hHeld ?_
          rotate_left
          · intro w0 hSw; (try dsimp only at hSw); go_simp; (try with_reducible rfl)
          (try dsimp only [Act.put, List.setIfInBounds_toArray, List.set_cons_zero, List.set_cons_succ])
          refine wpAnyH_take (i := 6) (oi := _) (v := ?_) rfl (by kernel_rfl) (by kernel_rfl) (by kernel_rfl) (fun _ _ _ h => h) (Or.inl ⟨by rfl, ?_⟩) hHeld ?_
          rotate_left
          · intro w0 hSw; (try dsimp only at hSw); go_simp; (try with_reducible rfl)
          (try dsimp only [Act.put, List.setIfInBounds_toArray, List.set_cons_zero, List.set_cons_succ])
          refine wpAnyH_take (i := 7) (oi := _) (v := ?_) rfl (by kernel_rfl) (by kernel_rfl) (by kernel_rfl) (fun _ _ _ h => h) (Or.inl ⟨by rfl, ?_⟩) hHeld ?_
          rotate_left
          · intro w0 hSw; (try dsimp only at hSw); go_simp; (try with_reducible rfl)
          (try dsimp only [Act.put, List.setIfInBounds_toArray, List.set_cons_zero, List.set_cons_succ])
          refine wpAnyH_take (i := 8) (oi := _) (v := ?_) rfl (by kernel_rfl) (by kernel_rfl) (by kernel_rfl) (fun _ _ _ h => h) (Or.inl ⟨by rfl, ?_⟩) hHeld ?_
          rotate_left
          · intro w0 hSw; (try dsimp only at hSw); go_simp; (try with_reducible rfl)
          (try dsimp only [Act.put, List.setIfInBounds_toArray, List.set_cons_zero, List.set_cons_succ])
          refine wpAnyH_take (i := 9) (oi := _) (v := ?_) rfl (by kernel_rfl) (by kernel_rfl) (by kernel_rfl) (fun _ _ _ h => h) (Or.inl ⟨by rfl, ?_⟩) hHeld ?_
          rotate_left
          · intro w0 hSw; (try dsimp only at hSw); go_simp; (try with_reducible rfl)
          (try dsimp only [Act.put, List.setIfInBounds_toArray, List.set_cons_zero, List.set_cons_succ])
          refine wpAnyH_take (i := 10) (oi := _) (v := ?_) rfl (by kernel_rfl) (by kernel_rfl) (by kernel_rfl) (fun _ _ _ h => h) (Or.inl ⟨by rfl, ?_⟩) hHeld ?_
          rotate_left
          · intro w0 hSw; (try dsimp only at hSw); go_simp; (try with_reducible rfl)
          (try dsimp only [Act.put, List.setIfInBounds_toArray, List.set_cons_zero, List.set_cons_succ])
          refine wpAnyH_take (i := 11) (oi := _) (v := ?_) rfl (by kernel_rfl) (by kernel_rfl) (by kernel_rfl) (fun _ _ _ h => h) (Or.inl ⟨by rfl, ?_⟩) hHeld ?_
          rotate_left
          · intro w0 hSw; (try dsimp only at hSw); go_simp; (try with_reducible rfl)
          (try dsimp only [Act.put, List.setIfInBounds_toArray, List.set_cons_zero, List.set_cons_succ])
          refine wpAnyH_take (i := 12) (oi := _) (v := ?_) rfl (by kernel_rfl) (by kernel_rfl) (by kernel_rfl) (fun _ _ _ h => h) (Or.inl ⟨by rfl, ?_⟩) hHeld ?_
          rotate_left
          · intro w0 hSw; (try dsimp only at hSw); go_simp; (try with_reducible rfl)
          (try dsimp only [Act.put, List.setIfInBounds_toArray, List.set_cons_zero, List.set_cons_succ])
          refine wpAnyH_take (i := 13) (oi := _) (v := ?_) rfl (by kernel_rfl) (by kernel_rfl) (by kernel_rfl) (fun _ _ _ h => h) (Or.inl ⟨by rfl, ?_⟩) hHeld ?_
          rotate_left
          · intro w0 hSw; (try dsimp only at hSw); go_simp; (try with_reducible rfl)
          (try dsimp only [Act.put, List.setIfInBounds_toArray, List.set_cons_zero, List.set_cons_succ])
          refine wpAnyH_take (i := 14) (oi := _) (v := ?_) rfl (by kernel_rfl) (by kernel_rfl) (by kernel_rfl) (fun _ _ _ h => h) (Or.inl ⟨by rfl, ?_⟩) hHeld ?_
          rotate_left
          · intro w0 hSw; (try dsimp only at hSw); go_simp; (try with_reducible rfl)
          (try dsimp only [Act.put, List.setIfInBounds_toArray, List.set_cons_zero, List.set_cons_succ])
          refine wpAnyH_take (i := 15) (oi := _) (v := ?_) rfl (by kernel_rfl) (by kernel_rfl) (by kernel_rfl) (fun _ _ _ h => h) (Or.inl ⟨by rfl, ?_⟩) hHeld ?_
          rotate_left
          · intro w0 hSw; (try dsimp only at hSw); go_simp; (try with_reducible rfl)
          (try dsimp only [Act.put, List.setIfInBounds_toArray, List.set_cons_zero, List.set_cons_succ])
          refine wpAnyH_take (i := 16) (oi := _) (v := ?_) rfl (by kernel_rfl) (by kernel_rfl) (by kernel_rfl) (fun _ _ _ h => h) (Or.inl ⟨by rfl, ?_⟩) hHeld ?_
          rotate_left
          · intro w0 hSw; (try dsimp only at hSw); go_simp; (try with_reducible rfl)
          (try dsimp only [Act.put, List.setIfInBounds_toArray, List.set_cons_zero, List.set_cons_succ])
          refine wpAnyH_take (i := 17) (oi := _) (v := ?_) rfl (by kernel_rfl) (by kernel_rfl) (by kernel_rfl) (fun _ _ _ h => h) (Or.inl ⟨by rfl, ?_⟩) hHeld ?_
          rotate_left
          · intro w0 hSw; (try dsimp only at hSw); go_simp; (try with_reducible rfl)
          (try dsimp only [Act.put, List.setIfInBounds_toArray, List.set_cons_zero, List.set_cons_succ])
          refine wpAnyH_take (i := 18) (oi := _) (v := ?_) rfl (by kernel_rfl) (by kernel_rfl) (by kernel_rfl) (fun _ _ _ h => h) (Or.inl ⟨by rfl, ?_⟩) hHeld ?_
          rotate_left
          · intro w0 hSw; (try dsimp only at hSw); go_simp; (try with_reducible rfl)
          (try dsimp only [Act.put, List.setIfInBounds_toArray, List.set_cons_zero, List.set_cons_succ])
          refine wpAnyH_take (i := 19) (oi := _) (v := ?_) rfl (by kernel_rfl) (by kernel_rfl) (by kernel_rfl) (fun _ _ _ h => h) (Or.inl ⟨by rfl, ?_⟩) hHeld ?_
          rotate_left
          · intro w0 hSw; (try dsimp only at hSw); go_simp; (try with_reducible rfl)
          (try dsimp only [Act.put, List.setIfInBounds_toArray, List.set_cons_zero, List.set_cons_succ])
          refine wpAnyH_done (by kernel_rfl) (lastQ_normal ?_) _
          clear hHeld q1 q2 q3 q4 q6
          go_wp2_with fail
          go_roundw
          case rel => exact ⟨i + 1, by omega, by go_num, R10, T10, B10⟩
          case measure => simp [intOf]; omega
        · obtain rfl : i = m := by omega
          have hii : ¬ (i : Int) < (i : Int) := by omega
          have BF := Lib.hid (B0.out.trans (hB.out.mono B0.out.size))
          have RF := Lib.hid (hR.out.lower (C := w.heap.size) (by omega))
          go_wp2_with fail
          go_ret
          exact ⟨_, rfl, BF.out, G, cp, by have h := RF.out; rw [show i = (ordS q r k c).length from HM2.out.symm] at h; exact h⟩
end Go.Proofs.Ytfhkkpfiflgofaa
