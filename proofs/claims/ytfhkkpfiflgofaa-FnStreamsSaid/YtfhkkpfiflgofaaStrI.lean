/-
  The parts StrX, SplO, BlkI.
-/
import Derived.Test.YtfhkkpfiflgofaaOrdI
import Derived.Test.YtfhkkpfiflgofaaRnd
import Derived.Test.YtfhkkpfiflgofaaStrD
import Derived.RangeFuncBox
import Derived.RangeFuncNested
import Derived.Test.YtfhkkpfiflgofaaSplI
import Derived.Test.YtfhkkpfiflgofaaDecQ
import Derived.Test.YtfhkkpfiflgofaaLay
/-
  The implementation's StreamIndex: a place of a block in the stream.
-/
namespace Go.Proofs.Ytfhkkpfiflgofaa
open Go.RowKit
set_option linter.unusedVariables false
attribute [local go_sem] Oper.semAt_some

set_option maxHeartbeats 8000000 in
set_option maxRecDepth 100000 in
theorem implStreamIndex_any (p pw g : Int) {D C N : Int} {q r n c : Nat} (hlay : layB p pw g D C N = true) (hl : LN D C N q r n c) (htot : q * n + r + n * c ≤ 1500) {b e : Nat} (hb : b < n) (he : e < shN q r n b + c) (w : World) :
    Calls Try.prog 35 #[lV p pw g D C N, .int .i64 b, .int .i64 e] w fun x w' => x = .returned (.tuple #[.int .i64 ((ordS q r n c).idxOf (b, e) : Nat), .int .i64 0]) ∧ Below w.heap.size w w' := by
  have HL := Lib.hid hl
  have HTOT := Lib.hid htot
  have HLAY := Lib.hid hlay
  have hn16 := hl.n16
  have hc64 := hl.c64
  have hc1 := hl.c1
  have hn1 := hl.n1
  have hq := hl.qle
  have hshb := (shN_le q r n b).2
  have HMEM := Lib.hid (ord_at (q := q) (r := r) (c := c) hb he)
  have HLT := Lib.hid (ordS_length q r n c (Nat.le_of_lt hl.rn))
  obtain rfl : N = (n : Int) := hl.hN
  obtain rfl : C = (c : Int) := hl.hC
  have HB := Lib.hid (below1 w (.cells #[.int .i64 p, .int .i64 pw, .int .i64 g, .int .i64 D, .int .i64 (c : Int), .int .i64 (n : Int)] LT))
  have L0 := Lib.hid (LB.new w p pw g D c n)
  have s1 : (w.alloc (.cells #[.int .i64 p, .int .i64 pw, .int .i64 g, .int .i64 D, .int .i64 (c : Int), .int .i64 (n : Int)] LT)).heap.size = w.heap.size + 1 := by simp
  have Y1 := Boxed.new (w.alloc (.cells #[.int .i64 p, .int .i64 pw, .int .i64 g, .int .i64 D, .int .i64 (c : Int), .int .i64 (n : Int)] LT)) 2 (.int .i64 b)
  rw [s1] at Y1
  generalize hw1 : w.alloc (.cells #[.int .i64 p, .int .i64 pw, .int .i64 g, .int .i64 D, .int .i64 (c : Int), .int .i64 (n : Int)] LT) = w1 at *
  have s2 : (w1.alloc (.cells #[.int .i64 (b : Int)] 2)).heap.size = w.heap.size + 2 := by simp [s1]
  have Z2 := Boxed.new (w1.alloc (.cells #[.int .i64 (b : Int)] 2)) 2 (.int .i64 e)
  rw [s2] at Z2
  have Y2 := (Y1.alloc (.cells #[.int .i64 (b : Int)] 2))
  have b3 := ((below1 w1 (.cells #[.int .i64 (b : Int)] 2))).trans ((below1 (w1.alloc (.cells #[.int .i64 (b : Int)] 2)) (.cells #[.int .i64 (e : Int)] 2)).mono (by omega))
  have s3 : ((w1.alloc (.cells #[.int .i64 (b : Int)] 2)).alloc (.cells #[.int .i64 (e : Int)] 2)).heap.size = w.heap.size + 3 := by simp [s1]
  have Y0 := Boxed.new w1 2 (.int .i64 b)
  rw [s1] at Y0
  have Y3 := Lib.hid (Y0.alloc (.cells #[.int .i64 (e : Int)] 2))
  have Z3 := Lib.hid Z2
  have L3 := Lib.hid (L0.out.below b3 (by omega))
  have B3 := Lib.hid (HB.out.trans (b3.mono (by omega)))
  have HS1 := Lib.hid s1
  have HSA := Lib.hid (fun W => share_any p pw g HL.out b b rfl (by omega) W)
  have HI1 := Lib.hid (show inR (b : Int) 0 ((n : Int) - 1) = true by unfold inR; simp; omega)
  have HI2 := Lib.hid (show inR (e : Int) 0 (((shN q r n b : Nat) : Int) + (c : Int) - 1) = true by unfold inR; simp; omega)
  clear hl htot hlay Y0 Y1 Y2 Z2 b3 HB L0 s1 s2
  generalize hw3 : (w1.alloc (.cells #[.int .i64 (b : Int)] 2)).alloc (.cells #[.int .i64 (e : Int)] 2) = w3 at *
  refine (callsIn_wide (n := 3)).1 ?_
  refine callsIn_of_wp_marks Try.func35 rfl trivial ?_ rfl
  simp only [Try.ntmps35, List.size_toArray, List.length_cons, List.length_nil, Nat.reduceAdd, Nat.reduceSub, Array.replicate_succ, Array.replicate_zero, List.push_toArray, List.append_toArray, List.nil_append, List.cons_append]
  refine wpIn_wide.2 ?_
  have k0 := L3.out.c0
  have k1 := L3.out.c1
  have k2 := L3.out.c2
  have k3 := L3.out.c3
  have k4 := L3.out.c4
  have k5 := L3.out.c5
  have y3 := Y3.out.cell
  have z3 := Z3.out.cell
  have hbi : (b : Int) ≤ (n : Int) - 1 := by omega
  have hei : (e : Int) ≤ ((shN q r n b : Nat) : Int) + (c : Int) - 1 := by omega
  clear hb he
  go_wp2_with fail
  clear hw1 hw3
  refine (implIsLayout_any p pw g D c n _).mono ?_
  rintro x w4 ⟨rfl, hb4⟩
  rw [HLAY.out]
  have B4 := Lib.hid (B3.out.trans (hb4.mono B3.out.size))
  have L4 := Lib.hid (L3.out.below hb4 L3.out.lt)
  have Y4 := Lib.hid (show Boxed w4 _ _ _ from (hb4.block _ Y3.out.lt).trans Y3.out)
  have Z4 := Lib.hid (show Boxed w4 _ _ _ from (hb4.block _ Z3.out.lt).trans Z3.out)
  clear hb4 B3 L3 Y3 Z3 k0 k1 k2 k3 k4 k5 y3 z3
  have k0 := L4.out.c0
  have k1 := L4.out.c1
  have k2 := L4.out.c2
  have k3 := L4.out.c3
  have k4 := L4.out.c4
  have k5 := L4.out.c5
  have y4 := Y4.out.cell
  have z4 := Z4.out.cell
  go_wp2_with fail
  rw [HS1.out]
  generalize shN q r n b = sh at *
  have y1 : -1000000 ≤ (n : Int) - 1 ∧ (n : Int) - 1 ≤ 1000000 := by omega
  have y2 : -1000000 ≤ (sh : Int) + (c : Int) ∧ (sh : Int) + (c : Int) ≤ 1000000 := by omega
  have y3 : -1000000 ≤ (sh : Int) + (c : Int) - 1 ∧ (sh : Int) + (c : Int) - 1 ≤ 1000000 := by omega
  obtain ⟨v1, v2⟩ := wraps y1
  obtain ⟨u1, u2⟩ := wraps y2
  obtain ⟨t1, t2⟩ := wraps y3
  clear y1 y2 y3
  refine wp_region_noPanic ?_
  refine wp_region_S (S := (fun w' => w'.cell? ⟨w.heap.size, 0, none⟩ = some (.int .i64 p) ∧ w'.cell? ⟨w.heap.size, 1, none⟩ = some (.int .i64 pw) ∧ w'.cell? ⟨w.heap.size, 2, none⟩ = some (.int .i64 g) ∧ w'.cell? ⟨w.heap.size, 3, none⟩ = some (.int .i64 D) ∧ w'.cell? ⟨w.heap.size, 4, none⟩ = some (.int .i64 (c : Int)) ∧ w'.cell? ⟨w.heap.size, 5, none⟩ = some (.int .i64 (n : Int)) ∧ w'.cell? ⟨w.heap.size + 1, 0, none⟩ = some (.int .i64 (b : Int)) ∧ w'.cell? ⟨w.heap.size + 1 + 1, 0, none⟩ = some (.int .i64 (e : Int)))) 18 rfl (by kernel_rfl) ?_ (fun hHeld => ?_)
  · (try dsimp only); exact ⟨k0, k1, k2, k3, k4, k5, y4, z4⟩
  refine wpAnyH_take (i := 0) (oi := _) (v := ?_) rfl (by kernel_rfl) (by kernel_rfl) (by kernel_rfl) (fun _ _ _ h => h) (Or.inl ⟨by rfl, ?_⟩) hHeld ?_
  rotate_left
  · intro w0 hSw; (try dsimp only at hSw); go_simp; (try with_reducible rfl)
  (try dsimp only [Act.put, List.setIfInBounds_toArray, List.set_cons_zero, List.set_cons_succ])
  refine wpAnyH_take (i := 1) (oi := _) (v := ?_) rfl (by kernel_rfl) (by kernel_rfl) (by kernel_rfl) (fun _ _ _ h => h) (Or.inl ⟨by rfl, ?_⟩) hHeld ?_
  rotate_left
  · intro w0 hSw; (try dsimp only at hSw); go_simp; (try with_reducible rfl)
  (try dsimp only [Act.put, List.setIfInBounds_toArray, List.set_cons_zero, List.set_cons_succ])
  refine wpAnyH_take (i := 2) (oi := _) (v := ?_) rfl (by kernel_rfl) (by kernel_rfl) (by kernel_rfl) (fun _ _ _ h => h) (Or.inl ⟨by rfl, ?_⟩) hHeld ?_
  rotate_left
  · intro w0 hSw; (try dsimp only at hSw); go_simp; (try with_reducible rfl)
  (try dsimp only [Act.put, List.setIfInBounds_toArray, List.set_cons_zero, List.set_cons_succ])
  refine wpAnyH_take (i := 3) (oi := _) (v := ?_) rfl (by kernel_rfl) (by kernel_rfl) (by kernel_rfl) (fun _ _ _ h => h) (Or.inl ⟨by rfl, ?_⟩) hHeld ?_
  rotate_left
  · intro w0 hSw; (try dsimp only at hSw); go_simp; (try with_reducible rfl)
  (try dsimp only [Act.put, List.setIfInBounds_toArray, List.set_cons_zero, List.set_cons_succ])
  refine wpAnyH_ready (rs := [4]) (by kernel_rfl) (by simp) ?_
  refine AllReadyH.cons (o := _) rfl (fun K hK => ?_) AllReadyH.nil
  go_simp
  refine (inRange_any _ _ _ _).mono ?_
  rintro x w6 ⟨rfl, rfl⟩
  rw [HI1.out]
  refine hK.out _ _ ?_ (fun hHeld => ?_)
  · (try dsimp only); exact hHeld
  clear hK K
  (try dsimp only [Act.put, List.setIfInBounds_toArray, List.set_cons_zero, List.set_cons_succ])
  refine wpAnyH_take (i := 5) (oi := _) (v := ?_) rfl (by kernel_rfl) (by kernel_rfl) (by kernel_rfl) (fun _ _ _ h => h) (Or.inl ⟨by rfl, ?_⟩) hHeld ?_
  rotate_left
  · intro w0 hSw; (try dsimp only at hSw); go_simp; (try with_reducible rfl)
  (try dsimp only [Act.put, List.setIfInBounds_toArray, List.set_cons_zero, List.set_cons_succ])
  refine wpAnyH_take (i := 6) (oi := _) (v := ?_) rfl (by kernel_rfl) (by kernel_rfl) (by kernel_rfl) (fun _ _ _ h => h) (Or.inl ⟨by rfl, ?_⟩) hHeld ?_
  rotate_left
  · intro w0 hSw; (try dsimp only at hSw); go_simp; (try with_reducible rfl)
  (try dsimp only [Act.put, List.setIfInBounds_toArray, List.set_cons_zero, List.set_cons_succ])
  refine wpAnyH_take (i := 7) (oi := _) (v := ?_) rfl (by kernel_rfl) (by kernel_rfl) (by kernel_rfl) (fun _ _ _ h => h) (Or.inl ⟨by rfl, ?_⟩) hHeld ?_
  rotate_left
  · intro w0 hSw; (try dsimp only at hSw); go_simp; (try with_reducible rfl)
  (try dsimp only [Act.put, List.setIfInBounds_toArray, List.set_cons_zero, List.set_cons_succ])
  refine wpAnyH_take (i := 8) (oi := _) (v := ?_) rfl (by kernel_rfl) (by kernel_rfl) (by kernel_rfl) (fun _ _ _ h => h) (Or.inl ⟨by rfl, ?_⟩) hHeld ?_
  rotate_left
  · intro w0 hSw; (try dsimp only at hSw); go_simp; (try with_reducible rfl)
  (try dsimp only [Act.put, List.setIfInBounds_toArray, List.set_cons_zero, List.set_cons_succ])
  refine wpAnyH_take (i := 9) (oi := _) (v := ?_) rfl (by kernel_rfl) (by kernel_rfl) (by kernel_rfl) (fun _ _ _ h => h) (Or.inl ⟨by rfl, ?_⟩) hHeld ?_
  rotate_left
  · intro w0 hSw; (try dsimp only at hSw); go_simp; (try with_reducible rfl)
  (try dsimp only [Act.put, List.setIfInBounds_toArray, List.set_cons_zero, List.set_cons_succ])
  refine wpAnyH_take (i := 11) (oi := _) (v := ?_) rfl (by kernel_rfl) (by kernel_rfl) (by kernel_rfl) (fun _ _ _ h => h) (Or.inl ⟨by rfl, ?_⟩) hHeld ?_
  rotate_left
  · intro w0 hSw; (try dsimp only at hSw); go_simp; (try with_reducible rfl)
  (try dsimp only [Act.put, List.setIfInBounds_toArray, List.set_cons_zero, List.set_cons_succ])
  refine wpAnyH_take (i := 12) (oi := _) (v := ?_) rfl (by kernel_rfl) (by kernel_rfl) (by kernel_rfl) (fun _ _ _ h => h) (Or.inl ⟨by rfl, ?_⟩) hHeld ?_
  rotate_left
  · intro w0 hSw; (try dsimp only at hSw); go_simp; (try with_reducible rfl)
  (try dsimp only [Act.put, List.setIfInBounds_toArray, List.set_cons_zero, List.set_cons_succ])
  refine wpAnyH_ready (rs := [10]) (by kernel_rfl) (by simp) ?_
  refine AllReadyH.cons (o := _) rfl (fun K hK => ?_) AllReadyH.nil
  go_simp
  refine (HSA.out _).mono ?_
  rintro x w5 ⟨rfl, hb5⟩
  refine hK.out _ _ ?_ (fun hHeld => ?_)
  · (try dsimp only); exact ⟨keep_cell hb5 (hHeld.1), keep_cell hb5 (hHeld.2.1), keep_cell hb5 (hHeld.2.2.1), keep_cell hb5 (hHeld.2.2.2.1), keep_cell hb5 (hHeld.2.2.2.2.1), keep_cell hb5 (hHeld.2.2.2.2.2.1), keep_cell hb5 (hHeld.2.2.2.2.2.2.1), keep_cell hb5 (hHeld.2.2.2.2.2.2.2)⟩
  clear hK K
  (try dsimp only [Act.put, List.setIfInBounds_toArray, List.set_cons_zero, List.set_cons_succ])
  refine wpAnyH_take (i := 13) (oi := _) (v := ?_) rfl (by kernel_rfl) (by kernel_rfl) (by kernel_rfl) (fun _ _ _ h => h) (Or.inl ⟨by rfl, ?_⟩) hHeld ?_
  rotate_left
  · intro w0 hSw; (try dsimp only at hSw); go_simp; (try with_reducible rfl)
  (try dsimp only [Act.put, List.setIfInBounds_toArray, List.set_cons_zero, List.set_cons_succ])
  refine wpAnyH_take (i := 14) (oi := _) (v := ?_) rfl (by kernel_rfl) (by kernel_rfl) (by kernel_rfl) (fun _ _ _ h => h) (Or.inl ⟨by rfl, ?_⟩) hHeld ?_
  rotate_left
  · intro w0 hSw; (try dsimp only at hSw); go_simp; (try with_reducible rfl)
  (try dsimp only [Act.put, List.setIfInBounds_toArray, List.set_cons_zero, List.set_cons_succ])
  refine wpAnyH_ready (rs := [15]) (by kernel_rfl) (by simp) ?_
  refine AllReadyH.cons (o := _) rfl (fun K hK => ?_) AllReadyH.nil
  go_simp
  refine (inRange_any _ _ _ _).mono ?_
  rintro x w6 ⟨rfl, rfl⟩
  rw [HI2.out]
  refine hK.out _ _ ?_ (fun hHeld => ?_)
  · (try dsimp only); exact hHeld
  clear hK K
  (try dsimp only [Act.put, List.setIfInBounds_toArray, List.set_cons_zero, List.set_cons_succ])
  refine wpAnyH_take (i := 16) (oi := _) (v := ?_) rfl (by kernel_rfl) (by kernel_rfl) (by kernel_rfl) (fun _ _ _ h => h) (Or.inl ⟨by rfl, ?_⟩) hHeld ?_
  rotate_left
  · intro w0 hSw; (try dsimp only at hSw); go_simp; (try with_reducible rfl)
  (try dsimp only [Act.put, List.setIfInBounds_toArray, List.set_cons_zero, List.set_cons_succ])
  refine wpAnyH_take (i := 17) (oi := _) (v := ?_) rfl (by kernel_rfl) (by kernel_rfl) (by kernel_rfl) (fun _ _ _ h => h) (Or.inl ⟨by rfl, ?_⟩) hHeld ?_
  rotate_left
  · intro w0 hSw; (try dsimp only at hSw); go_simp; (try with_reducible rfl)
  (try dsimp only [Act.put, List.setIfInBounds_toArray, List.set_cons_zero, List.set_cons_succ])
  refine wpAnyH_done (by kernel_rfl) ?_ _
  refine NoPanic.normal ?_
  have B5 := Lib.hid (B4.out.trans (((Drew.below (drew1 w4) _).trans hb5).mono B4.out.size))
  have L5 := Lib.hid (show LB w5 w.heap.size p pw g D c n from (L4.out.below (Drew.below (drew1 w4) _) L4.out.lt).below hb5 L4.out.lt)
  have Y5 := Lib.hid (show Boxed w5 (w.heap.size + 1) 2 (.int .i64 b) from (hb5.block _ Y4.out.lt).trans Y4.out)
  have Z5 := Lib.hid (show Boxed w5 (w.heap.size + 2) 2 (.int .i64 e) from (hb5.block _ Z4.out.lt).trans Z4.out)
  clear hHeld hb5 B4 L4 Y4 Z4 k0 k1 k2 k3 k4 k5 y4 z4 u1 u2 v1 v2 t1 t2
  have L6 := Lib.hid (L5.out.below (below1 w5 (.cells #[.int .i64 0] 2)) L5.out.lt)
  have hlt5 : w.heap.size < w5.heap.size := L5.out.lt
  have hne5 : ¬ w.heap.size = w5.heap.size := by omega
  have hne6 : ¬ w5.heap.size = w.heap.size := by omega
  have k0 := L6.out.c0
  have k1 := L6.out.c1
  have k2 := L6.out.c2
  have k3 := L6.out.c3
  have k4 := L6.out.c4
  have k5 := L6.out.c5
  have j0 := L5.out.c0
  have j1 := L5.out.c1
  have j2 := L5.out.c2
  have j3 := L5.out.c3
  have j4 := L5.out.c4
  have j5 := L5.out.c5
  go_wp2_with fail
  refine ((callsIn_wide (n := 1)).1 (order_in 1 p pw g D c n _)).mono ?_
  rintro x w7 ⟨rfl, rfl⟩
  go_wp2_with fail
  have s6 : (w5.alloc (.cells #[.int .i64 0] 2)).heap.size = w5.heap.size + 1 := by simp
  have LN7 := LB.new (w5.alloc (.cells #[.int .i64 0] 2)) p pw g D c n
  rw [s6] at LN7
  have b7 := below1 (w5.alloc (.cells #[.int .i64 0] 2)) (.cells #[.int .i64 p, .int .i64 pw, .int .i64 g, .int .i64 D, .int .i64 (c : Int), .int .i64 (n : Int)] LT)
  have C7 := (below1 w5 (.cells #[.int .i64 0] 2)).trans (b7.mono (by omega))
  have A7 := (Boxed.new w5 2 (.int .i64 0)).alloc (.cells #[.int .i64 p, .int .i64 pw, .int .i64 g, .int .i64 D, .int .i64 (c : Int), .int .i64 (n : Int)] LT)
  have s7 : ((w5.alloc (.cells #[.int .i64 0] 2)).alloc (.cells #[.int .i64 p, .int .i64 pw, .int .i64 g, .int .i64 D, .int .i64 (c : Int), .int .i64 (n : Int)] LT)).heap.size = w5.heap.size + 2 := by simp
  generalize (w5.alloc (.cells #[.int .i64 0] 2)).alloc (.cells #[.int .i64 p, .int .i64 pw, .int .i64 g, .int .i64 D, .int .i64 (c : Int), .int .i64 (n : Int)] LT) = w7 at *
  have HA7 := Lib.hid A7
  have HC7 := Lib.hid C7
  clear k0 k1 k2 k3 k4 k5 j0 j1 j2 j3 j4 j5 L6 A7 C7 b7 hne5 hne6 s6
  refine (wpIn_wide (n := 3)).1 ?_
  refine wpIn_rangeFunc_ownF rfl (by omega) (gf := 118) (lb := #[.pointer (some ⟨w5.heap.size + 1, 0, none⟩)]) rfl trivial (enters_of Try.func118 (by kernel_rfl) rfl)
    (order_stops p pw g HL.out 2 (by omega) (w5.heap.size + 1) w7 (by omega) LN7) keepsAt_t (keepsAt_b (by omega)) (Below.refl _ _) (fun _ => rfl)
    (fun pre W => Boxed W w5.heap.size 2 (.int .i64 (pre.length : Nat)) ∧ (W.heap[w5.heap.size + 1]? = some (.cells #[.int .i64 p, .int .i64 pw, .int .i64 g, .int .i64 D, .int .i64 (c : Int), .int .i64 (n : Int)] LT (0, 0)) ∧ (Below w5.heap.size w5 W ∧ (b, e) ∉ pre.map Subtype.val)))
    (fun cd pre W => cd = .exit 0 ∧ (Boxed W w5.heap.size 2 (.int .i64 (pre.length - 1 : Nat)) ∧ (Below w5.heap.size w5 W ∧ ∃ pre0, pre.map Subtype.val = pre0 ++ [(b, e)] ∧ (b, e) ∉ pre0)))
    (OwnFrom.and (Go.Own.from (boxed_own w5.heap.size 2 (fun pre : List (OrdX q r n c) => .int .i64 (pre.length : Nat))) _) (OwnFrom.and (Go.Own.from (own_at _ _ rfl) _) (OwnFrom.and (ownFrom_below (Nat.le_refl _) (by omega)) (fun _ _ _ _ h _ _ => h))))
    (fun cd s W W' row hs hg hr => ⟨hs.1, (Go.Own.from (boxed_own w5.heap.size 2 (fun s : List (OrdX q r n c) => .int .i64 (s.length - 1 : Nat))) w7.heap.size) s W W' row hs.2.1 hg hr, (ownFrom_below (β := List (OrdX q r n c)) (Nat.le_refl w5.heap.size) (show w5.heap.size ≤ w7.heap.size by omega)) s W W' row hs.2.2.1 hg hr, hs.2.2.2⟩)
    ⟨HA7.out, LN7.blk, HC7.out, by simp⟩
    ?a1 ?assign ?body ?done ?stop
  case assign =>
    intro l x W K hK
    have HK := Lib.hid hK
    clear hK
    gi_wp2
    exact HK.out
  case done =>
    rintro D2 ys W hD hys ⟨-, -, -, hno⟩ hK
    rw [hys] at hno
    exact absurd HMEM.out hno
  case stop =>
    rintro D2 c2 pre W hD hp ⟨rfl, hv, hBW, pre0, hpe, hpn⟩ hK
    have hidx : pre.length - 1 = (ordS q r n c).idxOf (b, e) := by
      rw [hpe] at hp
      obtain ⟨t, ht⟩ := hp
      have hl : pre.length = pre0.length + 1 := by rw [← List.length_map (f := Subtype.val), hpe]; simp
      rw [← ht, List.append_assoc, List.idxOf_append, if_neg hpn, List.singleton_append, List.idxOf_cons_self]
      omega
    rw [hidx] at hv
    have hc := hv.cell
    clear hidx hpe hpn hp
    have HKK := Lib.hid hK
    clear hv hK
    refine wpIn_wide.2 ?_
    go_wp2_with fail
    refine marks_retD rfl HKK.out (results_tmp2 rfl _ _ _) ?_
    have b1 := B5.out.trans (hBW.mono B5.out.size)
    exact ⟨rfl, b1.trans (belowK_b (w := w7) (by omega) W D2 _ _ hD HKK.out rfl rfl)⟩
  case body =>
    rintro l pre ⟨⟨xb, xe⟩, hxo⟩ W ⟨hv, hLBW, hBW, hno⟩ hlt
    have hHy : W.cell? ⟨w.heap.size + 1, 0, none⟩ = some (.int .i64 b) := (hBW.cell (p := ⟨w.heap.size + 1, 0, none⟩) Y5.out.lt).trans Y5.out.cell
    have hHz : W.cell? ⟨w.heap.size + 1 + 1, 0, none⟩ = some (.int .i64 e) := (hBW.cell (p := ⟨w.heap.size + 2, 0, none⟩) Z5.out.lt).trans Z5.out.cell
    have hq0 := hv.cell
    have hqf := hv.frozen
    have hll : (pre.length : Int) ≤ 10000 := by rw [HLT.out] at hlt; have := HTOT.out; have h3 : n * q = q * n := Nat.mul_comm _ _; omega
    obtain ⟨m0, hm0⟩ : ∃ m0, pre.length = m0 := ⟨_, rfl⟩
    rw [hm0] at hq0 hll
    obtain ⟨hw1, hw2⟩ := wraps (x := (m0 : Int) + 1) ⟨by omega, by omega⟩
    have HBX := Lib.hid (hv.set (.int .i64 ((m0 : Int) + 1)))
    have HLX := Lib.hid ((Below.heap_setCell W ⟨w5.heap.size, 0, none⟩ (.int .i64 ((m0 : Int) + 1)) (w5.heap.size + 1) (by show w5.heap.size + 1 ≠ w5.heap.size; omega)))
    have HBB := Lib.hid (hBW.setCell (p := ⟨w5.heap.size, 0, none⟩) (Nat.le_refl _) (.int .i64 ((m0 : Int) + 1)))
    have HLB := Lib.hid hLBW
    have HBW := Lib.hid hBW
    have HVW := Lib.hid hv
    clear hLBW hBW hlt hll hv
    by_cases hxb : xb = b
    · have hqb : ((xb : Int) == (b : Int)) = true := by simp [hxb]
      by_cases hxe : xe = e
      · have hqe : ((xe : Int) == (e : Int)) = true := by simp [hxe]
        have HXB := Lib.hid hxb
        have HXE := Lib.hid hxe
        clear hxb hxe
        gi_wp2
        refine ⟨KeepsOthers.refl _, rfl, ?_, HBW.out, pre.map Subtype.val, by rw [List.map_append]; simp [HXB.out, HXE.out], hno⟩
        rw [show (pre ++ [(⟨(xb, xe), hxo⟩ : OrdX q r n c)]).length - 1 = pre.length by simp]
        exact HVW.out
      · have hqe : ((xe : Int) == (e : Int)) = false := by simp; omega
        have HNE := Lib.hid (show (b, e) ≠ (xb, xe) from fun h => by cases h; exact hxe rfl)
        clear hxb hxe
        gi_wp2
        have e13 : (m0 : Int) + 1 = (((pre ++ [(⟨(xb, xe), hxo⟩ : OrdX q r n c)]).length : Nat) : Int) := by simp [hm0]
        refine ⟨KeepsOthers.setCell _ _ _, HLX.out, ?_, HLX.out.trans HLB.out, HBB.out, ?_⟩
        · rw [← e13]; exact HBX.out
        · rw [List.map_append, List.mem_append]
          rintro (h | h)
          · exact hno h
          · simp only [List.map_cons, List.map_nil, List.mem_singleton] at h; exact HNE.out h
    · have hqb : ((xb : Int) == (b : Int)) = false := by simp; omega
      have HNE := Lib.hid (show (b, e) ≠ (xb, xe) from fun h => by cases h; exact hxb rfl)
      clear hxb
      gi_wp2
      have e13 : (m0 : Int) + 1 = (((pre ++ [(⟨(xb, xe), hxo⟩ : OrdX q r n c)]).length : Nat) : Int) := by simp [hm0]
      refine ⟨KeepsOthers.setCell _ _ _, HLX.out, ?_, HLX.out.trans HLB.out, HBB.out, ?_⟩
      · rw [← e13]; exact HBX.out
      · rw [List.map_append, List.mem_append]
        rintro (h | h)
        · exact hno h
        · simp only [List.map_cons, List.map_nil, List.mem_singleton] at h; exact HNE.out h
end Go.Proofs.Ytfhkkpfiflgofaa
/-
  The implementation's SplitStream, of a stream that is in order.
-/
namespace Go.Proofs.Ytfhkkpfiflgofaa
open Go.RowKit
set_option linter.unusedVariables false

set_option maxHeartbeats 4000000 in
set_option maxRecDepth 100000 in
theorem implSplitStream_any (p pw g : Int) {D C N : Int} {q r n c : Nat} (hl : LN D C N q r n c) (htot : q * n + r + n * c ≤ 1500) (w : World) {a : Option Addr} {m cap : Nat} {s : List Int} (hr : RowAt w a m s) (hc : scC p pw g D C N s = 0) (hm : m = (ordS q r n c).length) :
    Calls Try.prog 32 #[lV p pw g D C N, .slice a m cap] w fun e w' => ∃ v, e = .returned (.tuple #[v, .int .i64 0]) ∧ Below w.heap.size w w' ∧ ∃ G cp, Rag w' w.heap.size v n n G cp (wB q r n c s) := by
  have HR := Lib.hid hr
  have hlen := Lib.hid hr.len
  have HB := Lib.hid (below1 w (.cells #[.int .i64 p, .int .i64 pw, .int .i64 g, .int .i64 D, .int .i64 C, .int .i64 N] LT))
  have L0 := Lib.hid (LB.new w p pw g D C N)
  have HC := Lib.hid hc
  have HCO := Lib.hid (fun W (hb : Below w.heap.size w W) => streamCode_any p pw g D C N W (cap := cap) (HR.out.below' hb))
  have HSP := Lib.hid (fun W (hb : Below w.heap.size w W) => split_any p pw g hl htot W (cap := cap) (HR.out.below' hb) hm)
  rw [HC.out] at HCO
  clear hr hl htot hm hc
  go_enter Try.func32, Try.ntmps32
  go_wp2_with fail
  refine (HCO.out _ HB.out).mono ?_
  rintro e w2 ⟨rfl, hb2⟩
  have B2 := Lib.hid (HB.out.trans (hb2.mono HB.out.size))
  have L2 := Lib.hid (L0.out.below hb2 L0.out.lt)
  clear hb2 HB L0 HCO
  have k0 := L2.out.c0
  have k1 := L2.out.c1
  have k2 := L2.out.c2
  have k3 := L2.out.c3
  have k4 := L2.out.c4
  have k5 := L2.out.c5
  go_wp2_with fail
  refine (HSP.out _ B2.out).mono ?_
  rintro e w3 ⟨v, rfl, hb3, G, cp, hrag⟩
  have B3 := Lib.hid (B2.out.trans (hb3.mono B2.out.size))
  have R3 := Lib.hid (hrag.lower B2.out.size)
  clear hb3 hrag
  go_wp2_with fail
  go_ret2
  exact ⟨_, rfl, B3.out, _, _, R3.out⟩
end Go.Proofs.Ytfhkkpfiflgofaa
/-
  The implementation's BlockCodes: the codes of a stream's blocks stand in one block of memory.
-/
namespace Go.Proofs.Ytfhkkpfiflgofaa
open Go.RowKit
set_option linter.unusedVariables false

/-- What stands at a place of a table of codes. -/
def cdAt (p pw g : Int) (S : Nat → Nat) (c : Int) (i : Nat) : Value :=
  if i % 5 = 0 then .int .i64 p else if i % 5 = 1 then .int .i64 pw else if i % 5 = 2 then .int .i64 g else if i % 5 = 3 then .int .i64 (S (i / 5) : Nat) else .int .i64 c
/-- A table of m codes, k of them laid. -/
structure CTab (w : World) (B : Nat) (p pw g : Int) (S : Nat → Nat) (c : Int) (m k : Nat) : Prop where
  blk : ∃ cs : Array Value, w.heap[B]? = some (.cells cs CT (0, 0)) ∧ cs.size = 5 * m ∧ ∀ i, i < 5 * k → cs[i]? = some (cdAt p pw g S c i)
section
variable {w w' : World} {B C m k : Nat} {p pw g c : Int} {S : Nat → Nat}
theorem CTab.lt (h : CTab w B p pw g S c m k) : B < w.heap.size := let ⟨_, h, _⟩ := h.blk; lt_of_heap h
theorem CTab.below (h : CTab w B p pw g S c m k) (hb : Below C w w') (hC : B < C) : CTab w' B p pw g S c m k := let ⟨cs, h1, h2⟩ := h.blk; ⟨cs, (hb.block B hC).trans h1, h2⟩
theorem CTab.fz (h : CTab w B p pw g S c m k) (o : Nat) : w.frozen? ⟨B, o, none⟩ = false := by obtain ⟨cs, h1, -⟩ := h.blk; unfold World.frozen?; rw [h1]; simp
theorem CTab.there (h : CTab w B p pw g S c m k) {o : Nat} (ho : o < 5 * m) : (w.cell? ⟨B, o, none⟩).isSome = true := by
  obtain ⟨cs, h1, h2, -⟩ := h.blk
  unfold World.cell?; rw [h1]; simp; omega
theorem CTab.at (h : CTab w B p pw g S c m k) {i : Nat} (hi : i < 5 * k) : w.cell? ⟨B, i, none⟩ = some (cdAt p pw g S c i) := by
  obtain ⟨cs, h1, -, h2⟩ := h.blk
  unfold World.cell?; rw [h1]; exact h2 i hi
theorem CTab.c0 (h : CTab w B p pw g S c m k) {b i : Nat} (hb : b < k) (hi : i = 5 * b) : w.cell? ⟨B, i, none⟩ = some (.int .i64 p) := by
  rw [h.at (by omega)]; unfold cdAt; rw [if_pos (by omega)]
theorem CTab.c1 (h : CTab w B p pw g S c m k) {b i : Nat} (hb : b < k) (hi : i = 5 * b + 1) : w.cell? ⟨B, i, none⟩ = some (.int .i64 pw) := by
  rw [h.at (by omega)]; unfold cdAt; rw [if_neg (by omega), if_pos (by omega)]
theorem CTab.c2 (h : CTab w B p pw g S c m k) {b i : Nat} (hb : b < k) (hi : i = 5 * b + 2) : w.cell? ⟨B, i, none⟩ = some (.int .i64 g) := by
  rw [h.at (by omega)]; unfold cdAt; rw [if_neg (by omega), if_neg (by omega), if_pos (by omega)]
theorem CTab.c3 (h : CTab w B p pw g S c m k) {b i : Nat} (hb : b < k) (hi : i = 5 * b + 3) : w.cell? ⟨B, i, none⟩ = some (.int .i64 (S b : Nat)) := by
  rw [h.at (by omega)]; unfold cdAt; rw [if_neg (by omega), if_neg (by omega), if_neg (by omega), if_pos (by omega), show i / 5 = b by omega]
theorem CTab.c4 (h : CTab w B p pw g S c m k) {b i : Nat} (hb : b < k) (hi : i = 5 * b + 4) : w.cell? ⟨B, i, none⟩ = some (.int .i64 c) := by
  rw [h.at (by omega)]; unfold cdAt; rw [if_neg (by omega), if_neg (by omega), if_neg (by omega), if_neg (by omega)]
theorem CTab.new (w : World) (p pw g : Int) (S : Nat → Nat) (c : Int) (m : Nat) : CTab (w.alloc (.cells (madeCells #[.int .i64 0, .int .i64 0, .int .i64 0, .int .i64 0, .int .i64 0] (m * 5)) CT)) w.heap.size p pw g S c m 0 :=
  ⟨_, heap_new _ _, by rw [size_madeCells]; omega, fun i hi => by omega⟩
theorem CTab.set (h : CTab w B p pw g S c m k) (hk : k < m) {o : Nat} (ho : o = 5 * k) :
    CTab (((((w.setCell ⟨B, o, none⟩ (.int .i64 p)).setCell ⟨B, o + 1, none⟩ (.int .i64 pw)).setCell ⟨B, o + 2, none⟩ (.int .i64 g)).setCell ⟨B, o + 3, none⟩ (.int .i64 (S k : Nat))).setCell ⟨B, o + 4, none⟩ (.int .i64 c)) B p pw g S c m (k + 1) := by
  obtain ⟨cs, h1, h2, h3⟩ := h.blk
  refine ⟨_, heap_setCell_self _ _ _ _ _ _ _ (heap_setCell_self _ _ _ _ _ _ _ (heap_setCell_self _ _ _ _ _ _ _ (heap_setCell_self _ _ _ _ _ _ _ (heap_setCell_self _ _ _ _ _ _ _ h1)))), by simp [h2], fun i hi => ?_⟩
  simp only [Array.getElem?_setIfInBounds]
  subst ho
  by_cases h4 : 5 * k + 4 = i
  · subst h4; simp [h2, show 5 * k + 4 < 5 * m by omega]; unfold cdAt; rw [if_neg (by omega), if_neg (by omega), if_neg (by omega), if_neg (by omega)]
  rw [if_neg h4]
  by_cases h5 : 5 * k + 3 = i
  · subst h5; simp [h2, show 5 * k + 3 < 5 * m by omega]; unfold cdAt; rw [if_neg (by omega), if_neg (by omega), if_neg (by omega), if_pos (by omega), show (5 * k + 3) / 5 = k by omega]
  rw [if_neg h5]
  by_cases h6 : 5 * k + 2 = i
  · subst h6; simp [h2, show 5 * k + 2 < 5 * m by omega]; unfold cdAt; rw [if_neg (by omega), if_neg (by omega), if_pos (by omega)]
  rw [if_neg h6]
  by_cases h7 : 5 * k + 1 = i
  · subst h7; simp [h2, show 5 * k + 1 < 5 * m by omega]; unfold cdAt; rw [if_neg (by omega), if_pos (by omega)]
  rw [if_neg h7]
  by_cases h8 : 5 * k = i
  · subst h8; simp [h2, show 5 * k < 5 * m by omega]; unfold cdAt; rw [if_pos (by omega)]
  rw [if_neg h8]
  exact h3 i (by omega)
theorem run_make_codes (w : World) (n : Nat) (hn : n ≤ 16777216) :
    (Instr.makeSlice 58 (.int .i64 (n : Int)) (.int .i64 (n : Int))).run Try.prog w = .ok (.slice (some ⟨w.heap.size, 0, none⟩) n n) (w.alloc (.cells (madeCells #[.int .i64 0, .int .i64 0, .int .i64 0, .int .i64 0, .int .i64 0] (n * 5)) CT)) := by
  have hinfo : (Try.prog.info? CT).map (fun i => (i.zero, i.size, i.bytes)) = some (some (.agg #[.int .i64 0, .int .i64 0, .int .i64 0, .int .i64 0, .int .i64 0]), 5, 40) := by kernel_rfl
  obtain ⟨i0, hi, hzz⟩ := Option.map_eq_some_iff.1 hinfo
  simp only [Prod.mk.injEq] at hzz
  obtain ⟨hz, hs, hb⟩ := hzz
  have := run_make (P := Try.prog) w _ CT i0 _ Try.underlying58 hi hz .i64 .i64 n n (by omega) (Int.le_refl _) (by rw [hb]; omega) (by omega)
  rw [hs] at this
  exact this
end
set_option maxHeartbeats 4000000 in
set_option maxRecDepth 100000 in
theorem implBlockCodes_any (p pw g : Int) {D C N : Int} {q r n c : Nat} (hlay : layB p pw g D C N = true) (hl : LN D C N q r n c) (w : World) :
    Calls Try.prog 33 #[lV p pw g D C N] w fun x w' => ∃ B, x = .returned (.tuple #[.slice (some ⟨B, 0, none⟩) n n, .int .i64 0]) ∧ Below w.heap.size w w' ∧ w.heap.size ≤ B ∧ CTab w' B p pw g (fun b => shN q r n b + c) c n n := by
  have HL := Lib.hid hl
  have HLAY := Lib.hid hlay
  have hn16 := hl.n16
  have hn1 := hl.n1
  obtain rfl : N = (n : Int) := hl.hN
  obtain rfl : C = (c : Int) := hl.hC
  have HB := Lib.hid (below1 w (.cells #[.int .i64 p, .int .i64 pw, .int .i64 g, .int .i64 D, .int .i64 (c : Int), .int .i64 (n : Int)] LT))
  have L0 := Lib.hid (LB.new w p pw g D c n)
  clear hl hlay
  go_enter Try.func33, Try.ntmps33
  generalize hw1 : w.alloc (.cells #[.int .i64 p, .int .i64 pw, .int .i64 g, .int .i64 D, .int .i64 (c : Int), .int .i64 (n : Int)] LT) = w1 at *
  have k0 := L0.out.c0
  have k1 := L0.out.c1
  have k2 := L0.out.c2
  have k3 := L0.out.c3
  have k4 := L0.out.c4
  have k5 := L0.out.c5
  go_wp2_with fail
  (try rw [hw1])
  clear hw1
  refine (implIsLayout_any p pw g D c n _).mono ?_
  rintro e w2 ⟨rfl, hb2⟩
  have B2 := Lib.hid (HB.out.trans (hb2.mono HB.out.size))
  have L2 := Lib.hid (L0.out.below hb2 L0.out.lt)
  clear hb2 HB L0 k0 k1 k2 k3 k4 k5
  rw [HLAY.out]
  have k5 := L2.out.c5
  have hmk := fun w => run_make_codes w n (by omega)
  have hX2 : w.heap.size < w2.heap.size := L2.out.lt
  have L3 := Lib.hid (L2.out.below (below1 w2 (.cells (madeCells #[.int .i64 0, .int .i64 0, .int .i64 0, .int .i64 0, .int .i64 0] (n * 5)) CT)) L2.out.lt)
  have B3 := Lib.hid (below1 w2 (.cells (madeCells #[.int .i64 0, .int .i64 0, .int .i64 0, .int .i64 0, .int .i64 0] (n * 5)) CT))
  have T3 := Lib.hid (CTab.new w2 p pw g (fun b => shN q r n b + c) c n)
  go_wp2_with fail
  clear hmk k5
  obtain ⟨X, hX⟩ : ∃ X, w2.heap.size = X := ⟨_, rfl⟩
  rw [hX] at T3 B3 hX2
  rw [hX]
  go_loopw [14] (fun t wr => ∃ k : Nat, k ≤ n ∧ t = .int .i64 k ∧ Hid (CTab wr X p pw g (fun b => shN q r n b + c) c n k) ∧ Hid (LB wr w.heap.size p pw g D c n) ∧ Hid (Below X w2 wr)) (fun t _ => n - (intOf t).toNat)
  case atStart => exact ⟨0, by omega, rfl, T3, L3, B3⟩
  case round =>
    clear T3 L3 B3
    obtain ⟨k, hk, rfl, hT, hL, hB⟩ := hrel
    by_cases hkn : k < n
    · have hki : (k : Int) < (n : Int) := by omega
      have k0 := hL.out.c0
      have k1 := hL.out.c1
      have k2 := hL.out.c2
      have k3 := hL.out.c3
      have k4 := hL.out.c4
      have k5 := hL.out.c5
      go_wp2_with fail
      refine (lcode_any p pw g HL.out k _ rfl (by omega) _).mono ?_
      rintro e w4 ⟨rfl, hb4⟩
      have T4 := Lib.hid (hT.out.below hb4 hT.out.lt)
      have L4 := Lib.hid (hL.out.below hb4 hL.out.lt)
      have B4 := Lib.hid (hB.out.trans (hb4.mono (by have := hT.out.lt; omega)))
      clear hb4 hT hL hB k0 k1 k2 k3 k4 k5
      obtain ⟨o, ho⟩ : ∃ o, k * 5 = o := ⟨_, rfl⟩
      obtain ⟨x0, e0⟩ := Option.isSome_iff_exists.1 (T4.out.there (o := o) (by omega))
      obtain ⟨x1, e1⟩ := Option.isSome_iff_exists.1 (T4.out.there (o := o + 1) (by omega))
      obtain ⟨x2, e2⟩ := Option.isSome_iff_exists.1 (T4.out.there (o := o + 2) (by omega))
      obtain ⟨x3, e3⟩ := Option.isSome_iff_exists.1 (T4.out.there (o := o + 3) (by omega))
      obtain ⟨x4, e4⟩ := Option.isSome_iff_exists.1 (T4.out.there (o := o + 4) (by omega))
      have HF := fun i => T4.out.fz i
      have T5 := T4.out.set hkn (o := o) (by omega)
      have hcs : ((shN q r n k + c : Nat) : Int) = (shN q r n k : Int) + (c : Int) := by simp
      rw [hcs] at T5
      have T5 := Lib.hid T5
      have L5 := Lib.hid (((((L4.out.other (show w.heap.size ≠ X by omega) (o := o) (.int .i64 p)).other (show w.heap.size ≠ X by omega) (o := o + 1) (.int .i64 pw)).other (show w.heap.size ≠ X by omega) (o := o + 2) (.int .i64 g)).other (show w.heap.size ≠ X by omega) (o := o + 3) (.int .i64 ((shN q r n k : Int) + (c : Int)))).other (show w.heap.size ≠ X by omega) (o := o + 4) (.int .i64 c))
      have B5 := Lib.hid (((((B4.out.setCell (p := ⟨X, o, none⟩) (Nat.le_refl _) (.int .i64 p)).setCell (p := ⟨X, o + 1, none⟩) (Nat.le_refl _) (.int .i64 pw)).setCell (p := ⟨X, o + 2, none⟩) (Nat.le_refl _) (.int .i64 g)).setCell (p := ⟨X, o + 3, none⟩) (Nat.le_refl _) (.int .i64 ((shN q r n k : Int) + (c : Int)))).setCell (p := ⟨X, o + 4, none⟩) (Nat.le_refl _) (.int .i64 c))
      have ne : ∀ i j : Nat, i ≠ j → (⟨X, o + i, none⟩ : Addr) ≠ ⟨X, o + j, none⟩ := fun i j h e => h (by have := congrArg Addr.off e; simp at this; omega)
      have ne0 : ∀ j : Nat, j ≠ 0 → (⟨X, o, none⟩ : Addr) ≠ ⟨X, o + j, none⟩ := fun j h e => h (by have := congrArg Addr.off e; simp at this; omega)
      have f0 := HF o
      have g1 := (World.cell?_setCell_other _ _ _ (.int .i64 p) (ne0 1 (by omega))).trans e1
      have f1 := (World.frozen?_setCell _ (a := ⟨X, o, none⟩) (v := (.int .i64 p)) (b := ⟨X, o + 1, none⟩)).trans (HF _)
      have g2 := (World.cell?_setCell_other _ _ _ (.int .i64 pw) (ne 1 2 (by omega))).trans ((World.cell?_setCell_other _ _ _ (.int .i64 p) (ne0 2 (by omega))).trans e2)
      have f2 := (World.frozen?_setCell _ (a := ⟨X, o + 1, none⟩) (v := (.int .i64 pw)) (b := ⟨X, o + 2, none⟩)).trans ((World.frozen?_setCell _ (a := ⟨X, o, none⟩) (v := (.int .i64 p)) (b := ⟨X, o + 2, none⟩)).trans (HF _))
      have g3 := (World.cell?_setCell_other _ _ _ (.int .i64 g) (ne 2 3 (by omega))).trans ((World.cell?_setCell_other _ _ _ (.int .i64 pw) (ne 1 3 (by omega))).trans ((World.cell?_setCell_other _ _ _ (.int .i64 p) (ne0 3 (by omega))).trans e3))
      have f3 := (World.frozen?_setCell _ (a := ⟨X, o + 2, none⟩) (v := (.int .i64 g)) (b := ⟨X, o + 3, none⟩)).trans ((World.frozen?_setCell _ (a := ⟨X, o + 1, none⟩) (v := (.int .i64 pw)) (b := ⟨X, o + 3, none⟩)).trans ((World.frozen?_setCell _ (a := ⟨X, o, none⟩) (v := (.int .i64 p)) (b := ⟨X, o + 3, none⟩)).trans (HF _)))
      have g4 := (World.cell?_setCell_other _ _ _ (.int .i64 ((shN q r n k : Int) + (c : Int))) (ne 3 4 (by omega))).trans ((World.cell?_setCell_other _ _ _ (.int .i64 g) (ne 2 4 (by omega))).trans ((World.cell?_setCell_other _ _ _ (.int .i64 pw) (ne 1 4 (by omega))).trans ((World.cell?_setCell_other _ _ _ (.int .i64 p) (ne0 4 (by omega))).trans e4)))
      have f4 := (World.frozen?_setCell _ (a := ⟨X, o + 3, none⟩) (v := (.int .i64 ((shN q r n k : Int) + (c : Int)))) (b := ⟨X, o + 4, none⟩)).trans ((World.frozen?_setCell _ (a := ⟨X, o + 2, none⟩) (v := (.int .i64 g)) (b := ⟨X, o + 4, none⟩)).trans ((World.frozen?_setCell _ (a := ⟨X, o + 1, none⟩) (v := (.int .i64 pw)) (b := ⟨X, o + 4, none⟩)).trans ((World.frozen?_setCell _ (a := ⟨X, o, none⟩) (v := (.int .i64 p)) (b := ⟨X, o + 4, none⟩)).trans (HF _))))
      clear ne ne0 HF T4 L4 B4 e1 e2 e3 e4 hcs
      go_wp2_with fail
      go_roundw
      case rel => exact ⟨k + 1, by omega, by go_num, T5, L5, B5⟩
      case measure => simp [intOf]; omega
    · obtain rfl : k = n := by omega
      go_wp2_with fail
      go_ret2
      exact ⟨X, rfl, B2.out.trans (hB.out.mono (by omega)), by omega, hT.out⟩
end Go.Proofs.Ytfhkkpfiflgofaa
