/-
  Layouts: the walks of their parts in both programs.
-/
import Derived.Test.YtdcmebegnekkcaaGreatLayP
import Derived.Test.YtdcmebegnekkcaaGreatDraw
import Derived.Test.YtdcmebegnekkcaaGreatEncLaw
namespace Go.Proofs.YtdcmebegnekkcaaGreat
open Go.RowKit
set_option linter.unusedVariables false

abbrev lV (p pw g D C N : Int) : Value := .agg #[.int .i64 p, .int .i64 pw, .int .i64 g, .int .i64 D, .int .i64 C, .int .i64 N]
abbrev LT : TypeId := 112
structure LB (w : World) (B : Nat) (p pw g D C N : Int) : Prop where
  blk : w.heap[B]? = some (.cells #[.int .i64 p, .int .i64 pw, .int .i64 g, .int .i64 D, .int .i64 C, .int .i64 N] LT (0, 0))
section
variable {w w' : World} {B M : Nat} {p pw g D C N : Int}
theorem LB.new (w : World) (p pw g D C N : Int) : LB (w.alloc (.cells #[.int .i64 p, .int .i64 pw, .int .i64 g, .int .i64 D, .int .i64 C, .int .i64 N] LT)) w.heap.size p pw g D C N := ⟨heap_new _ _⟩
theorem LB.lt (h : LB w B p pw g D C N) : B < w.heap.size := lt_of_heap h.blk
theorem LB.below (h : LB w B p pw g D C N) (hb : Below M w w') (hC : B < M) : LB w' B p pw g D C N := ⟨(hb.block B hC).trans h.blk⟩
theorem LB.dr {s : Nat} (h : LB w B p pw g D C N) (hd : Dr s w w') (hn : B ≠ s) : LB w' B p pw g D C N := ⟨(hd.block B h.lt hn).trans h.blk⟩
theorem LB.other (h : LB w B p pw g D C N) {H o : Nat} (hn : B ≠ H) (v : Value) : LB (w.setCell ⟨H, o, none⟩ v) B p pw g D C N := ⟨(Below.heap_setCell _ _ _ _ hn).trans h.blk⟩
theorem LB.c0 (h : LB w B p pw g D C N) : w.cell? ⟨B, 0, none⟩ = some (.int .i64 p) := by unfold World.cell?; rw [h.blk]; rfl
theorem LB.c1 (h : LB w B p pw g D C N) : w.cell? ⟨B, 1, none⟩ = some (.int .i64 pw) := by unfold World.cell?; rw [h.blk]; rfl
theorem LB.c2 (h : LB w B p pw g D C N) : w.cell? ⟨B, 2, none⟩ = some (.int .i64 g) := by unfold World.cell?; rw [h.blk]; rfl
theorem LB.c3 (h : LB w B p pw g D C N) : w.cell? ⟨B, 3, none⟩ = some (.int .i64 D) := by unfold World.cell?; rw [h.blk]; rfl
theorem LB.c4 (h : LB w B p pw g D C N) : w.cell? ⟨B, 4, none⟩ = some (.int .i64 C) := by unfold World.cell?; rw [h.blk]; rfl
theorem LB.c5 (h : LB w B p pw g D C N) : w.cell? ⟨B, 5, none⟩ = some (.int .i64 N) := by unfold World.cell?; rw [h.blk]; rfl
theorem LB.fz (h : LB w B p pw g D C N) (o : Nat) : w.frozen? ⟨B, o, none⟩ = false := by unfold World.frozen?; rw [h.blk]; simp
end
theorem wraps {x : Int} (h : -1000000 ≤ x ∧ x ≤ 1000000) : wrap64 x = x ∧ IntKind.i64.wrap x = x := ⟨IntWalk.wrap64_in _ (by omega), IntWalk.i64_in _ (by omega)⟩
/-- The numbers of a layout. -/
structure LN (D C N : Int) (q r n c : Nat) : Prop where
  hD : D = ((q * n + r : Nat) : Int)
  hN : N = (n : Int)
  hC : C = (c : Int)
  n1 : 1 ≤ n
  n16 : n ≤ 16
  rn : r < n
  nD : n ≤ q * n + r
  D15 : q * n + r ≤ 1500
  c1 : 1 ≤ c
  c64 : c ≤ 64
section
variable {D C N : Int} {q r n c : Nat}
theorem LN.of (h1 : inR N 1 16 = true) (h2 : inR D N 1500 = true) (h3 : inR C 1 64 = true) : ∃ q r n c, LN D C N q r n c := by
  obtain ⟨a1, a2⟩ := inR_iff.1 h1
  obtain ⟨b1, b2⟩ := inR_iff.1 h2
  obtain ⟨c1, c2⟩ := inR_iff.1 h3
  obtain ⟨n, rfl⟩ := Int.eq_ofNat_of_zero_le (show 0 ≤ N by omega)
  obtain ⟨d, rfl⟩ := Int.eq_ofNat_of_zero_le (show 0 ≤ D by omega)
  obtain ⟨c, rfl⟩ := Int.eq_ofNat_of_zero_le (show 0 ≤ C by omega)
  have e : d / n * n + d % n = d := by rw [Nat.mul_comm]; exact Nat.div_add_mod d n
  have hlt : d % n < n := Nat.mod_lt _ (by omega)
  exact ⟨d / n, d % n, n, c, by rw [e], rfl, rfl, by omega, by omega, hlt, by omega, by omega, by omega, by omega⟩
theorem LN.quo (h : LN D C N q r n c) : D.tdiv N = (q : Int) := by
  rw [h.hD, h.hN, Int.tdiv_eq_ediv_of_nonneg (by omega)]
  have : ((q * n + r) / n : Nat) = q := by
    rw [Nat.mul_comm, Nat.mul_add_div (by have := h.n1; omega), Nat.div_eq_of_lt h.rn, Nat.add_zero]
  omega
theorem LN.rem (h : LN D C N q r n c) : D.tmod N = (r : Int) := by
  rw [h.hD, h.hN, Int.tmod_eq_emod_of_nonneg (by omega)]
  have : ((q * n + r) % n : Nat) = r := by
    rw [Nat.mul_comm, Nat.mul_add_mod, Nat.mod_eq_of_lt h.rn]
  omega
theorem LN.qle (h : LN D C N q r n c) : q ≤ 1500 := by
  have h1 := h.D15
  have h2 := h.n1
  have : q * 1 ≤ q * n := Nat.mul_le_mul_left q h2
  omega
theorem LN.mul (h : LN D C N q r n c) : ∃ m : Nat, N * C = (m : Int) ∧ m = n * c ∧ m ≤ 1024 := by
  refine ⟨n * c, by rw [h.hN, h.hC]; simp, rfl, ?_⟩
  have := Nat.mul_le_mul h.n16 h.c64
  omega
theorem LN.first (h : LN D C N q r n c) : shN q r n 0 = q := by
  have := h.rn
  unfold shN; rw [if_neg (by omega)]; rfl
end
/-- Whether a layout is valid. -/
noncomputable def layB (p pw g D C N : Int) : Bool :=
  inR N 1 16 && (inR D N 1500 && (inR C 1 64 && (decide (D + N * C ≤ 1500) && (validC p pw g (D.tdiv N + C) C && validC p pw g (D.tdiv N + (if 1 ≤ D.tmod N then 1 else 0) + C) C))))
noncomputable def layI (p pw g D C N : Int) : Int := if layB p pw g D C N = true then 0 else 1
theorem LN.last {D C N : Int} {q r n c : Nat} (h : LN D C N q r n c) : ((shN q r n (n - 1) : Nat) : Int) = D.tdiv N + (if 1 ≤ D.tmod N then 1 else 0) := by
  rw [h.quo, h.rem]
  have h1 := h.n1
  have h2 := h.rn
  unfold shN
  by_cases hr : 1 ≤ r
  · rw [if_pos (by omega), if_pos (by omega)]; simp
  · rw [if_neg (by omega), if_neg (by omega)]; simp
set_option maxHeartbeats 4000000 in
theorem share_any (p pw g : Int) {D C N : Int} {q r n c : Nat} (hl : LN D C N q r n c) (b : Nat) (bi : Int) (hbi : bi = (b : Int)) (hb : b ≤ 1000) (w : World) :
    Calls Tryz.prog 157 #[lV p pw g D C N, .int .i64 bi] w fun e w' => e = .returned (.int .i64 (shN q r n b : Nat)) ∧ Below w.heap.size w w' := by
  subst hbi
  have HB := Lib.hid (below1 w (.cells #[.int .i64 p, .int .i64 pw, .int .i64 g, .int .i64 D, .int .i64 C, .int .i64 N] LT))
  have e1 := hl.quo
  have e2 := hl.rem
  have hq := hl.qle
  have hn1 := hl.n1
  have hn16 := hl.n16
  have hrn := hl.rn
  have hN := hl.hN
  have hD := hl.hD
  have hD15 := hl.D15
  have hDb : 0 ≤ D ∧ D ≤ 1500 := by omega
  subst hN
  have HS := Lib.hid (show shN q r n b = q + if n - r ≤ b then 1 else 0 from rfl)
  clear hl hD
  have hn0 : ¬ (n : Int) = 0 := by omega
  have y1 : -1000000 ≤ (q : Int) ∧ (q : Int) ≤ 1000000 := by omega
  have y2 : -1000000 ≤ (r : Int) ∧ (r : Int) ≤ 1000000 := by omega
  have y3 : -1000000 ≤ (n : Int) - (r : Int) ∧ (n : Int) - (r : Int) ≤ 1000000 := by omega
  have y4 : -1000000 ≤ (q : Int) + 1 ∧ (q : Int) + 1 ≤ 1000000 := by omega
  obtain ⟨w2, w1⟩ := wraps y1
  obtain ⟨-, w3⟩ := wraps y2
  obtain ⟨w4, w5⟩ := wraps y3
  obtain ⟨w6, w7⟩ := wraps y4
  clear hD15 hDb hq y1 y2 y3 y4
  go_enter Tryz.func157, Tryz.ntmps157
  by_cases hge : n - r ≤ b
  · have hgi : (n : Int) - (r : Int) ≤ (b : Int) := by clear w1 w2 w3 w4 w5 w6 w7; omega
    rw [if_pos hge] at HS
    clear hge
    go_wp2_with fail
    go_quiet (fail)
    go_wp2_with fail
    go_ret
    exact ⟨by rw [HS.out]; rfl, HB.out.trans ((Drew.below (drew4 _ _) _).mono HB.out.size)⟩
  · have hgi : ¬ (n : Int) - (r : Int) ≤ (b : Int) := by clear w1 w2 w3 w4 w5 w6 w7; omega
    rw [if_neg hge] at HS
    clear hge
    go_wp2_with fail
    go_quiet (fail)
    go_wp2_with fail
    go_ret
    exact ⟨by rw [HS.out]; rfl, HB.out.trans ((Drew.below (drew4 _ _) _).mono HB.out.size)⟩
set_option maxHeartbeats 4000000 in
theorem l07Size_any (p pw g : Int) {D C N : Int} {q r n c : Nat} (hl : LN D C N q r n c) (b : Nat) (bi : Int) (hbi : bi = (b : Int)) (hb : b ≤ 1000) (w : World) :
    Calls Tryz.prog 84 #[lV p pw g D C N, .int .i64 bi] w fun e w' => e = .returned (.int .i64 (shN q r n b : Nat)) ∧ Below w.heap.size w w' := by
  subst hbi
  have HB := Lib.hid (below1 w (.cells #[.int .i64 p, .int .i64 pw, .int .i64 g, .int .i64 D, .int .i64 C, .int .i64 N] LT))
  have e1 := hl.quo
  have e2 := hl.rem
  have hq := hl.qle
  have hn1 := hl.n1
  have hn16 := hl.n16
  have hrn := hl.rn
  have hN := hl.hN
  have hD := hl.hD
  have hD15 := hl.D15
  have hDb : 0 ≤ D ∧ D ≤ 1500 := by omega
  subst hN
  have HS := Lib.hid (show shN q r n b = q + if n - r ≤ b then 1 else 0 from rfl)
  clear hl hD
  have hn0 : ¬ (n : Int) = 0 := by omega
  have y1 : -1000000 ≤ (q : Int) ∧ (q : Int) ≤ 1000000 := by omega
  have y2 : -1000000 ≤ (r : Int) ∧ (r : Int) ≤ 1000000 := by omega
  have y3 : -1000000 ≤ (n : Int) - (r : Int) ∧ (n : Int) - (r : Int) ≤ 1000000 := by omega
  have y4 : -1000000 ≤ (q : Int) + 1 ∧ (q : Int) + 1 ≤ 1000000 := by omega
  obtain ⟨w2, w1⟩ := wraps y1
  obtain ⟨-, w3⟩ := wraps y2
  obtain ⟨w4, w5⟩ := wraps y3
  obtain ⟨w6, w7⟩ := wraps y4
  clear hD15 hDb hq y1 y2 y3 y4
  go_enter Tryz.func84, Tryz.ntmps84
  by_cases hge : n - r ≤ b
  · have hgi : (n : Int) - (r : Int) ≤ (b : Int) := by clear w1 w2 w3 w4 w5 w6 w7; omega
    rw [if_pos hge] at HS
    clear hge
    go_wp2_with fail
    go_quiet (fail)
    go_wp2_with fail
    go_ret
    exact ⟨by rw [HS.out]; rfl, HB.out.trans ((Drew.below (drew4 _ _) _).mono HB.out.size)⟩
  · have hgi : ¬ (n : Int) - (r : Int) ≤ (b : Int) := by clear w1 w2 w3 w4 w5 w6 w7; omega
    rw [if_neg hge] at HS
    clear hge
    go_wp2_with fail
    go_quiet (fail)
    go_wp2_with fail
    go_ret
    exact ⟨by rw [HS.out]; rfl, HB.out.trans ((Drew.below (drew4 _ _) _).mono HB.out.size)⟩
set_option maxHeartbeats 4000000 in
set_option maxRecDepth 100000 in
theorem lcode_any (p pw g : Int) {D C N : Int} {q r n c : Nat} (hl : LN D C N q r n c) (b : Nat) (bi : Int) (hbi : bi = (b : Int)) (hb : b ≤ 1000) (w : World) :
    Calls Tryz.prog 149 #[lV p pw g D C N, .int .i64 bi] w fun e w' => e = .returned (cV p pw g ((shN q r n b + c : Nat) : Int) C) ∧ Below w.heap.size w w' := by
  subst hbi
  have HL := Lib.hid hl
  have HC := Lib.hid hl.hC
  have hCb : 0 ≤ C ∧ C ≤ 64 := by have := hl.hC; have := hl.c64; omega
  have hq := hl.qle
  have hs := shN_le q r n b
  have L0 := Lib.hid ((LB.new w p pw g D C N).below (below1 _ (.cells #[.int .i64 0, .int .i64 0, .int .i64 0, .int .i64 0, .int .i64 0] CT)) (LB.new w p pw g D C N).lt)
  have F0 := Lib.hid (CB.new (w.alloc (.cells #[.int .i64 p, .int .i64 pw, .int .i64 g, .int .i64 D, .int .i64 C, .int .i64 N] LT)) 0 0 0 0 0)
  rw [show (w.alloc (.cells #[.int .i64 p, .int .i64 pw, .int .i64 g, .int .i64 D, .int .i64 C, .int .i64 N] LT)).heap.size = w.heap.size + 1 by simp] at F0
  have B0 := Lib.hid ((below1 w (.cells #[.int .i64 p, .int .i64 pw, .int .i64 g, .int .i64 D, .int .i64 C, .int .i64 N] LT)).alloc (by simp) (.cells #[.int .i64 0, .int .i64 0, .int .i64 0, .int .i64 0, .int .i64 0] CT))
  have HRES := Lib.hid (show Tryz.f149.results = #[.cell 4 CT] by kernel_rfl)
  have hs2 : w.heap.size + 1 < ((w.alloc (.cells #[.int .i64 p, .int .i64 pw, .int .i64 g, .int .i64 D, .int .i64 C, .int .i64 N] LT)).alloc (.cells #[.int .i64 0, .int .i64 0, .int .i64 0, .int .i64 0, .int .i64 0] CT)).heap.size := by simp
  clear hl
  go_enter Tryz.func149, Tryz.ntmps149
  go_wp2_with fail
  generalize (w.alloc (.cells #[.int .i64 p, .int .i64 pw, .int .i64 g, .int .i64 D, .int .i64 C, .int .i64 N] LT)).alloc (.cells #[.int .i64 0, .int .i64 0, .int .i64 0, .int .i64 0, .int .i64 0] CT) = w1 at *
  have k0 := (L0.out.below (Drew.below (drew1 w1) _) L0.out.lt).c0
  have k1 := (L0.out.below (Drew.below (drew1 w1) _) L0.out.lt).c1
  have k2 := (L0.out.below (Drew.below (drew1 w1) _) L0.out.lt).c2
  have k3 := (L0.out.below (Drew.below (drew1 w1) _) L0.out.lt).c3
  have k4 := (L0.out.below (Drew.below (drew1 w1) _) L0.out.lt).c4
  have k5 := (L0.out.below (Drew.below (drew1 w1) _) L0.out.lt).c5
  have v1 : wrap64 ((shN q r n b : Int) + C) = (shN q r n b : Int) + C := IntWalk.wrap64_in _ (by omega)
  have v2 : IntKind.i64.wrap ((shN q r n b : Int) + C) = (shN q r n b : Int) + C := IntWalk.i64_in _ (by omega)
  refine wp_region_lastW (S := (fun w' => w'.cell? ⟨w.heap.size, 0, none⟩ = some (.int .i64 p) ∧ w'.cell? ⟨w.heap.size, 1, none⟩ = some (.int .i64 pw) ∧ w'.cell? ⟨w.heap.size, 2, none⟩ = some (.int .i64 g) ∧ w'.cell? ⟨w.heap.size, 3, none⟩ = some (.int .i64 D) ∧ w'.cell? ⟨w.heap.size, 4, none⟩ = some (.int .i64 C) ∧ w'.cell? ⟨w.heap.size, 5, none⟩ = some (.int .i64 N))) 11 (by kernel_rfl) rfl (by kernel_rfl) ?_ (fun hHeld => ?_)
  · (try dsimp only); exact ⟨k0, k1, k2, k3, k4, k5⟩
  simp only [List.take_succ_cons, List.take_zero]
  refine wpAnyH_take (i := 0) (oi := _) (v := ?_) rfl (by kernel_rfl) (by kernel_rfl) (by kernel_rfl) (fun _ _ _ h => h) (Or.inl ⟨by rfl, ?_⟩) hHeld ?_
  rotate_left
  · intro w0 hSw; (try dsimp only at hSw); go_simp; (try with_reducible rfl)
  (try dsimp only [Act.put, List.setIfInBounds_toArray, List.set_cons_zero, List.set_cons_succ])
  refine wpAnyH_take (i := 1) (oi := _) (v := ?_) rfl (by kernel_rfl) (by kernel_rfl) (by kernel_rfl) (fun _ _ _ h => h) (Or.inl ⟨by rfl, ?_⟩) hHeld ?_
  rotate_left
  · intro w0 hSw; (try dsimp only at hSw); go_simp; (try with_reducible rfl)
  (try dsimp only [Act.put, List.setIfInBounds_toArray, List.set_cons_zero, List.set_cons_succ])
  refine wpAnyH_take (i := 2) (oi := _) (v := ?_) rfl (by kernel_rfl) (by kernel_rfl) (by kernel_rfl) (fun _ _ _ h => h) (Or.inl ⟨by rfl, ?_⟩) hHeld ?_
  rotate_left
  · intro w0 hSw; (try dsimp only at hSw); go_simp; (try with_reducible rfl)
  (try dsimp only [Act.put, List.setIfInBounds_toArray, List.set_cons_zero, List.set_cons_succ])
  refine wpAnyH_take (i := 3) (oi := _) (v := ?_) rfl (by kernel_rfl) (by kernel_rfl) (by kernel_rfl) (fun _ _ _ h => h) (Or.inl ⟨by rfl, ?_⟩) hHeld ?_
  rotate_left
  · intro w0 hSw; (try dsimp only at hSw); go_simp; (try with_reducible rfl)
  (try dsimp only [Act.put, List.setIfInBounds_toArray, List.set_cons_zero, List.set_cons_succ])
  refine wpAnyH_take (i := 5) (oi := _) (v := ?_) rfl (by kernel_rfl) (by kernel_rfl) (by kernel_rfl) (fun _ _ _ h => h) (Or.inl ⟨by rfl, ?_⟩) hHeld ?_
  rotate_left
  · intro w0 hSw; (try dsimp only at hSw); go_simp; (try with_reducible rfl)
  (try dsimp only [Act.put, List.setIfInBounds_toArray, List.set_cons_zero, List.set_cons_succ])
  refine wpAnyH_take (i := 6) (oi := _) (v := ?_) rfl (by kernel_rfl) (by kernel_rfl) (by kernel_rfl) (fun _ _ _ h => h) (Or.inl ⟨by rfl, ?_⟩) hHeld ?_
  rotate_left
  · intro w0 hSw; (try dsimp only at hSw); go_simp; (try with_reducible rfl)
  (try dsimp only [Act.put, List.setIfInBounds_toArray, List.set_cons_zero, List.set_cons_succ])
  refine wpAnyH_take (i := 8) (oi := _) (v := ?_) rfl (by kernel_rfl) (by kernel_rfl) (by kernel_rfl) (fun _ _ _ h => h) (Or.inl ⟨by rfl, ?_⟩) hHeld ?_
  rotate_left
  · intro w0 hSw; (try dsimp only at hSw); go_simp; (try with_reducible rfl)
  (try dsimp only [Act.put, List.setIfInBounds_toArray, List.set_cons_zero, List.set_cons_succ])
  refine wpAnyH_take (i := 9) (oi := _) (v := ?_) rfl (by kernel_rfl) (by kernel_rfl) (by kernel_rfl) (fun _ _ _ h => h) (Or.inl ⟨by rfl, ?_⟩) hHeld ?_
  rotate_left
  · intro w0 hSw; (try dsimp only at hSw); go_simp; (try with_reducible rfl)
  (try dsimp only [Act.put, List.setIfInBounds_toArray, List.set_cons_zero, List.set_cons_succ])
  refine wpAnyH_ready (rs := [4]) (by kernel_rfl) (by simp) ?_
  refine AllReadyH.cons (o := _) rfl (fun K hK => ?_) AllReadyH.nil
  go_simp
  refine (share_any p pw g HL.out b _ rfl hb _).mono ?_
  rintro e w5 ⟨rfl, hb5⟩
  go_wp2_with fail
  refine hK.out _ _ ?_ (fun hHeld => ?_)
  · (try dsimp only); exact ⟨keep_cell hb5 hHeld.1, keep_cell hb5 hHeld.2.1, keep_cell hb5 hHeld.2.2.1, keep_cell hb5 hHeld.2.2.2.1, keep_cell hb5 hHeld.2.2.2.2.1, keep_cell hb5 hHeld.2.2.2.2.2⟩
  clear hK K
  (try dsimp only [Act.put, List.setIfInBounds_toArray, List.set_cons_zero, List.set_cons_succ])
  refine wpAnyH_take (i := 7) (oi := _) (v := ?_) rfl (by kernel_rfl) (by kernel_rfl) (by kernel_rfl) (fun _ _ _ h => h) (Or.inl ⟨by rfl, ?_⟩) hHeld ?_
  rotate_left
  · intro w0 hSw; (try dsimp only at hSw); go_simp; (try with_reducible rfl)
  (try dsimp only [Act.put, List.setIfInBounds_toArray, List.set_cons_zero, List.set_cons_succ])
  refine wpAnyH_take (i := 10) (oi := _) (v := ?_) rfl (by kernel_rfl) (by kernel_rfl) (by kernel_rfl) (fun _ _ _ h => h) (Or.inl ⟨by rfl, ?_⟩) hHeld ?_
  rotate_left
  · intro w0 hSw; (try dsimp only at hSw); go_simp; (try with_reducible rfl)
  (try dsimp only [Act.put, List.setIfInBounds_toArray, List.set_cons_zero, List.set_cons_succ])
  refine wpAnyH_done (by kernel_rfl) (lastQ_normalW ?_) _
  have hb5' := Below.trans (Drew.below (drew1 w1) w1.heap.size) hb5
  have F5 := Lib.hid (F0.out.below hb5' F0.out.lt)
  have B5 := Lib.hid (B0.out.trans (hb5'.mono B0.out.size))
  have r0 := F5.out.c0
  have r1 := F5.out.c1
  have r2 := F5.out.c2
  have r3 := F5.out.c3
  have r4 := F5.out.c4
  have f0 := F5.out.fz 0
  have f1 := F5.out.fz 1
  have f2 := F5.out.fz 2
  have f3 := F5.out.fz 3
  have f4 := F5.out.fz 4
  clear hb5 hb5' hHeld k0 k1 k2 k3 k4 k5
  go_wp2_with fail
  (try simp only [Exit.inBlock, Exit.then])
  have FF := Lib.hid (F5.out.set p pw g ((shN q r n b : Int) + C) C)
  have BF := Lib.hid (setC_below (B := w.heap.size + 1) (p := p) (pw := pw) (g := g) (l := (shN q r n b : Int) + C) (c := C) B5.out (by omega))
  exact ret_cell1 HRES.out Tryz.underlying133 rfl (by kernel_rfl) rfl rfl FF.out.blk ⟨by rw [Int.natCast_add, ← HC.out], BF.out⟩
set_option maxHeartbeats 4000000 in
set_option maxRecDepth 100000 in
theorem l07Block_any (p pw g : Int) {D C N : Int} {q r n c : Nat} (hl : LN D C N q r n c) (b : Nat) (bi : Int) (hbi : bi = (b : Int)) (hb : b ≤ 1000) (w : World) :
    Calls Tryz.prog 78 #[lV p pw g D C N, .int .i64 bi] w fun e w' => e = .returned (cV p pw g ((shN q r n b + c : Nat) : Int) C) ∧ Below w.heap.size w w' := by
  subst hbi
  have HL := Lib.hid hl
  have HC := Lib.hid hl.hC
  have hCb : 0 ≤ C ∧ C ≤ 64 := by have := hl.hC; have := hl.c64; omega
  have hq := hl.qle
  have hs := shN_le q r n b
  have L0 := Lib.hid ((LB.new w p pw g D C N).below (below1 _ (.cells #[.int .i64 0, .int .i64 0, .int .i64 0, .int .i64 0, .int .i64 0] CT)) (LB.new w p pw g D C N).lt)
  have F0 := Lib.hid (CB.new (w.alloc (.cells #[.int .i64 p, .int .i64 pw, .int .i64 g, .int .i64 D, .int .i64 C, .int .i64 N] LT)) 0 0 0 0 0)
  rw [show (w.alloc (.cells #[.int .i64 p, .int .i64 pw, .int .i64 g, .int .i64 D, .int .i64 C, .int .i64 N] LT)).heap.size = w.heap.size + 1 by simp] at F0
  have B0 := Lib.hid ((below1 w (.cells #[.int .i64 p, .int .i64 pw, .int .i64 g, .int .i64 D, .int .i64 C, .int .i64 N] LT)).alloc (by simp) (.cells #[.int .i64 0, .int .i64 0, .int .i64 0, .int .i64 0, .int .i64 0] CT))
  have HRES := Lib.hid (show Tryz.f78.results = #[.cell 4 CT] by kernel_rfl)
  have hs2 : w.heap.size + 1 < ((w.alloc (.cells #[.int .i64 p, .int .i64 pw, .int .i64 g, .int .i64 D, .int .i64 C, .int .i64 N] LT)).alloc (.cells #[.int .i64 0, .int .i64 0, .int .i64 0, .int .i64 0, .int .i64 0] CT)).heap.size := by simp
  clear hl
  go_enter Tryz.func78, Tryz.ntmps78
  go_wp2_with fail
  generalize (w.alloc (.cells #[.int .i64 p, .int .i64 pw, .int .i64 g, .int .i64 D, .int .i64 C, .int .i64 N] LT)).alloc (.cells #[.int .i64 0, .int .i64 0, .int .i64 0, .int .i64 0, .int .i64 0] CT) = w1 at *
  have k0 := (L0.out.below (Drew.below (drew1 w1) _) L0.out.lt).c0
  have k1 := (L0.out.below (Drew.below (drew1 w1) _) L0.out.lt).c1
  have k2 := (L0.out.below (Drew.below (drew1 w1) _) L0.out.lt).c2
  have k3 := (L0.out.below (Drew.below (drew1 w1) _) L0.out.lt).c3
  have k4 := (L0.out.below (Drew.below (drew1 w1) _) L0.out.lt).c4
  have k5 := (L0.out.below (Drew.below (drew1 w1) _) L0.out.lt).c5
  have v1 : wrap64 ((shN q r n b : Int) + C) = (shN q r n b : Int) + C := IntWalk.wrap64_in _ (by omega)
  have v2 : IntKind.i64.wrap ((shN q r n b : Int) + C) = (shN q r n b : Int) + C := IntWalk.i64_in _ (by omega)
  refine wp_region_lastW (S := (fun w' => w'.cell? ⟨w.heap.size, 0, none⟩ = some (.int .i64 p) ∧ w'.cell? ⟨w.heap.size, 1, none⟩ = some (.int .i64 pw) ∧ w'.cell? ⟨w.heap.size, 2, none⟩ = some (.int .i64 g) ∧ w'.cell? ⟨w.heap.size, 3, none⟩ = some (.int .i64 D) ∧ w'.cell? ⟨w.heap.size, 4, none⟩ = some (.int .i64 C) ∧ w'.cell? ⟨w.heap.size, 5, none⟩ = some (.int .i64 N))) 11 (by kernel_rfl) rfl (by kernel_rfl) ?_ (fun hHeld => ?_)
  · (try dsimp only); exact ⟨k0, k1, k2, k3, k4, k5⟩
  simp only [List.take_succ_cons, List.take_zero]
  refine wpAnyH_take (i := 0) (oi := _) (v := ?_) rfl (by kernel_rfl) (by kernel_rfl) (by kernel_rfl) (fun _ _ _ h => h) (Or.inl ⟨by rfl, ?_⟩) hHeld ?_
  rotate_left
  · intro w0 hSw; (try dsimp only at hSw); go_simp; (try with_reducible rfl)
  (try dsimp only [Act.put, List.setIfInBounds_toArray, List.set_cons_zero, List.set_cons_succ])
  refine wpAnyH_take (i := 1) (oi := _) (v := ?_) rfl (by kernel_rfl) (by kernel_rfl) (by kernel_rfl) (fun _ _ _ h => h) (Or.inl ⟨by rfl, ?_⟩) hHeld ?_
  rotate_left
  · intro w0 hSw; (try dsimp only at hSw); go_simp; (try with_reducible rfl)
  (try dsimp only [Act.put, List.setIfInBounds_toArray, List.set_cons_zero, List.set_cons_succ])
  refine wpAnyH_take (i := 2) (oi := _) (v := ?_) rfl (by kernel_rfl) (by kernel_rfl) (by kernel_rfl) (fun _ _ _ h => h) (Or.inl ⟨by rfl, ?_⟩) hHeld ?_
  rotate_left
  · intro w0 hSw; (try dsimp only at hSw); go_simp; (try with_reducible rfl)
  (try dsimp only [Act.put, List.setIfInBounds_toArray, List.set_cons_zero, List.set_cons_succ])
  refine wpAnyH_take (i := 3) (oi := _) (v := ?_) rfl (by kernel_rfl) (by kernel_rfl) (by kernel_rfl) (fun _ _ _ h => h) (Or.inl ⟨by rfl, ?_⟩) hHeld ?_
  rotate_left
  · intro w0 hSw; (try dsimp only at hSw); go_simp; (try with_reducible rfl)
  (try dsimp only [Act.put, List.setIfInBounds_toArray, List.set_cons_zero, List.set_cons_succ])
  refine wpAnyH_take (i := 5) (oi := _) (v := ?_) rfl (by kernel_rfl) (by kernel_rfl) (by kernel_rfl) (fun _ _ _ h => h) (Or.inl ⟨by rfl, ?_⟩) hHeld ?_
  rotate_left
  · intro w0 hSw; (try dsimp only at hSw); go_simp; (try with_reducible rfl)
  (try dsimp only [Act.put, List.setIfInBounds_toArray, List.set_cons_zero, List.set_cons_succ])
  refine wpAnyH_take (i := 6) (oi := _) (v := ?_) rfl (by kernel_rfl) (by kernel_rfl) (by kernel_rfl) (fun _ _ _ h => h) (Or.inl ⟨by rfl, ?_⟩) hHeld ?_
  rotate_left
  · intro w0 hSw; (try dsimp only at hSw); go_simp; (try with_reducible rfl)
  (try dsimp only [Act.put, List.setIfInBounds_toArray, List.set_cons_zero, List.set_cons_succ])
  refine wpAnyH_take (i := 8) (oi := _) (v := ?_) rfl (by kernel_rfl) (by kernel_rfl) (by kernel_rfl) (fun _ _ _ h => h) (Or.inl ⟨by rfl, ?_⟩) hHeld ?_
  rotate_left
  · intro w0 hSw; (try dsimp only at hSw); go_simp; (try with_reducible rfl)
  (try dsimp only [Act.put, List.setIfInBounds_toArray, List.set_cons_zero, List.set_cons_succ])
  refine wpAnyH_take (i := 9) (oi := _) (v := ?_) rfl (by kernel_rfl) (by kernel_rfl) (by kernel_rfl) (fun _ _ _ h => h) (Or.inl ⟨by rfl, ?_⟩) hHeld ?_
  rotate_left
  · intro w0 hSw; (try dsimp only at hSw); go_simp; (try with_reducible rfl)
  (try dsimp only [Act.put, List.setIfInBounds_toArray, List.set_cons_zero, List.set_cons_succ])
  refine wpAnyH_ready (rs := [4]) (by kernel_rfl) (by simp) ?_
  refine AllReadyH.cons (o := _) rfl (fun K hK => ?_) AllReadyH.nil
  go_simp
  refine (l07Size_any p pw g HL.out b _ rfl hb _).mono ?_
  rintro e w5 ⟨rfl, hb5⟩
  go_wp2_with fail
  refine hK.out _ _ ?_ (fun hHeld => ?_)
  · (try dsimp only); exact ⟨keep_cell hb5 hHeld.1, keep_cell hb5 hHeld.2.1, keep_cell hb5 hHeld.2.2.1, keep_cell hb5 hHeld.2.2.2.1, keep_cell hb5 hHeld.2.2.2.2.1, keep_cell hb5 hHeld.2.2.2.2.2⟩
  clear hK K
  (try dsimp only [Act.put, List.setIfInBounds_toArray, List.set_cons_zero, List.set_cons_succ])
  refine wpAnyH_take (i := 7) (oi := _) (v := ?_) rfl (by kernel_rfl) (by kernel_rfl) (by kernel_rfl) (fun _ _ _ h => h) (Or.inl ⟨by rfl, ?_⟩) hHeld ?_
  rotate_left
  · intro w0 hSw; (try dsimp only at hSw); go_simp; (try with_reducible rfl)
  (try dsimp only [Act.put, List.setIfInBounds_toArray, List.set_cons_zero, List.set_cons_succ])
  refine wpAnyH_take (i := 10) (oi := _) (v := ?_) rfl (by kernel_rfl) (by kernel_rfl) (by kernel_rfl) (fun _ _ _ h => h) (Or.inl ⟨by rfl, ?_⟩) hHeld ?_
  rotate_left
  · intro w0 hSw; (try dsimp only at hSw); go_simp; (try with_reducible rfl)
  (try dsimp only [Act.put, List.setIfInBounds_toArray, List.set_cons_zero, List.set_cons_succ])
  refine wpAnyH_done (by kernel_rfl) (lastQ_normalW ?_) _
  have hb5' := Below.trans (Drew.below (drew1 w1) w1.heap.size) hb5
  have F5 := Lib.hid (F0.out.below hb5' F0.out.lt)
  have B5 := Lib.hid (B0.out.trans (hb5'.mono B0.out.size))
  have r0 := F5.out.c0
  have r1 := F5.out.c1
  have r2 := F5.out.c2
  have r3 := F5.out.c3
  have r4 := F5.out.c4
  have f0 := F5.out.fz 0
  have f1 := F5.out.fz 1
  have f2 := F5.out.fz 2
  have f3 := F5.out.fz 3
  have f4 := F5.out.fz 4
  clear hb5 hb5' hHeld k0 k1 k2 k3 k4 k5
  go_wp2_with fail
  (try simp only [Exit.inBlock, Exit.then])
  have FF := Lib.hid (F5.out.set p pw g ((shN q r n b : Int) + C) C)
  have BF := Lib.hid (setC_below (B := w.heap.size + 1) (p := p) (pw := pw) (g := g) (l := (shN q r n b : Int) + C) (c := C) B5.out (by omega))
  exact ret_cell1 HRES.out Tryz.underlying133 rfl (by kernel_rfl) rfl rfl FF.out.blk ⟨by rw [Int.natCast_add, ← HC.out], BF.out⟩
theorem total_any (p pw g : Int) {D C N : Int} {q r n c : Nat} (hl : LN D C N q r n c) (w : World) :
    Calls Tryz.prog 147 #[lV p pw g D C N] w fun e w' => e = .returned (.int .i64 (D + N * C)) ∧ Below w.heap.size w w' := by
  have HB := Lib.hid (below1 w (.cells #[.int .i64 p, .int .i64 pw, .int .i64 g, .int .i64 D, .int .i64 C, .int .i64 N] LT))
  obtain ⟨m, hm, -, hm2⟩ := hl.mul
  have hD := hl.hD
  have hD15 := hl.D15
  rw [hm]
  have y1 : -1000000 ≤ (m : Int) ∧ (m : Int) ≤ 1000000 := by omega
  have y2 : -1000000 ≤ D + (m : Int) ∧ D + (m : Int) ≤ 1000000 := by omega
  obtain ⟨w1, w2⟩ := wraps y1
  obtain ⟨w3, w4⟩ := wraps y2
  clear y1 y2
  clear hl hD
  go_enter Tryz.func147, Tryz.ntmps147
  go_wp2_with fail
  go_ret
  exact ⟨rfl, HB.out⟩
set_option maxHeartbeats 4000000 in
theorem implIsLayout_any (p pw g D C N : Int) (w : World) :
    Calls Tryz.prog 129 #[lV p pw g D C N] w fun e w' => e = .returned (.bool (layB p pw g D C N)) ∧ Below w.heap.size w w' := by
  have HB := Lib.hid (below1 w (.cells #[.int .i64 p, .int .i64 pw, .int .i64 g, .int .i64 D, .int .i64 C, .int .i64 N] LT))
  have L0 := Lib.hid (LB.new w p pw g D C N)
  have HLB := Lib.hid (show layB p pw g D C N = (inR N 1 16 && (inR D N 1500 && (inR C 1 64 && (decide (D + N * C ≤ 1500) && (validC p pw g (D.tdiv N + C) C && validC p pw g (D.tdiv N + (if 1 ≤ D.tmod N then 1 else 0) + C) C))))) from rfl)
  go_enter Tryz.func129, Tryz.ntmps129
  go_wp2_with fail
  refine (inRange_any _ _ _ _).mono ?_
  rintro e w1 ⟨rfl, rfl⟩
  cases h1 : inR N 1 16 with
  | false =>
    rw [h1] at HLB
    clear h1
    go_wp2_with fail
    go_ret
    exact ⟨by rw [HLB.out]; simp, HB.out⟩
  | true =>
  have H1 := Lib.hid h1
  rw [h1] at HLB
  clear h1
  go_wp2_with fail
  refine (inRange_any _ _ _ _).mono ?_
  rintro e w1 ⟨rfl, rfl⟩
  cases h2 : inR D N 1500 with
  | false =>
    rw [h2] at HLB
    clear h2
    go_wp2_with fail
    go_ret
    exact ⟨by rw [HLB.out]; simp, HB.out⟩
  | true =>
  have H2 := Lib.hid h2
  rw [h2] at HLB
  clear h2
  go_wp2_with fail
  refine (inRange_any _ _ _ _).mono ?_
  rintro e w1 ⟨rfl, rfl⟩
  cases h3 : inR C 1 64 with
  | false =>
    rw [h3] at HLB
    clear h3
    go_wp2_with fail
    go_ret
    exact ⟨by rw [HLB.out]; simp, HB.out⟩
  | true =>
  rw [h3] at HLB
  obtain ⟨q, r, n, c, hl⟩ := LN.of H1.out H2.out h3
  clear h3
  have HL := Lib.hid hl
  obtain ⟨m, hm, -, hm2⟩ := hl.mul
  have hD := hl.hD
  have hD15 := hl.D15
  have hDm : D + (m : Int) ≤ 3000 ∧ 0 ≤ D + (m : Int) := by omega
  have y1 : -1000000 ≤ (m : Int) ∧ (m : Int) ≤ 1000000 := by omega
  have y2 : -1000000 ≤ D + (m : Int) ∧ D + (m : Int) ≤ 1000000 := by omega
  obtain ⟨w1, w2⟩ := wraps y1
  obtain ⟨w3, w4⟩ := wraps y2
  clear y1 y2
  have HF := Lib.hid hl.first
  have HLA := Lib.hid hl.last
  have HQ := Lib.hid hl.quo
  have hn1 := hl.n1
  have hn16 := hl.n16
  obtain rfl : N = (n : Int) := hl.hN
  obtain rfl : C = (c : Int) := hl.hC
  rw [hm] at HLB
  clear hl hD hD15
  go_wp2_with fail
  refine (total_any p pw g HL.out _).mono ?_
  rintro e w5 ⟨rfl, hb5⟩
  rw [hm]
  have HB5 := Lib.hid (HB.out.trans (hb5.mono HB.out.size))
  have L5 := Lib.hid (L0.out.below hb5 L0.out.lt)
  clear hb5 HB L0
  have k3 := L5.out.c3
  by_cases h4 : D + (m : Int) ≤ 1500
  rotate_left
  · have h4' : (1500 : Int) < D + (m : Int) := by clear w1 w2 w3 w4; omega
    rw [decide_eq_false h4] at HLB
    clear h4
    go_wp2_with fail
    go_ret
    exact ⟨by rw [HLB.out]; simp, HB5.out⟩
  have h4' : ¬ (1500 : Int) < D + (m : Int) := by clear w1 w2 w3 w4; omega
  rw [decide_eq_true h4] at HLB
  clear h4 w1 w2 w3 w4
  (try clear k0 k1 k2 k4 k5)
  (try clear k3)
  have k0 := L5.out.c0
  have k1 := L5.out.c1
  have k2 := L5.out.c2
  have k3 := L5.out.c3
  have k4 := L5.out.c4
  have k5 := L5.out.c5
  go_wp2_with fail
  refine (lcode_any p pw g HL.out 0 0 rfl (by omega) _).mono ?_
  rintro e w6 ⟨rfl, hb6⟩
  have HB6 := Lib.hid (HB5.out.trans (hb6.mono HB5.out.size))
  have L6 := Lib.hid (L5.out.below hb6 L5.out.lt)
  rw [HF.out]
  clear hb6 HB5 L5 k0 k1 k2 k3 k4 k5
  have e7 := Lib.hid (show ((q + c : Nat) : Int) = D.tdiv (n : Int) + (c : Int) by rw [HQ.out]; omega)
  rw [e7.out]
  go_wp2_with fail
  refine (implIsCode_any p pw g _ _ _).mono ?_
  rintro e w7 ⟨rfl, hb7⟩
  have HB7 := Lib.hid (HB6.out.trans (hb7.mono HB6.out.size))
  have L7 := Lib.hid (L6.out.below hb7 L6.out.lt)
  clear hb7 HB6 L6
  cases h5 : validC p pw g (D.tdiv (n : Int) + (c : Int)) (c : Int) with
  | false =>
    rw [h5] at HLB
    clear h5
    go_wp2_with fail
    go_ret
    exact ⟨by rw [HLB.out]; simp, HB7.out⟩
  | true =>
  rw [h5] at HLB
  clear h5
  have k0 := L7.out.c0
  have k1 := L7.out.c1
  have k2 := L7.out.c2
  have k3 := L7.out.c3
  have k4 := L7.out.c4
  have k5 := L7.out.c5
  have hN1 : (n : Int) - 1 = ((n - 1 : Nat) : Int) := by omega
  have y5 : -1000000 ≤ ((n - 1 : Nat) : Int) ∧ ((n - 1 : Nat) : Int) ≤ 1000000 := by omega
  obtain ⟨v1, v2⟩ := wraps y5
  clear y5
  have hn1000 : n - 1 ≤ 1000 := by clear v1 v2; omega
  go_wp2_with fail
  refine (lcode_any p pw g HL.out (n - 1) _ rfl hn1000 _).mono ?_
  rintro e w8 ⟨rfl, hb8⟩
  have HB8 := Lib.hid (HB7.out.trans (hb8.mono HB7.out.size))
  rw [show ((shN q r n (n - 1) + c : Nat) : Int) = D.tdiv (n : Int) + (if 1 ≤ D.tmod (n : Int) then 1 else 0) + (c : Int) by rw [Int.natCast_add, HLA.out]]
  clear hb8 HB7 L7 k0 k1 k2 k3 k4 k5
  generalize D.tdiv (n : Int) + (if 1 ≤ D.tmod (n : Int) then 1 else 0) + (c : Int) = z at *
  go_wp2_with fail
  refine (implIsCode_any p pw g _ _ _).mono ?_
  rintro e w9 ⟨rfl, hb9⟩
  have HB9 := Lib.hid (HB8.out.trans (hb9.mono HB8.out.size))
  clear hb9 HB8
  go_wp2_with fail
  go_ret
  exact ⟨by rw [HLB.out]; simp, HB9.out⟩
set_option maxHeartbeats 4000000 in
theorem specIsLayout_any (p pw g D C N : Int) (w : World) :
    Calls Tryz.prog 70 #[lV p pw g D C N] w fun e w' => e = .returned (.bool (layB p pw g D C N)) ∧ Below w.heap.size w w' := by
  have HB := Lib.hid (below1 w (.cells #[.int .i64 p, .int .i64 pw, .int .i64 g, .int .i64 D, .int .i64 C, .int .i64 N] LT))
  have L0 := Lib.hid (LB.new w p pw g D C N)
  have HLB := Lib.hid (show layB p pw g D C N = (inR N 1 16 && (inR D N 1500 && (inR C 1 64 && (decide (D + N * C ≤ 1500) && (validC p pw g (D.tdiv N + C) C && validC p pw g (D.tdiv N + (if 1 ≤ D.tmod N then 1 else 0) + C) C))))) from rfl)
  go_enter Tryz.func70, Tryz.ntmps70
  go_wp2_with fail
  refine (l01In_any _ _ _ _).mono ?_
  rintro e w1 ⟨rfl, rfl⟩
  cases h1 : inR N 1 16 with
  | false =>
    rw [h1] at HLB
    clear h1
    go_wp2_with fail
    go_ret
    exact ⟨by rw [HLB.out]; simp, HB.out⟩
  | true =>
  have H1 := Lib.hid h1
  rw [h1] at HLB
  clear h1
  go_wp2_with fail
  refine (l01In_any _ _ _ _).mono ?_
  rintro e w1 ⟨rfl, rfl⟩
  cases h2 : inR D N 1500 with
  | false =>
    rw [h2] at HLB
    clear h2
    go_wp2_with fail
    go_ret
    exact ⟨by rw [HLB.out]; simp, HB.out⟩
  | true =>
  have H2 := Lib.hid h2
  rw [h2] at HLB
  clear h2
  go_wp2_with fail
  refine (l01In_any _ _ _ _).mono ?_
  rintro e w1 ⟨rfl, rfl⟩
  cases h3 : inR C 1 64 with
  | false =>
    rw [h3] at HLB
    clear h3
    go_wp2_with fail
    go_ret
    exact ⟨by rw [HLB.out]; simp, HB.out⟩
  | true =>
  rw [h3] at HLB
  obtain ⟨q, r, n, c, hl⟩ := LN.of H1.out H2.out h3
  clear h3
  have HL := Lib.hid hl
  obtain ⟨m, hm, -, hm2⟩ := hl.mul
  have hD := hl.hD
  have hD15 := hl.D15
  have hDm : D + (m : Int) ≤ 3000 ∧ 0 ≤ D + (m : Int) := by omega
  have y1 : -1000000 ≤ (m : Int) ∧ (m : Int) ≤ 1000000 := by omega
  have y2 : -1000000 ≤ D + (m : Int) ∧ D + (m : Int) ≤ 1000000 := by omega
  obtain ⟨w1, w2⟩ := wraps y1
  obtain ⟨w3, w4⟩ := wraps y2
  clear y1 y2
  have HF := Lib.hid hl.first
  have HLA := Lib.hid hl.last
  have HQ := Lib.hid hl.quo
  have hn1 := hl.n1
  have hn16 := hl.n16
  obtain rfl : N = (n : Int) := hl.hN
  obtain rfl : C = (c : Int) := hl.hC
  rw [hm] at HLB
  clear hl hD hD15
  obtain ⟨w5, hw5⟩ : ∃ w5, w5 = (w.alloc (.cells #[.int .i64 p, .int .i64 pw, .int .i64 g, .int .i64 D, .int .i64 (c : Int), .int .i64 (n : Int)] LT)) := ⟨_, rfl⟩
  rw [← hw5] at HB L0 ⊢
  have HB5 := HB
  have L5 := L0
  clear hw5 HB L0
  have k0 := L5.out.c0
  have k1 := L5.out.c1
  have k2 := L5.out.c2
  have k3 := L5.out.c3
  have k4 := L5.out.c4
  have k5 := L5.out.c5
  by_cases h4 : D + (m : Int) ≤ 1500
  rotate_left
  · have h4' : (1500 : Int) < D + (m : Int) := by clear w1 w2 w3 w4; omega
    rw [decide_eq_false h4] at HLB
    clear h4
    go_wp2_with fail
    go_ret
    exact ⟨by rw [HLB.out]; simp, HB5.out⟩
  have h4' : ¬ (1500 : Int) < D + (m : Int) := by clear w1 w2 w3 w4; omega
  rw [decide_eq_true h4] at HLB
  clear h4 w1 w2 w3 w4
  (try clear k0 k1 k2 k4 k5)
  (try clear k3)
  have k0 := L5.out.c0
  have k1 := L5.out.c1
  have k2 := L5.out.c2
  have k3 := L5.out.c3
  have k4 := L5.out.c4
  have k5 := L5.out.c5
  go_wp2_with fail
  refine (l07Block_any p pw g HL.out 0 0 rfl (by omega) _).mono ?_
  rintro e w6 ⟨rfl, hb6⟩
  have HB6 := Lib.hid (HB5.out.trans (hb6.mono HB5.out.size))
  have L6 := Lib.hid (L5.out.below hb6 L5.out.lt)
  rw [HF.out]
  clear hb6 HB5 L5 k0 k1 k2 k3 k4 k5
  have e7 := Lib.hid (show ((q + c : Nat) : Int) = D.tdiv (n : Int) + (c : Int) by rw [HQ.out]; omega)
  rw [e7.out]
  go_wp2_with fail
  refine (isCode_any p pw g _ _ _).mono ?_
  rintro e w7 ⟨rfl, hb7⟩
  have HB7 := Lib.hid (HB6.out.trans (hb7.mono HB6.out.size))
  have L7 := Lib.hid (L6.out.below hb7 L6.out.lt)
  clear hb7 HB6 L6
  cases h5 : validC p pw g (D.tdiv (n : Int) + (c : Int)) (c : Int) with
  | false =>
    rw [h5] at HLB
    clear h5
    go_wp2_with fail
    go_ret
    exact ⟨by rw [HLB.out]; simp, HB7.out⟩
  | true =>
  rw [h5] at HLB
  clear h5
  have k0 := L7.out.c0
  have k1 := L7.out.c1
  have k2 := L7.out.c2
  have k3 := L7.out.c3
  have k4 := L7.out.c4
  have k5 := L7.out.c5
  have hN1 : (n : Int) - 1 = ((n - 1 : Nat) : Int) := by omega
  have y5 : -1000000 ≤ ((n - 1 : Nat) : Int) ∧ ((n - 1 : Nat) : Int) ≤ 1000000 := by omega
  obtain ⟨v1, v2⟩ := wraps y5
  clear y5
  have hn1000 : n - 1 ≤ 1000 := by clear v1 v2; omega
  go_wp2_with fail
  refine (l07Block_any p pw g HL.out (n - 1) _ rfl hn1000 _).mono ?_
  rintro e w8 ⟨rfl, hb8⟩
  have HB8 := Lib.hid (HB7.out.trans (hb8.mono HB7.out.size))
  rw [show ((shN q r n (n - 1) + c : Nat) : Int) = D.tdiv (n : Int) + (if 1 ≤ D.tmod (n : Int) then 1 else 0) + (c : Int) by rw [Int.natCast_add, HLA.out]]
  clear hb8 HB7 L7 k0 k1 k2 k3 k4 k5
  generalize D.tdiv (n : Int) + (if 1 ≤ D.tmod (n : Int) then 1 else 0) + (c : Int) = z at *
  go_wp2_with fail
  refine (isCode_any p pw g _ _ _).mono ?_
  rintro e w9 ⟨rfl, hb9⟩
  have HB9 := Lib.hid (HB8.out.trans (hb9.mono HB8.out.size))
  clear hb9 HB8
  go_wp2_with fail
  go_ret
  exact ⟨by rw [HLB.out]; simp, HB9.out⟩
end Go.Proofs.YtdcmebegnekkcaaGreat
