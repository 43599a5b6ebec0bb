/-
  The walk of the law FnStreams.
-/
import Derived.Test.YtfhkkpfiflgofaaDrawY
import Derived.Test.YtfhkkpfiflgofaaDrawK
import Derived.Test.YtfhkkpfiflgofaaEncI
import Derived.Test.YtfhkkpfiflgofaaStrI
import Derived.Test.YtfhkkpfiflgofaaStrP
import Derived.Test.YtfhkkpfiflgofaaSyndOf
import Derived.Test.YtfhkkpfiflgofaaRnd
namespace Go.Proofs.Ytfhkkpfiflgofaa
open Go.RowKit
set_option linter.unusedVariables false

/-- A row behind a row, in a region that draws its order. -/
theorem step_row {W0 : World} {ops : Array Oper} {o : Oper} {a : Act} {K : Act → World → Prop} {Q : Exit → Act → World → Prop} {E : Prop} (hgd : o.guard = none) (s x : Operand) (t : TypeId)
    (ho : o.op = .call { callee := .builtin .append, args := #[s, x], argTypes := #[t, t] }) {v v' : Value} {w' : World} {ad : Addr} {m c : Nat}
    (hrun : (Builtin.append_ #[t, t] o.type #[v, .slice (some ad) m c]).run Try.prog W0 = .ok v' w') (hs : a.eval s = v) (hx : a.eval x = .slice (some ad) m c) (h : K (a.put o.dst v') w') :
    if Region.wanted o (yielded ops a.tmps) = true then Oper.wp Try.prog o a W0 K Q else E := by
  have hw : Region.wanted o (yielded ops a.tmps) = true := by simp [Region.wanted, hgd]
  rw [if_pos hw]
  unfold Oper.wp
  simp [execOp, ho, resolve, invoke, builtin, hs, hx, hrun, Result.andThen]
  exact h
/-- A row behind a row. -/
theorem run_row {W0 : World} {t ty : TypeId} (ht : Try.prog.underlying t = some (.slice 2)) {B : Nat} {v : Value} {zs ys : List Int} (hown : OwnL W0 B v zs) {ad : Addr} {m : Nat} (c : Nat) (hrow : RowAt W0 (some ad) m ys) (hn : zs.length + m ≤ 16777216) :
    ∃ v' w', (Builtin.append_ #[t, t] ty #[v, .slice (some ad) m c]).run Try.prog W0 = .ok v' w' ∧ OwnL w' B v' (zs ++ ys) ∧ Below B W0 w' := by
  obtain ⟨i0, hi, hz0, hz1, hz2⟩ := info_parts info_int
  obtain ⟨hB, hown⟩ := hown
  obtain ⟨v', w', hrun, h1, hg, _⟩ := run_append_own (P := Try.prog) W0 B t ty 2 i0 (.int .i64 0) 1 8 ht hi hz0 hz1 hz2 rfl (by decide) v zs.length (zs.map (Value.int .i64)) hown ad m c (ys.map (Value.int .i64)) (by rw [List.length_map, hrow.len]; omega) (cells_of_row hrow ad rfl)
    (by intro u hu; obtain ⟨y, _, rfl⟩ := List.mem_map.1 hu; rfl) (by unfold maxLen; omega) (by omega) hB
  exact ⟨v', w', hrun, ⟨by have := hg.size; omega, by rw [List.length_append, hrow.len, List.map_append]; exact h1⟩, (Below.refl B W0).grown hg hB (fun k hk => (hown.lt k hk).1)⟩
set_option maxHeartbeats 8000000 in
set_option maxRecDepth 100000 in
theorem lawFnStreams (s0 : Option Addr) (n0 cap0 : Nat) (z0 : List Int) (w : World) (hr : RowB w s0 n0 z0) :
    Calls Try.prog 6 #[.slice s0 n0 cap0] w fun e w' => e = .returned (.bool true) ∧ Below w.heap.size w w' := by
  have HR := Lib.hid hr
  clear hr
  go_enter Try.func6, Try.ntmps6
  go_wp2_with fail
  refine (bigL_any _ _ _ _).mono ?_
  rintro e w1 ⟨rfl, rfl⟩
  by_cases hbig : (4096 : Int) < (n0 : Int)
  · go_wp2_with fail
    go_ret
    exact ⟨rfl, Below.refl _ _⟩
  go_wp2_with fail
  refine (DrawEncodeStream_any HR.out).mono ?_
  rintro e w1 ⟨p, pw, g, D, C, N, vD, rfl, hb1, zD, hoD, hlD⟩
  obtain ⟨aD, capD, rfl, hcpD, hcaD, hoaD⟩ := hoD.cap
  have CAD := Lib.hid hcaD
  have CPD := Lib.hid hcpD
  have RD := Lib.hid (hoaD.row.below' (below1 w1 (.cells #[.int .i64 p, .int .i64 pw, .int .i64 g, .int .i64 D, .int .i64 C, .int .i64 N] LT)))
  clear hcaD hoaD hoD hcpD
  have B2 := Lib.hid (hb1.alloc hb1.size (.cells #[.int .i64 p, .int .i64 pw, .int .i64 g, .int .i64 D, .int .i64 C, .int .i64 N] LT))
  have X2 := Lib.hid (LB.new w1 p pw g D C N)
  obtain ⟨X, hX⟩ : ∃ X, X = w1.heap.size := ⟨_, rfl⟩
  rw [← hX] at X2
  clear hb1
  go_wp2_with fail
  rw [← hX]
  clear hX
  generalize w1.alloc (.cells #[.int .i64 p, .int .i64 pw, .int .i64 g, .int .i64 D, .int .i64 C, .int .i64 N] LT) = w2 at *
  have k0 := X2.out.c0
  have k1 := X2.out.c1
  have k2 := X2.out.c2
  have k3 := X2.out.c3
  have k4 := X2.out.c4
  have k5 := X2.out.c5
  go_wp2_with fail
  refine (implEncodeStream_any p pw g D C N _ RD.out CPD.out).mono ?_
  rintro e w3 ⟨vs, rfl, hb3, hrS⟩
  have B3 := Lib.hid (B2.out.trans (hb3.mono B2.out.size))
  have X3 := Lib.hid (X2.out.below hb3 X2.out.lt)
  have RD' := Lib.hid (RD.out.below' hb3)
  clear RD k0 k1 k2 k3 k4 k5 hb3 B2 X2
  have RD := RD'
  clear RD'
  obtain ⟨aS, capS, rfl, hcaS, hoS⟩ := hrS
  have CAS := Lib.hid hcaS
  have RS := Lib.hid hoS.row
  clear hcaS hoS
  have k0 := X3.out.c0
  have k1 := X3.out.c1
  have k2 := X3.out.c2
  have k3 := X3.out.c3
  have k4 := X3.out.c4
  have k5 := X3.out.c5
  go_wp2_with fail
  refine (specEncodeStreamO_any p pw g D C N _ RD.out CPD.out).mono ?_
  rintro e w4 ⟨vm, rfl, hb4, hoM⟩
  have B4 := Lib.hid (B3.out.trans (hb4.mono B3.out.size))
  have X4 := Lib.hid (X3.out.below hb4 X3.out.lt)
  have RD' := Lib.hid (RD.out.below' hb4)
  have RS' := Lib.hid (RS.out.below' hb4)
  clear RD RS k0 k1 k2 k3 k4 k5 hb4 B3 X3
  have RD := RD'
  have RS := RS'
  clear RD' RS'
  obtain ⟨aM, capM, rfl, hcpM, hcaM, hooM⟩ := hoM.cap
  have CAM := Lib.hid hcaM
  have CPM := Lib.hid hcpM
  have RM := Lib.hid hooM.row
  clear hcaM hooM hcpM hoM
  have k0 := X4.out.c0
  have k1 := X4.out.c1
  have k2 := X4.out.c2
  have k3 := X4.out.c3
  have k4 := X4.out.c4
  have k5 := X4.out.c5
  have HP := Lib.hid (fun h => And.intro (stream_plain (p := p) (pw := pw) (g := g) (D := D) (C := C) (N := N) (zs := zD) h) (esR_length h).2.2.1)
  generalize esR p pw g D C N zD = x at *
  generalize esC p pw g D C N zD = cd at *
  have hq : (cd != cd) = false := by simp
  have hq2 : ∀ b : Bool, (b != b) = false := by simp
  go_wp2_with fail
  refine wp_region_noPanic ?_
  refine wp_region_S (S := (fun w' => w'.cell? ⟨X, 0, none⟩ = some (.int .i64 p) ∧ w'.cell? ⟨X, 1, none⟩ = some (.int .i64 pw) ∧ w'.cell? ⟨X, 2, none⟩ = some (.int .i64 g) ∧ w'.cell? ⟨X, 3, none⟩ = some (.int .i64 D) ∧ w'.cell? ⟨X, 4, none⟩ = some (.int .i64 C) ∧ w'.cell? ⟨X, 5, none⟩ = some (.int .i64 N))) 16 rfl (by kernel_rfl) ?_ (fun hHeld => ?_)
  · (try dsimp only); exact ⟨keep_cell (Drew.below (drew1 w4) w4.heap.size) k0, keep_cell (Drew.below (drew1 w4) w4.heap.size) k1, keep_cell (Drew.below (drew1 w4) w4.heap.size) k2, keep_cell (Drew.below (drew1 w4) w4.heap.size) k3, keep_cell (Drew.below (drew1 w4) w4.heap.size) k4, keep_cell (Drew.below (drew1 w4) w4.heap.size) k5⟩
  refine wpAnyH_take (i := 0) (oi := _) (v := ?_) rfl (by kernel_rfl) (by kernel_rfl) (by kernel_rfl) (fun _ _ _ h => h) (Or.inl ⟨by kernel_rfl, ?_⟩) hHeld ?_
  rotate_left
  · intro w0 hSw; (try dsimp only at hSw); go_simp; (try with_reducible rfl)
  (try dsimp only [Act.put, List.setIfInBounds_toArray, List.set_cons_zero, List.set_cons_succ])
  refine wpAnyH_take (i := 1) (oi := _) (v := ?_) rfl (by kernel_rfl) (by kernel_rfl) (by kernel_rfl) (fun _ _ _ h => h) (Or.inl ⟨by kernel_rfl, ?_⟩) hHeld ?_
  rotate_left
  · intro w0 hSw; (try dsimp only at hSw); go_simp; (try with_reducible rfl)
  (try dsimp only [Act.put, List.setIfInBounds_toArray, List.set_cons_zero, List.set_cons_succ])
  refine wpAnyH_take (i := 2) (oi := _) (v := ?_) rfl (by kernel_rfl) (by kernel_rfl) (by kernel_rfl) (fun _ _ _ h => h) (Or.inl ⟨by kernel_rfl, ?_⟩) hHeld ?_
  rotate_left
  · intro w0 hSw; (try dsimp only at hSw); go_simp; (try with_reducible rfl)
  (try dsimp only [Act.put, List.setIfInBounds_toArray, List.set_cons_zero, List.set_cons_succ])
  refine wpAnyH_take (i := 3) (oi := _) (v := ?_) rfl (by kernel_rfl) (by kernel_rfl) (by kernel_rfl) (fun _ _ _ h => h) (Or.inl ⟨by kernel_rfl, ?_⟩) hHeld ?_
  rotate_left
  · intro w0 hSw; (try dsimp only at hSw); go_simp; (try with_reducible rfl)
  (try dsimp only [Act.put, List.setIfInBounds_toArray, List.set_cons_zero, List.set_cons_succ])
  refine wpAnyH_take (i := 4) (oi := _) (v := ?_) rfl (by kernel_rfl) (by kernel_rfl) (by kernel_rfl) (fun _ _ _ h => h) (Or.inl ⟨by kernel_rfl, ?_⟩) hHeld ?_
  rotate_left
  · intro w0 hSw; (try dsimp only at hSw); go_simp; (try with_reducible rfl)
  (try dsimp only [Act.put, List.setIfInBounds_toArray, List.set_cons_zero, List.set_cons_succ])
  refine wpAnyH_take (i := 5) (oi := _) (v := ?_) rfl (by kernel_rfl) (by kernel_rfl) (by kernel_rfl) (fun _ _ _ h => h) (Or.inl ⟨by kernel_rfl, ?_⟩) hHeld ?_
  rotate_left
  · intro w0 hSw; (try dsimp only at hSw); go_simp; (try with_reducible rfl)
  (try dsimp only [Act.put, List.setIfInBounds_toArray, List.set_cons_zero, List.set_cons_succ])
  refine wpAnyH_ready (rs := [6]) (by kernel_rfl) (by simp) ?_
  refine AllReadyH.cons (o := _) rfl (fun K hK => ?_) AllReadyH.nil
  go_simp
  refine (likeInts_any (RS.out.below' (Drew.below (drew1 w4) w4.heap.size)) (RM.out.below' (Drew.below (drew1 w4) w4.heap.size))).mono ?_
  rintro e w5 ⟨rfl, hb5⟩
  simp only [decide_true]
  refine hK.out _ _ ?_ (fun hHeld => ?_)
  · (try dsimp only); exact ⟨keep_cell hb5 hHeld.1, keep_cell hb5 hHeld.2.1, keep_cell hb5 hHeld.2.2.1, keep_cell hb5 hHeld.2.2.2.1, keep_cell hb5 hHeld.2.2.2.2.1, keep_cell hb5 hHeld.2.2.2.2.2⟩
  clear hK K
  (try dsimp only [Act.put, List.setIfInBounds_toArray, List.set_cons_zero, List.set_cons_succ])
  refine wpAnyH_take (i := 7) (oi := _) (v := ?_) rfl (by kernel_rfl) (by kernel_rfl) (by kernel_rfl) (fun _ _ _ h => h) (Or.inl ⟨by kernel_rfl, ?_⟩) hHeld ?_
  rotate_left
  · intro w0 hSw; (try dsimp only at hSw); go_simp; (try with_reducible rfl)
  (try dsimp only [Act.put, List.setIfInBounds_toArray, List.set_cons_zero, List.set_cons_succ])
  refine wpAnyH_take (i := 8) (oi := _) (v := ?_) rfl (by kernel_rfl) (by kernel_rfl) (by kernel_rfl) (fun _ _ _ h => h) (Or.inl ⟨by kernel_rfl, ?_⟩) hHeld ?_
  rotate_left
  · intro w0 hSw; (try dsimp only at hSw); go_simp; (try with_reducible rfl)
  (try dsimp only [Act.put, List.setIfInBounds_toArray, List.set_cons_zero, List.set_cons_succ])
  refine wpAnyH_take (i := 9) (oi := _) (v := ?_) rfl (by kernel_rfl) (by kernel_rfl) (by kernel_rfl) (fun _ _ _ h => h) (Or.inl ⟨by kernel_rfl, ?_⟩) hHeld ?_
  rotate_left
  · intro w0 hSw; (try dsimp only at hSw); go_simp; (try with_reducible rfl)
  (try dsimp only [Act.put, List.setIfInBounds_toArray, List.set_cons_zero, List.set_cons_succ])
  refine wpAnyH_take (i := 10) (oi := _) (v := ?_) rfl (by kernel_rfl) (by kernel_rfl) (by kernel_rfl) (fun _ _ _ h => h) (Or.inl ⟨by kernel_rfl, ?_⟩) hHeld ?_
  rotate_left
  · intro w0 hSw; (try dsimp only at hSw); go_simp; (try with_reducible rfl)
  (try dsimp only [Act.put, List.setIfInBounds_toArray, List.set_cons_zero, List.set_cons_succ])
  refine wpAnyH_take (i := 12) (oi := _) (v := ?_) rfl (by kernel_rfl) (by kernel_rfl) (by kernel_rfl) (fun _ _ _ h => h) (Or.inl ⟨by kernel_rfl, ?_⟩) hHeld ?_
  rotate_left
  · intro w0 hSw; (try dsimp only at hSw); go_simp; (try with_reducible rfl)
  (try dsimp only [Act.put, List.setIfInBounds_toArray, List.set_cons_zero, List.set_cons_succ])
  refine wpAnyH_ready (rs := [11]) (by kernel_rfl) (by simp) ?_
  refine AllReadyH.cons (o := _) rfl (fun K hK => ?_) AllReadyH.nil
  go_simp
  refine (implIsLayout_any p pw g D C N _).mono ?_
  rintro e w6 ⟨rfl, hb6⟩
  refine hK.out _ _ ?_ (fun hHeld => ?_)
  · (try dsimp only); exact ⟨keep_cell hb6 hHeld.1, keep_cell hb6 hHeld.2.1, keep_cell hb6 hHeld.2.2.1, keep_cell hb6 hHeld.2.2.2.1, keep_cell hb6 hHeld.2.2.2.2.1, keep_cell hb6 hHeld.2.2.2.2.2⟩
  clear hK K
  (try dsimp only [Act.put, List.setIfInBounds_toArray, List.set_cons_zero, List.set_cons_succ])
  refine wpAnyH_ready (rs := [13]) (by kernel_rfl) (by simp) ?_
  refine AllReadyH.cons (o := _) rfl (fun K hK => ?_) AllReadyH.nil
  go_simp
  refine (specIsLayout_any p pw g D C N _).mono ?_
  rintro e w7 ⟨rfl, hb7⟩
  have hq3 := hq2 (layB p pw g D C N)
  refine hK.out _ _ ?_ (fun hHeld => ?_)
  · (try dsimp only); exact ⟨keep_cell hb7 hHeld.1, keep_cell hb7 hHeld.2.1, keep_cell hb7 hHeld.2.2.1, keep_cell hb7 hHeld.2.2.2.1, keep_cell hb7 hHeld.2.2.2.2.1, keep_cell hb7 hHeld.2.2.2.2.2⟩
  clear hK K
  (try dsimp only [Act.put, List.setIfInBounds_toArray, List.set_cons_zero, List.set_cons_succ])
  refine wpAnyH_take (i := 14) (oi := _) (v := ?_) rfl (by kernel_rfl) (by kernel_rfl) (by kernel_rfl) (fun _ _ _ h => h) (Or.inl ⟨by kernel_rfl, ?_⟩) hHeld ?_
  rotate_left
  · intro w0 hSw; (try dsimp only at hSw); go_simp; (try with_reducible rfl)
  (try dsimp only [Act.put, List.setIfInBounds_toArray, List.set_cons_zero, List.set_cons_succ])
  refine wpAnyH_take (i := 15) (oi := _) (v := ?_) rfl (by kernel_rfl) (by kernel_rfl) (by kernel_rfl) (fun _ _ _ h => h) (Or.inl ⟨by kernel_rfl, ?_⟩) hHeld ?_
  rotate_left
  · intro w0 hSw; (try dsimp only at hSw); go_simp; (try with_reducible rfl)
  (try dsimp only [Act.put, List.setIfInBounds_toArray, List.set_cons_zero, List.set_cons_succ])
  refine wpAnyH_done (by kernel_rfl) ?_ _
  refine NoPanic.normal ?_
  go_simp
  have hbd : Below w4.heap.size w4 w7 := (((Drew.below (drew1 w4) w4.heap.size).trans (hb5.mono (Drew.below (drew1 w4) w4.heap.size).size)).trans (hb6.mono ((Drew.below (drew1 w4) w4.heap.size).trans (hb5.mono (Drew.below (drew1 w4) w4.heap.size).size)).size)).trans (hb7.mono (((Drew.below (drew1 w4) w4.heap.size).trans (hb5.mono (Drew.below (drew1 w4) w4.heap.size).size)).trans (hb6.mono ((Drew.below (drew1 w4) w4.heap.size).trans (hb5.mono (Drew.below (drew1 w4) w4.heap.size).size)).size)).size)
  have B7 := Lib.hid (B4.out.trans (hbd.mono B4.out.size))
  have X7 := Lib.hid (X4.out.below hbd X4.out.lt)
  have RS7 := Lib.hid (RS.out.below' hbd)
  have RD7 := Lib.hid (RD.out.below' hbd)
  clear hHeld hb5 hb6 hb7 hbd B4 X4 RS RD RM k0 k1 k2 k3 k4 k5
  by_cases hcd : cd = 0
  rotate_left
  · have hne : (cd != 0) = true := by simp [hcd]
    clear hcd
    go_wp2_with fail
    go_ret
    exact ⟨rfl, B7.out⟩
  have hne : (cd != 0) = false := by simp [hcd]
  by_cases hbg : (120 : Int) < (zD.length : Int)
  · clear hcd
    go_wp2_with fail
    go_ret
    exact ⟨rfl, B7.out⟩
  obtain ⟨⟨q, r, n, c, hl, htot, hzl, hsc, hxl, hblk⟩, hlay⟩ := HP.out hcd
  have HL := Lib.hid hl
  have HTOT := Lib.hid htot
  have HLAY := Lib.hid hlay
  have HSC := Lib.hid hsc
  have HXL := Lib.hid hxl
  have HBLK := Lib.hid hblk
  have HZL := Lib.hid hzl
  have hn16 := hl.n16
  have hn1 := hl.n1
  have hc64 := hl.c64
  have hrn := hl.rn
  have hqle := hl.qle
  have HLT := Lib.hid (ordS_length q r n c (Nat.le_of_lt hl.rn))
  obtain rfl : N = (n : Int) := hl.hN
  obtain rfl : C = (c : Int) := hl.hC
  clear hcd HP hl htot hzl hsc hxl hblk hlay
  have k0 := X7.out.c0
  have k1 := X7.out.c1
  have k2 := X7.out.c2
  have k3 := X7.out.c3
  have k4 := X7.out.c4
  have k5 := X7.out.c5
  go_wp2_with fail
  refine (implSplitStream_any p pw g HL.out HTOT.out _ RS7.out HSC.out HXL.out).mono ?_
  rintro e w8 ⟨v8, rfl, hb8, G, cp, hT8⟩
  have T8 := Lib.hid (hT8.congr (L' := wdS p pw g q r n c zD) fun j hj => (HBLK.out j hj).2.1)
  have B8 := Lib.hid (B7.out.trans (hb8.mono B7.out.size))
  have X8 := Lib.hid (X7.out.below hb8 X7.out.lt)
  have RS8 := Lib.hid (RS7.out.below' hb8)
  have RD8 := Lib.hid (RD7.out.below' hb8)
  clear hb8 hT8 B7 X7 RS7 RD7 k0 k1 k2 k3 k4 k5
  obtain ⟨RW, cvw, rfl, hmw, hRW1, hRW2⟩ := T8.out.form (by omega)
  have k0 := X8.out.c0
  have k1 := X8.out.c1
  have k2 := X8.out.c2
  have k3 := X8.out.c3
  have k4 := X8.out.c4
  have k5 := X8.out.c5
  go_wp2_with fail
  refine (implBlockCodes_any p pw g HLAY.out HL.out _).mono ?_
  rintro e w9 ⟨BT, rfl, hb9, hBT, hT9⟩
  have U9 := Lib.hid hT9
  have T9 := Lib.hid (T8.out.below hb9)
  have B9 := Lib.hid (B8.out.trans (hb9.mono B8.out.size))
  have X9 := Lib.hid (X8.out.below hb9 X8.out.lt)
  have RS9 := Lib.hid (RS8.out.below' hb9)
  have RD9 := Lib.hid (RD8.out.below' hb9)
  have hBTl : BT < w9.heap.size := hT9.lt
  have hRWl : RW < w9.heap.size := Nat.lt_of_lt_of_le hRW2 hb9.size
  clear hb9 hT9 T8 B8 X8 RS8 RD8 k0 k1 k2 k3 k4 k5
  have k5 := X9.out.c5
  have X9' := X9.out.below (below1 w9 (.cells #[] 26)) X9.out.lt
  have hqn : ((n : Int) != (n : Int)) = false := by simp
  have E9 := Lib.hid (OwnL.empty w9 w9.heap.size (Nat.le_refl _) w9.heap.size rfl)
  have hE := Lib.hid (below1 w9 (.cells #[] 2))
  clear X9'
  go_wp2_with fail
  clear k5
  obtain ⟨Bk, hBk⟩ : ∃ Bk, w9.heap.size = Bk := ⟨_, rfl⟩
  rw [hBk] at E9 hE hBTl hRWl
  (try rw [hBk])
  have HBK := Lib.hid hBk
  have hXB : X < Bk := by rw [← hBk]; exact X9.out.lt
  clear hBk
  go_loopw [13, 14] (fun vb t wr => ∃ k : Nat, k ≤ n ∧ t = .int .i64 k ∧ Hid (OwnL wr Bk vb ((List.range k).flatMap (blS q r n zD))) ∧ Hid (Below Bk w9 wr)) (fun _ t _ => n - (intOf t).toNat)
  case atStart => exact ⟨0, by omega, rfl, E9, hE⟩
  case round =>
    clear E9 hE
    obtain ⟨k, hk, rfl, ho, hB⟩ := hrel
    have hB9 : Below w9.heap.size w9 wr := by rw [HBK.out]; exact hB.out
    by_cases hkn : k < n
    · have hki : (k : Int) < (n : Int) := by omega
      obtain ⟨-, -, hicw, hwl, htk, hidx⟩ := HBLK.out k hkn
      have TW := T9.out.below hB9
      have UW := U9.out.below hB9 (by rw [HBK.out]; exact hBTl)
      have XW := Lib.hid (X9.out.below hB9 X9.out.lt)
      obtain ⟨sk, hsk⟩ : ∃ sk, shN q r n k = sk := ⟨_, rfl⟩
      have hskb : sk ≤ 1501 := by have := (shN_le q r n k).2; omega
      rw [hsk] at hicw hwl htk hidx
      have q1 := TW.slot hkn
      rw [hwl] at q1
      obtain ⟨lw, hlw⟩ : ∃ lw, sk + c = lw := ⟨_, rfl⟩
      have hcap : lw ≤ cp k := by rw [← hlw, ← hwl]; exact TW.caps hkn
      have hrow := TW.row hkn
      have hcell : ∀ e, e < lw → wr.cell? ⟨G k, e, none⟩ = some (.int .i64 (gi (wdS p pw g q r n c zD k) e)) := fun e he => (TW.cell hkn (by rw [hwl, hlw]; exact he)).1
      rw [hwl, hlw] at hrow
      rw [hlw] at q1 hicw hwl
      have HCELL := Lib.hid hcell
      have HROW := Lib.hid hrow
      have HICW := Lib.hid hicw
      have HTK := Lib.hid htk
      have HIDX := Lib.hid hidx
      have HLW := Lib.hid hlw
      have HSK := Lib.hid hsk
      have HWL := Lib.hid hwl
      have HGk := Lib.hid (Nat.lt_of_lt_of_le (T9.out.rlt hkn).2 (Nat.le_refl _))
      have hlwc : ¬ (lw : Int) < (c : Int) := by omega
      have hlwb : lw ≤ 1600 := by omega
      have hclw : c ≤ lw := by omega
      have t0 := UW.c0 hkn (Nat.mul_comm k 5)
      have t1 := UW.c1 hkn (show k * 5 + 1 = 5 * k + 1 by omega)
      have t2 := UW.c2 hkn (show k * 5 + 2 = 5 * k + 2 by omega)
      have t3 := UW.c3 hkn (show k * 5 + 3 = 5 * k + 3 by omega)
      have t4 := UW.c4 hkn (show k * 5 + 4 = 5 * k + 4 by omega)
      rw [hsk, hlw] at t3
      clear hcell hrow hicw htk hidx hlw hsk hwl
      have hd0 := Drew.below (drew1 wr) wr.heap.size
      have q1 := keep_cell hd0 q1
      have x4 := keep_cell hd0 XW.out.c4
      have t0 := keep_cell hd0 t0
      have t1 := keep_cell hd0 t1
      have t2 := keep_cell hd0 t2
      have t3 := keep_cell hd0 t3
      have t4 := keep_cell hd0 t4
      clear hd0 TW UW
      go_wp2_with fail
      refine wp_region_noPanic ?_
      refine wp_region_S (S := (fun w' => w'.cell? ⟨RW, k, none⟩ = some (.slice (some ⟨G k, 0, none⟩) lw (cp k)) ∧ w'.cell? ⟨X, 4, none⟩ = some (.int .i64 (c : Int)) ∧ w'.cell? ⟨BT, k * 5, none⟩ = some (.int .i64 p) ∧ w'.cell? ⟨BT, k * 5 + 1, none⟩ = some (.int .i64 pw) ∧ w'.cell? ⟨BT, k * 5 + 2, none⟩ = some (.int .i64 g) ∧ w'.cell? ⟨BT, k * 5 + 3, none⟩ = some (.int .i64 (lw : Int)) ∧ w'.cell? ⟨BT, k * 5 + 4, none⟩ = some (.int .i64 (c : Int)))) 20 rfl (by kernel_rfl) ?_ (fun hHeld => ?_)
      · (try dsimp only); exact ⟨q1, x4, t0, t1, t2, t3, t4⟩
      refine wpAnyH_take (i := 0) (oi := _) (v := ?_) rfl (by kernel_rfl) (by kernel_rfl) (by kernel_rfl) (fun _ _ _ h => h) (Or.inl ⟨by kernel_rfl, ?_⟩) hHeld ?_
      rotate_left
      · intro w0 hSw; (try dsimp only at hSw); go_simp; (try with_reducible rfl)
      (try dsimp only [Act.put, List.setIfInBounds_toArray, List.set_cons_zero, List.set_cons_succ])
      refine wpAnyH_take (i := 1) (oi := _) (v := ?_) rfl (by kernel_rfl) (by kernel_rfl) (by kernel_rfl) (fun _ _ _ h => h) (Or.inl ⟨by kernel_rfl, ?_⟩) hHeld ?_
      rotate_left
      · intro w0 hSw; (try dsimp only at hSw); go_simp; (try with_reducible rfl)
      (try dsimp only [Act.put, List.setIfInBounds_toArray, List.set_cons_zero, List.set_cons_succ])
      refine wpAnyH_take (i := 2) (oi := _) (v := ?_) rfl (by kernel_rfl) (by kernel_rfl) (by kernel_rfl) (fun _ _ _ h => h) (Or.inl ⟨by kernel_rfl, ?_⟩) hHeld ?_
      rotate_left
      · intro w0 hSw; (try dsimp only at hSw); go_simp; (try with_reducible rfl)
      (try dsimp only [Act.put, List.setIfInBounds_toArray, List.set_cons_zero, List.set_cons_succ])
      refine wpAnyH_take (i := 3) (oi := _) (v := ?_) rfl (by kernel_rfl) (by kernel_rfl) (by kernel_rfl) (fun _ _ _ h => h) (Or.inl ⟨by kernel_rfl, ?_⟩) hHeld ?_
      rotate_left
      · intro w0 hSw; (try dsimp only at hSw); go_simp; (try with_reducible rfl)
      (try dsimp only [Act.put, List.setIfInBounds_toArray, List.set_cons_zero, List.set_cons_succ])
      refine wpAnyH_take (i := 4) (oi := _) (v := ?_) rfl (by kernel_rfl) (by kernel_rfl) (by kernel_rfl) (fun _ _ _ h => h) (Or.inl ⟨by kernel_rfl, ?_⟩) hHeld ?_
      rotate_left
      · intro w0 hSw; (try dsimp only at hSw); go_simp; (try with_reducible rfl)
      (try dsimp only [Act.put, List.setIfInBounds_toArray, List.set_cons_zero, List.set_cons_succ])
      refine wpAnyH_take (i := 5) (oi := _) (v := ?_) rfl (by kernel_rfl) (by kernel_rfl) (by kernel_rfl) (fun _ _ _ h => h) (Or.inl ⟨by kernel_rfl, ?_⟩) hHeld ?_
      rotate_left
      · intro w0 hSw; (try dsimp only at hSw); go_simp; (try with_reducible rfl)
      (try dsimp only [Act.put, List.setIfInBounds_toArray, List.set_cons_zero, List.set_cons_succ])
      refine wpAnyH_take (i := 6) (oi := _) (v := ?_) rfl (by kernel_rfl) (by kernel_rfl) (by kernel_rfl) (fun _ _ _ h => h) (Or.inl ⟨by kernel_rfl, ?_⟩) hHeld ?_
      rotate_left
      · intro w0 hSw; (try dsimp only at hSw); go_simp; (try with_reducible rfl)
      (try dsimp only [Act.put, List.setIfInBounds_toArray, List.set_cons_zero, List.set_cons_succ])
      refine wpAnyH_take (i := 7) (oi := _) (v := .bool false) rfl (by kernel_rfl) (by kernel_rfl) (by kernel_rfl) (fun _ _ _ h => h) (Or.inl ⟨by kernel_rfl, ?_⟩) hHeld ?_
      · intro w0 hSw; (try dsimp only at hSw); go_simp <;> (omega)
      (try dsimp only [Act.put, List.setIfInBounds_toArray, List.set_cons_zero, List.set_cons_succ])
      refine wpAnyH_take (i := 8) (oi := _) (v := ?_) rfl (by kernel_rfl) (by kernel_rfl) (by kernel_rfl) (fun _ _ _ h => h) (Or.inl ⟨by kernel_rfl, ?_⟩) hHeld ?_
      rotate_left
      · intro w0 hSw; (try dsimp only at hSw); go_simp; (try with_reducible rfl)
      (try dsimp only [Act.put, List.setIfInBounds_toArray, List.set_cons_zero, List.set_cons_succ])
      refine wpAnyH_take (i := 9) (oi := _) (v := ?_) rfl (by kernel_rfl) (by kernel_rfl) (by kernel_rfl) (fun _ _ _ h => h) (Or.inl ⟨by kernel_rfl, ?_⟩) hHeld ?_
      rotate_left
      · intro w0 hSw; (try dsimp only at hSw); go_simp; (try with_reducible rfl)
      (try dsimp only [Act.put, List.setIfInBounds_toArray, List.set_cons_zero, List.set_cons_succ])
      refine wpAnyH_take (i := 10) (oi := _) (v := ?_) rfl (by kernel_rfl) (by kernel_rfl) (by kernel_rfl) (fun _ _ _ h => h) (Or.inl ⟨by kernel_rfl, ?_⟩) hHeld ?_
      rotate_left
      · intro w0 hSw; (try dsimp only at hSw); go_simp; (try with_reducible rfl)
      (try dsimp only [Act.put, List.setIfInBounds_toArray, List.set_cons_zero, List.set_cons_succ])
      refine wpAnyH_take (i := 11) (oi := _) (v := ?_) rfl (by kernel_rfl) (by kernel_rfl) (by kernel_rfl) (fun _ _ _ h => h) (Or.inl ⟨by kernel_rfl, ?_⟩) hHeld ?_
      rotate_left
      · intro w0 hSw; (try dsimp only at hSw); go_simp; (try with_reducible rfl)
      (try dsimp only [Act.put, List.setIfInBounds_toArray, List.set_cons_zero, List.set_cons_succ])
      refine wpAnyH_take (i := 12) (oi := _) (v := ?_) rfl (by kernel_rfl) (by kernel_rfl) (by kernel_rfl) (fun _ _ _ h => h) (Or.inl ⟨by kernel_rfl, ?_⟩) hHeld ?_
      rotate_left
      · intro w0 hSw; (try dsimp only at hSw); go_simp; (try with_reducible rfl)
      (try dsimp only [Act.put, List.setIfInBounds_toArray, List.set_cons_zero, List.set_cons_succ])
      refine wpAnyH_take (i := 13) (oi := _) (v := ?_) rfl (by kernel_rfl) (by kernel_rfl) (by kernel_rfl) (fun _ _ _ h => h) (Or.inl ⟨by kernel_rfl, ?_⟩) hHeld ?_
      rotate_left
      · intro w0 hSw; (try dsimp only at hSw); go_simp; (try with_reducible rfl)
      (try dsimp only [Act.put, List.setIfInBounds_toArray, List.set_cons_zero, List.set_cons_succ])
      refine wpAnyH_take (i := 14) (oi := _) (v := ?_) rfl (by kernel_rfl) (by kernel_rfl) (by kernel_rfl) (fun _ _ _ h => h) (Or.inl ⟨by kernel_rfl, ?_⟩) hHeld ?_
      rotate_left
      · intro w0 hSw; (try dsimp only at hSw); go_simp; (try with_reducible rfl)
      (try dsimp only [Act.put, List.setIfInBounds_toArray, List.set_cons_zero, List.set_cons_succ])
      refine wpAnyH_take (i := 15) (oi := _) (v := ?_) rfl (by kernel_rfl) (by kernel_rfl) (by kernel_rfl) (fun _ _ _ h => h) (Or.inl ⟨by kernel_rfl, ?_⟩) hHeld ?_
      rotate_left
      · intro w0 hSw; (try dsimp only at hSw); go_simp; (try with_reducible rfl)
      (try dsimp only [Act.put, List.setIfInBounds_toArray, List.set_cons_zero, List.set_cons_succ])
      refine wpAnyH_take (i := 16) (oi := _) (v := ?_) rfl (by kernel_rfl) (by kernel_rfl) (by kernel_rfl) (fun _ _ _ h => h) (Or.inl ⟨by kernel_rfl, ?_⟩) hHeld ?_
      rotate_left
      · intro w0 hSw; (try dsimp only at hSw); go_simp; (try with_reducible rfl)
      (try dsimp only [Act.put, List.setIfInBounds_toArray, List.set_cons_zero, List.set_cons_succ])
      refine wpAnyH_ready (rs := [17]) (by kernel_rfl) (by simp) ?_
      refine AllReadyH.cons (o := _) rfl (fun K hK => ?_) AllReadyH.nil
      go_simp
      refine (implIsCodeWord_any p pw g (lw : Int) (c : Int) _ (HROW.out.below' (Drew.below (drew1 wr) wr.heap.size))).mono ?_
      rintro e w11 ⟨rfl, hb11⟩
      rw [HICW.out]
      refine hK.out _ _ ?_ (fun hHeld => ?_)
      · (try dsimp only); exact ⟨keep_cell hb11 hHeld.1, keep_cell hb11 hHeld.2.1, keep_cell hb11 hHeld.2.2.1, keep_cell hb11 hHeld.2.2.2.1, keep_cell hb11 hHeld.2.2.2.2.1, keep_cell hb11 hHeld.2.2.2.2.2.1, keep_cell hb11 hHeld.2.2.2.2.2.2⟩
      clear hK K
      (try dsimp only [Act.put, List.setIfInBounds_toArray, List.set_cons_zero, List.set_cons_succ])
      refine wpAnyH_take (i := 18) (oi := _) (v := ?_) rfl (by kernel_rfl) (by kernel_rfl) (by kernel_rfl) (fun _ _ _ h => h) (Or.inl ⟨by kernel_rfl, ?_⟩) hHeld ?_
      rotate_left
      · intro w0 hSw; (try dsimp only at hSw); go_simp; (try with_reducible rfl)
      (try dsimp only [Act.put, List.setIfInBounds_toArray, List.set_cons_zero, List.set_cons_succ])
      refine wpAnyH_take (i := 19) (oi := _) (v := ?_) rfl (by kernel_rfl) (by kernel_rfl) (by kernel_rfl) (fun _ _ _ h => h) (Or.inl ⟨by kernel_rfl, ?_⟩) hHeld ?_
      rotate_left
      · intro w0 hSw; (try dsimp only at hSw); go_simp; (try with_reducible rfl)
      (try dsimp only [Act.put, List.setIfInBounds_toArray, List.set_cons_zero, List.set_cons_succ])
      refine wpAnyH_done (by kernel_rfl) ?_ _
      refine NoPanic.normal ?_
      go_simp
      clear hHeld
      have hbe := (Drew.below (drew1 wr) wr.heap.size).trans (hb11.mono (Drew.below (drew1 wr) wr.heap.size).size)
      have HB11 := Lib.hid (hB9.trans (hbe.mono hB9.size))
      have HO11 := Lib.hid (ho.out.below hbe)
      clear hb11 hbe q1 x4 t0 t1 t2 t3 t4 XW hB ho hB9
      go_wp2_with fail
      go_loopw [15] (fun t wr2 => ∃ e : Nat, e ≤ lw ∧ t = .int .i64 e ∧ Hid (Below w11.heap.size w11 wr2)) (fun t _ => lw - (intOf t).toNat)
      case atStart => exact ⟨0, by omega, rfl, Lib.hid (Below.refl _ _)⟩
      case round =>
        obtain ⟨e, he, rfl, hb⟩ := hrel
        have HBB := Lib.hid (HB11.out.trans (hb.out.mono HB11.out.size))
        have q1 := (T9.out.below HBB.out).slot hkn
        rw [HWL.out] at q1
        have XW := X9.out.below HBB.out X9.out.lt
        by_cases hel : e < lw
        · have heI : (e : Int) < (lw : Int) := by omega
          have k0 := XW.c0
          have k1 := XW.c1
          have k2 := XW.c2
          have k3 := XW.c3
          have k4 := XW.c4
          have k5 := XW.c5
          go_wp2_with fail
          refine (implStreamIndex_any p pw g HLAY.out HL.out HTOT.out hkn (show e < shN q r n k + c by rw [HSK.out, HLW.out]; exact hel) _).mono ?_
          rintro e2 w12 ⟨rfl, hb12⟩
          obtain ⟨hix, hgx⟩ := HIDX.out e (by rw [HLW.out]; exact hel)
          generalize (ordS q r n c).idxOf (k, e) = ix at *
          have HB12 := Lib.hid (HBB.out.trans (hb12.mono HBB.out.size))
          obtain ⟨bS, oS, rfl, -, hcs⟩ := (RS9.out.below' HB12.out).at' (by rw [HXL.out]; omega)
          have c1 := hcs ix (by rw [HXL.out]; exact hix)
          rw [hgx] at c1
          have T12 := T9.out.below HB12.out
          have q2 := T12.slot hkn
          have c2 := (T12.cell hkn (i := e) (by rw [HWL.out]; exact hel)).1
          rw [HWL.out] at q2
          have h2 : ix < x.length := by rw [HXL.out]; exact hix
          have h3 : (ix : Int) < (x.length : Int) := by omega
          have h4 : ¬ (ix : Int) < 0 := by omega
          have HBZ := Lib.hid (hb.out.trans (hb12.mono hb.out.size))
          clear hcs hgx hix XW k0 k1 k2 k3 k4 k5 q1 T12 hb hb12 HB12
          generalize gi (wdS p pw g q r n c zD k) e = z at *
          have hzz : (z != z) = false := by simp
          go_wp2_with fail
          go_quiet (fail)
          go_wp2_with fail
          go_roundw
          case rel => exact ⟨e + 1, by omega, by go_num, Lib.hid (HBZ.out.trans ((Drew.below (drew4 _ _) _).mono HBZ.out.size))⟩
          case measure => simp [intOf]; omega
        · have hee : lw = e := by omega
          subst hee
          have heI : ¬ (lw : Int) < (lw : Int) := by omega
          have hd0 := Drew.below (drew1 wr) wr.heap.size
          have q2 := keep_cell hd0 q1
          have x4 := keep_cell hd0 XW.c4
          have hcapk : sk ≤ cp k := by have := HLW.out; omega
          have hsub : (lw : Int) - (c : Int) = (sk : Int) := by have := HLW.out; omega
          have hse : sk ≤ lw := by have := HLW.out; omega
          have hr0 := (T9.out.below HBB.out).row hkn
          rw [HWL.out] at hr0
          have hr1 := (hr0.below' hd0).takeN hse
          rw [HTK.out] at hr1
          have ROWT := Lib.hid hr1
          have OWD := Lib.hid ((HO11.out.below hb.out).below hd0)
          have HFL := Lib.hid (show ((List.range k).flatMap (blS q r n zD)).length + sk ≤ 16777216 by
            rw [blS_flat (Nat.le_of_lt hrn) HZL.out k hk, List.length_take]; omega)
          have BD := Lib.hid (HBB.out.trans (hd0.mono HBB.out.size))
          have y1 : -1000000 ≤ (sk : Int) ∧ (sk : Int) ≤ 1000000 := by omega
          clear hr0 hr1 XW hd0
          obtain ⟨v13, w13, hrun, hown13, hb13⟩ := run_row (ty := 26) Try.underlying26 OWD.out (cp k) ROWT.out HFL.out
          have HB13 := Lib.hid hb13
          have HO13 := Lib.hid hown13
          have HRUN := Lib.hid hrun
          clear hown13 hrun
          go_wp2_with fail
          refine wp_region_noPanic ?_
          refine wp_region_S (S := (fun w' => w'.cell? ⟨RW, k, none⟩ = some (.slice (some ⟨G k, 0, none⟩) lw (cp k)) ∧ w'.cell? ⟨X, 4, none⟩ = some (.int .i64 (c : Int)))) 16 rfl (by kernel_rfl) ?_ (fun hHeld => ?_)
          · (try dsimp only); exact ⟨q2, x4⟩
          refine wpAnyH_take (i := 0) (oi := _) (v := ?_) rfl (by kernel_rfl) (by kernel_rfl) (by kernel_rfl) (fun _ _ _ h => h) (Or.inl ⟨by kernel_rfl, ?_⟩) hHeld ?_
          rotate_left
          · intro w0 hSw; (try dsimp only at hSw); go_simp; (try with_reducible rfl)
          (try dsimp only [Act.put, List.setIfInBounds_toArray, List.set_cons_zero, List.set_cons_succ])
          refine wpAnyH_take (i := 1) (oi := _) (v := ?_) rfl (by kernel_rfl) (by kernel_rfl) (by kernel_rfl) (fun _ _ _ h => h) (Or.inl ⟨by kernel_rfl, ?_⟩) hHeld ?_
          rotate_left
          · intro w0 hSw; (try dsimp only at hSw); go_simp; (try with_reducible rfl)
          (try dsimp only [Act.put, List.setIfInBounds_toArray, List.set_cons_zero, List.set_cons_succ])
          refine wpAnyH_take (i := 2) (oi := _) (v := ?_) rfl (by kernel_rfl) (by kernel_rfl) (by kernel_rfl) (fun _ _ _ h => h) (Or.inl ⟨by kernel_rfl, ?_⟩) hHeld ?_
          rotate_left
          · intro w0 hSw; (try dsimp only at hSw); go_simp; (try with_reducible rfl)
          (try dsimp only [Act.put, List.setIfInBounds_toArray, List.set_cons_zero, List.set_cons_succ])
          refine wpAnyH_take (i := 3) (oi := _) (v := ?_) rfl (by kernel_rfl) (by kernel_rfl) (by kernel_rfl) (fun _ _ _ h => h) (Or.inl ⟨by kernel_rfl, ?_⟩) hHeld ?_
          rotate_left
          · intro w0 hSw; (try dsimp only at hSw); go_simp; (try with_reducible rfl)
          (try dsimp only [Act.put, List.setIfInBounds_toArray, List.set_cons_zero, List.set_cons_succ])
          refine wpAnyH_take (i := 4) (oi := _) (v := ?_) rfl (by kernel_rfl) (by kernel_rfl) (by kernel_rfl) (fun _ _ _ h => h) (Or.inl ⟨by kernel_rfl, ?_⟩) hHeld ?_
          rotate_left
          · intro w0 hSw; (try dsimp only at hSw); go_simp; (try with_reducible rfl)
          (try dsimp only [Act.put, List.setIfInBounds_toArray, List.set_cons_zero, List.set_cons_succ])
          refine wpAnyH_take (i := 5) (oi := _) (v := ?_) rfl (by kernel_rfl) (by kernel_rfl) (by kernel_rfl) (fun _ _ _ h => h) (Or.inl ⟨by kernel_rfl, ?_⟩) hHeld ?_
          rotate_left
          · intro w0 hSw; (try dsimp only at hSw); go_simp; (try with_reducible rfl)
          (try dsimp only [Act.put, List.setIfInBounds_toArray, List.set_cons_zero, List.set_cons_succ])
          refine wpAnyH_take (i := 6) (oi := _) (v := ?_) rfl (by kernel_rfl) (by kernel_rfl) (by kernel_rfl) (fun _ _ _ h => h) (Or.inl ⟨by kernel_rfl, ?_⟩) hHeld ?_
          rotate_left
          · intro w0 hSw; (try dsimp only at hSw); go_simp; (try with_reducible rfl)
          (try dsimp only [Act.put, List.setIfInBounds_toArray, List.set_cons_zero, List.set_cons_succ])
          refine wpAnyH_take (i := 7) (oi := _) (v := ?_) rfl (by kernel_rfl) (by kernel_rfl) (by kernel_rfl) (fun _ _ _ h => h) (Or.inl ⟨by kernel_rfl, ?_⟩) hHeld ?_
          rotate_left
          · intro w0 hSw; (try dsimp only at hSw); go_simp; (try with_reducible rfl)
          (try dsimp only [Act.put, List.setIfInBounds_toArray, List.set_cons_zero, List.set_cons_succ])
          refine wpAnyH_take (i := 8) (oi := _) (v := ?_) rfl (by kernel_rfl) (by kernel_rfl) (by kernel_rfl) (fun _ _ _ h => h) (Or.inl ⟨by kernel_rfl, ?_⟩) hHeld ?_
          rotate_left
          · intro w0 hSw; (try dsimp only at hSw); go_simp; (try with_reducible rfl)
          (try dsimp only [Act.put, List.setIfInBounds_toArray, List.set_cons_zero, List.set_cons_succ])
          refine wpAnyH_take (i := 9) (oi := _) (v := ?_) rfl (by kernel_rfl) (by kernel_rfl) (by kernel_rfl) (fun _ _ _ h => h) (Or.inl ⟨by kernel_rfl, ?_⟩) hHeld ?_
          rotate_left
          · intro w0 hSw; (try dsimp only at hSw); go_simp; (try with_reducible rfl)
          (try dsimp only [Act.put, List.setIfInBounds_toArray, List.set_cons_zero, List.set_cons_succ])
          refine wpAnyH_take (i := 10) (oi := _) (v := ?_) rfl (by kernel_rfl) (by kernel_rfl) (by kernel_rfl) (fun _ _ _ h => h) (Or.inl ⟨by kernel_rfl, ?_⟩) hHeld ?_
          rotate_left
          · intro w0 hSw; (try dsimp only at hSw); go_simp; (try with_reducible rfl)
          (try dsimp only [Act.put, List.setIfInBounds_toArray, List.set_cons_zero, List.set_cons_succ])
          refine wpAnyH_take (i := 11) (oi := _) (v := ?_) rfl (by kernel_rfl) (by kernel_rfl) (by kernel_rfl) (fun _ _ _ h => h) (Or.inl ⟨by kernel_rfl, ?_⟩) hHeld ?_
          rotate_left
          · intro w0 hSw; (try dsimp only at hSw); go_simp; (try with_reducible rfl)
          (try dsimp only [Act.put, List.setIfInBounds_toArray, List.set_cons_zero, List.set_cons_succ])
          have v1 : wrap64 (sk : Int) = (sk : Int) := (wraps y1).1
          have v2 : IntKind.i64.wrap (sk : Int) = (sk : Int) := (wraps y1).2
          refine wpAnyH_take (i := 12) (oi := _) (v := .int .i64 (sk : Int)) rfl (by kernel_rfl) (by kernel_rfl) (by kernel_rfl) (fun _ _ _ h => h) (Or.inl ⟨by kernel_rfl, ?_⟩) hHeld ?_
          · intro w0 hSw; (try dsimp only at hSw); go_simp <;> (first | done | simp | omega)
          (try dsimp only [Act.put, List.setIfInBounds_toArray, List.set_cons_zero, List.set_cons_succ])
          refine wpAnyH_take (i := 13) (oi := _) (v := .slice (some ⟨G k, 0, none⟩) sk (cp k)) rfl (by kernel_rfl) (by kernel_rfl) (by kernel_rfl) (fun _ _ _ h => h) (Or.inl ⟨by kernel_rfl, ?_⟩) hHeld ?_
          · intro w0 hSw; (try dsimp only at hSw); go_simp <;> (first | done | simp | omega)
          (try dsimp only [Act.put, List.setIfInBounds_toArray, List.set_cons_zero, List.set_cons_succ])
          refine wpAnyH_ready (rs := [14]) (by kernel_rfl) (by simp) ?_
          refine AllReadyH.cons (o := _) rfl (fun K hK => ?_) AllReadyH.nil
          refine step_row rfl _ _ _ rfl HRUN.out ?_ ?_ ?_
          · go_simp
          · go_simp
          refine hK.out _ _ ?_ (fun hHeld => ?_)
          · (try dsimp only); exact ⟨(hb13.cell (p := ⟨RW, k, none⟩) hRWl).trans hHeld.1, (hb13.cell (p := ⟨X, 4, none⟩) hXB).trans hHeld.2⟩
          clear hK K
          (try dsimp only [Act.put, List.setIfInBounds_toArray, List.set_cons_zero, List.set_cons_succ])
          refine wpAnyH_take (i := 15) (oi := _) (v := ?_) rfl (by kernel_rfl) (by kernel_rfl) (by kernel_rfl) (fun _ _ _ h => h) (Or.inl ⟨by kernel_rfl, ?_⟩) hHeld ?_
          rotate_left
          · intro w0 hSw; (try dsimp only at hSw); go_simp; (try with_reducible rfl)
          (try dsimp only [Act.put, List.setIfInBounds_toArray, List.set_cons_zero, List.set_cons_succ])
          refine wpAnyH_done (by kernel_rfl) ?_ _
          refine NoPanic.normal ?_
          go_simp
          clear hHeld
          clear hb13 v1 v2 y1 hsub
          go_wp2_with fail
          go_roundw
          case rel => exact ⟨k + 1, by omega, by go_num, Lib.hid (by rw [List.range_succ, List.flatMap_append]; simpa using HO13.out), Lib.hid (by have := BD.out; rw [HBK.out] at this; exact this.trans HB13.out)⟩
          case measure => simp [intOf]; omega
    · have hkn2 : n = k := by omega
      subst hkn2
      have RDW := Lib.hid (RD9.out.below' hB9)
      have ho2 := ho.out
      rw [blS_all (Nat.le_of_lt hrn) HZL.out] at ho2
      have HOW := Lib.hid ho2
      clear ho2
      have BW := Lib.hid (B9.out.trans (hB9.mono B9.out.size))
      clear ho hB hB9
      obtain ⟨aB, capB, rfl, hcpB, hcaB, hoB⟩ := HOW.out.cap
      have RB := Lib.hid hoB.row
      have hki : ¬ (n : Int) < (n : Int) := by omega
      clear hcpB hcaB hoB HOW
      go_wp2_with fail
      refine (likeInts_any RB.out RDW.out).mono ?_
      have hdec : decide (zD = zD) = true := decide_eq_true rfl
      rintro e w14 ⟨he, hb14⟩
      rw [hdec] at he
      subst he
      clear hdec
      go_wp2_with fail
      go_ret
      exact ⟨rfl, BW.out.trans (hb14.mono BW.out.size)⟩
end Go.Proofs.Ytfhkkpfiflgofaa
