/-
  What the laws of streams draw: a stream with erasures.
-/
import Derived.Test.YtfhkkpfiflgofaaDrawY
import Derived.Test.YtfhkkpfiflgofaaEncR
import Derived.Test.YtfhkkpfiflgofaaDrawK
namespace Go.Proofs.Ytfhkkpfiflgofaa
open Go.RowKit
set_option linter.unusedVariables false

/-- The state of a draw whose source is older than its blocks. -/
structure LTt (w0 W : World) (R X s : Nat) (p pw g D C N : Int) : Prop where
  res : LB W R 0 0 0 0 0 0
  fld : LB W X p pw g D C N
  src : Src W s
  dr : Dr s w0 W
  r0 : R = w0.heap.size
  sr : s < R
  rx : R < X
section
variable {w0 W W' : World} {R X s : Nat} {p pw g D C N : Int}
theorem LTt.below (h : LTt w0 W R X s p pw g D C N) (hb : Below W.heap.size W W') : LTt w0 W' R X s p pw g D C N :=
  ⟨h.res.below hb h.res.lt, h.fld.below hb h.fld.lt, h.src.below hb, h.dr.more hb, h.r0, h.sr, h.rx⟩
theorem LTt.drS (h : LTt w0 W R X s p pw g D C N) (hd : Dr s W W') (hs : Src W' s) : LTt w0 W' R X s p pw g D C N := by
  have h1 := h.sr; have h2 := h.rx
  exact ⟨h.res.dr hd (by omega), h.fld.dr hd (by omega), hs, h.dr.trans hd, h.r0, h.sr, h.rx⟩
theorem LTt.store (h : LTt w0 W R X s p pw g D C N) {G : Nat} (hG : X < G) (o : Nat) (v : Value) : LTt w0 (W.setCell ⟨G, o, none⟩ v) R X s p pw g D C N := by
  have h1 := h.sr; have h2 := h.rx; have h3 := h.r0
  exact ⟨h.res.other (by omega) _, h.fld.other (by omega) _, h.src.other (by omega) _ _, h.dr.setNew (by omega) _ _, h.r0, h.sr, h.rx⟩
end
theorem LTt.lo {w0 W W' : World} {R X s : Nat} {p pw g D C N : Int} (h : LTt w0 W R X s p pw g D C N) {M : Nat} (hM : X < M) (hb : Below M W W') : LTt w0 W' R X s p pw g D C N := by
  have h1 := h.sr; have h2 := h.rx; have h0 := h.r0
  exact ⟨h.res.below hb (by omega), h.fld.below hb hM, h.src.lo (by omega) hb, h.dr.moreB (hb.mono (by omega)), h.r0, h.sr, h.rx⟩
set_option maxHeartbeats 8000000 in
set_option maxRecDepth 100000 in
theorem l07DrawStream_any {w : World} {s : Nat} (hs : Src w s) :
    Calls Try.prog 105 #[.pointer (some ⟨s, 0, none⟩)] w fun e w' => ∃ p pw g D C N v v2, e = .returned (.tuple #[lV p pw g D C N, v, v2]) ∧ Dr s w w' ∧ Src w' s ∧ ∃ zs E, OwnL w' w.heap.size v zs ∧ OwnL w' w.heap.size v2 E ∧ zs.length ≤ 4000 ∧ E.length ≤ 4000 := by
  have F0 := Lib.hid (LB.new w 0 0 0 0 0 0)
  have B0 := Lib.hid (below1 w (.cells #[.int .i64 0, .int .i64 0, .int .i64 0, .int .i64 0, .int .i64 0, .int .i64 0] LT))
  have hsz := hs.lt
  have HS := Lib.hid (hs.below B0.out)
  have D0 := Lib.hid (Dr.of (s := s) B0.out)
  have HRES := Lib.hid (show Try.f105.results = #[.cell 2 LT, .tmp 3, .tmp 4] by kernel_rfl)
  clear hs B0
  go_enter Try.func105, Try.ntmps105
  go_wp2_with fail
  generalize w.alloc (.cells #[.int .i64 0, .int .i64 0, .int .i64 0, .int .i64 0, .int .i64 0, .int .i64 0] LT) = w1 at *
  refine (l07DrawAny_any HS.out).mono ?_
  rintro e w2 ⟨p, pw, g, D, C, N, rfl, hl1, hl2, hc1, hc2, hn1, hn2, hd, hs2⟩
  have hx2 : w.heap.size < w2.heap.size := (F0.out.dr hd (by omega)).lt
  have T3 := Lib.hid (show LTt w (w2.alloc (.cells #[.int .i64 p, .int .i64 pw, .int .i64 g, .int .i64 D, .int .i64 C, .int .i64 N] LT)) w.heap.size w2.heap.size s p pw g D C N from
    ⟨(F0.out.dr hd (by omega)).below (below1 w2 _) (F0.out.dr hd (by omega)).lt, LB.new w2 p pw g D C N, hs2.alloc _, (D0.out.trans hd).alloc _, rfl, hsz, hx2⟩)
  obtain ⟨X, hX⟩ : ∃ X, X = w2.heap.size := ⟨_, rfl⟩
  rw [← hX] at T3 hx2
  clear hd hs2 F0 HS D0
  go_wp2_with fail
  rw [← hX]
  clear hX
  generalize w2.alloc (.cells #[.int .i64 p, .int .i64 pw, .int .i64 g, .int .i64 D, .int .i64 C, .int .i64 N] LT) = w3 at *
  have k0 := T3.out.fld.c0
  have k1 := T3.out.fld.c1
  have k2 := T3.out.fld.c2
  have k3 := T3.out.fld.c3
  have k4 := T3.out.fld.c4
  have k5 := T3.out.fld.c5
  go_wp2_with fail
  refine (l07DrawData_any T3.out.src p pw g D C N).mono ?_
  rintro e w4 ⟨v4, rfl, hd4, hs4, z4, ho4, hl4⟩
  have T4 := Lib.hid (T3.out.drS hd4 hs4)
  have O4 := Lib.hid ho4
  obtain ⟨a4, cap4, rfl, hcp4, hca4, hoa4⟩ := ho4.cap
  have R4 := Lib.hid hoa4.row
  have CP4 := Lib.hid hcp4
  have hw3 : w.heap.size ≤ w3.heap.size := by have := T3.out.res.lt; omega
  have hR3 : w.heap.size < w3.heap.size := by have := T3.out.rx; have := T3.out.fld.lt; omega
  clear hd4 hs4 ho4 T3 k0 k1 k2 k3 k4 k5 hoa4 hca4 hcp4
  have k0 := T4.out.fld.c0
  have k1 := T4.out.fld.c1
  have k2 := T4.out.fld.c2
  have k3 := T4.out.fld.c3
  have k4 := T4.out.fld.c4
  have k5 := T4.out.fld.c5
  go_wp2_with fail
  refine (specEncodeStreamO_any p pw g D C N _ R4.out CP4.out).mono ?_
  rintro e w5 ⟨v5, rfl, hb5, ho5⟩
  have T5 := Lib.hid (T4.out.below hb5)
  have Z5 := Lib.hid (O4.out.below hb5)
  have O5 := Lib.hid ho5
  have hXw4 : X < w4.heap.size := T4.out.fld.lt
  clear hb5 ho5 T4 O4 R4 CP4 k0 k1 k2 k3 k4 k5
  have hE := esR_length (p := p) (pw := pw) (g := g) (D := D) (C := C) (N := N) (zs := z4)
  by_cases hcd : esC p pw g D C N z4 = 0
  rotate_left
  · have hne : (esC p pw g D C N z4 != 0) = true := by simp [hcd]
    clear hcd hE
    generalize esC p pw g D C N z4 = cd at *
    have r0 := T5.out.res.c0
    have f0 := T5.out.res.fz 0
    have r1 := T5.out.res.c1
    have f1 := T5.out.res.fz 1
    have r2 := T5.out.res.c2
    have f2 := T5.out.res.fz 2
    have r3 := T5.out.res.c3
    have f3 := T5.out.res.fz 3
    have r4 := T5.out.res.c4
    have f4 := T5.out.res.fz 4
    have r5 := T5.out.res.c5
    have f5 := T5.out.res.fz 5
    have k0 := T5.out.fld.c0
    have k1 := T5.out.fld.c1
    have k2 := T5.out.fld.c2
    have k3 := T5.out.fld.c3
    have k4 := T5.out.fld.c4
    have k5 := T5.out.fld.c5
    have FF := Lib.hid (T5.out.res.set p pw g D C N)
    have SF := Lib.hid (setL_src (B := w.heap.size) (p := p) (pw := pw) (g := g) (D := D) (C := C) (N := N) T5.out.src hsz)
    have DF := Lib.hid (setL_dr (B := w.heap.size) (p := p) (pw := pw) (g := g) (D := D) (C := C) (N := N) s T5.out.dr (Nat.le_refl _))
    have OF := Lib.hid ((setL_own (B := w.heap.size) (p := p) (pw := pw) (g := g) (D := D) (C := C) (N := N) Z5.out hR3).lower (C := w.heap.size) hw3)
    go_wp2_with fail
    (try simp only [Exit.inBlock, Exit.then])
    exact ret_cell3 HRES.out Try.underlying31 rfl (by kernel_rfl) rfl rfl FF.out.blk ⟨_, _, _, _, _, _, _, _, rfl, DF.out, SF.out, _, [], OF.out, OwnL.nil _ _ OF.out.1, by omega, by simp⟩
  obtain ⟨hxl, hx15, hlay, -, -⟩ := hE hcd
  obtain ⟨q, r, n, c, hl, -, -, hvB⟩ := lay_ok hlay
  have HSZ := Lib.hid (fun W => l02Size_any p pw g W (ranged_of hvB))
  have hz9 : (ffOf p pw g).size ≤ 1000000000 := by have := (ffOf_ok hvB).hi; omega
  clear hvB
  have hD1 : 1 ≤ D := by have h1 := hl.hD; have h2 := hl.nD; have h3 := hl.n1; omega
  have hNC : 0 ≤ N * C := Int.mul_nonneg hn1 hc1
  have hM0 : 0 ≤ N * (C / 2) := Int.mul_nonneg hn1 (by omega)
  have hM1 : N * (C / 2) ≤ 4000 * 2000 := Int.mul_le_mul hn2 (by omega) (by omega) (by omega)
  clear hl hlay
  rw [hcd]
  generalize esR p pw g D C N z4 = x at *
  have hxb : x.length ≤ 1500 := by omega
  have hxp : 0 < x.length := by omega
  clear hE hcd hxl hx15
  have k3 := T5.out.fld.c3
  have k4 := T5.out.fld.c4
  have k5 := T5.out.fld.c5
  obtain ⟨g5, cap5, cur5, rfl, hg5, hg5b, -, -, -⟩ := O5.out.form hxp
  go_wp2_with fail
  refine (l01Next_any T5.out.src _ (by omega)).mono ?_
  rintro e w6 ⟨at0, rfl, hat, hd6, hs6⟩
  have T6 := Lib.hid (T5.out.drS hd6 hs6)
  have O6 := Lib.hid (O5.out.drn hd6 (fun h => by have := (O5.out.2.lt _ h).1; omega))
  clear hd6 hs6 T5 O5 k3 k4 k5 Z5
  have k3 := T6.out.fld.c3
  have k4 := T6.out.fld.c4
  have k5 := T6.out.fld.c5
  have hxne : ¬ x = [] := fun h => by rw [h] at hxp; exact absurd hxp (Nat.lt_irrefl 0)
  have hxpI : (0 : Int) < (x.length : Int) := by omega
  obtain ⟨M, hM⟩ : ∃ M, N * (C / 2) = M := ⟨_, rfl⟩
  rw [hM] at hM0 hM1
  have y1 : -10000000 ≤ M ∧ M ≤ 10000000 := by omega
  have y2 : -10000000 ≤ M + 2 ∧ M + 2 ≤ 10000000 := by omega
  have hM3 : M + 2 ≤ 1000000000 := by omega
  have v0 : wrap64 M = M := IntWalk.wrap64_in _ (by omega)
  have v2 : wrap64 (M + 2) = M + 2 := IntWalk.wrap64_in _ (by omega)
  go_wp2_with fail
  clear v0 v2 y1 y2
  refine (l01Next_any T6.out.src (M + 2) hM3).mono ?_
  rintro e w7 ⟨kk, rfl, hkk, hd7, hs7⟩
  obtain ⟨hk0, hk1⟩ := hkk.2 (by omega)
  have T7 := Lib.hid (T6.out.drS hd7 hs7)
  have O7 := Lib.hid (O6.out.drn hd7 (fun h => by have := (O6.out.2.lt _ h).1; omega))
  clear hd7 hs7 T6 O6 k3 k4 k5
  obtain ⟨ha0, ha1⟩ : 0 ≤ at0 ∧ at0 ≤ 2000 := by
    by_cases h1 : 1 < (x.length : Int)
    · have := hat.2 h1; omega
    · have := hat.1 (by omega); omega
  go_wp2_with fail
  obtain ⟨w70, hw70⟩ : ∃ w70, w7 = w70 := ⟨_, rfl⟩
  go_loopw [9, 10] (fun ta tn wr => ∃ (aa nn : Int) (xs : List Int), ta = .int .i64 aa ∧ tn = .int .i64 nn ∧ 0 ≤ nn ∧ nn ≤ 8000002 ∧ 0 ≤ aa ∧ aa ≤ 2000 + 2 * (8000002 - nn) ∧ Hid (xs.length = x.length) ∧ Hid (OwnL wr w4.heap.size (.slice (some ⟨g5, 0, none⟩) x.length cap5) xs) ∧ Hid (LTt w wr w.heap.size X s p pw g D C N)) (fun _ tn _ => (intOf tn).toNat)
  case atStart => exact ⟨at0, kk, x, rfl, rfl, hk0, by omega, ha0, by omega, Lib.hid rfl, O7, T7⟩
  case round =>
    clear O7 T7
    obtain ⟨aa, nn, xs, rfl, rfl, hn0, hn1', ha0', ha1', hxs, hO, hT⟩ := hrel
    by_cases hnn : 0 < nn
    · have hx10 : aa.tmod (x.length : Int) = aa % (x.length : Int) := Int.tmod_eq_emod_of_nonneg ha0'
      have hm0 := Int.emod_nonneg aa (show (x.length : Int) ≠ 0 by omega)
      have hm1 := Int.emod_lt_of_pos aa hxpI
      obtain ⟨i, hi⟩ : ∃ i : Nat, aa % (x.length : Int) = (i : Int) := ⟨(aa % (x.length : Int)).toNat, by omega⟩
      rw [hi] at hm0 hm1
      have hil : i < x.length := by omega
      have k0 := (hT.out.below (Drew.below (drew1 wr) _)).fld.c0
      have k1 := (hT.out.below (Drew.below (drew1 wr) _)).fld.c1
      have k2 := (hT.out.below (Drew.below (drew1 wr) _)).fld.c2
      have TD := Lib.hid (hT.out.below (Drew.below (drew1 wr) _))
      have OD := Lib.hid (hO.out.below (Drew.below (drew1 wr) _))
      have hXs : s < X := by have := TD.out.sr; have := TD.out.rx; omega
      clear hT hO hm0
      go_wp2_with fail
      refine wp_region_lastW (S := (fun w' => w'.cell? ⟨X, 0, none⟩ = some (.int .i64 p) ∧ w'.cell? ⟨X, 1, none⟩ = some (.int .i64 pw) ∧ w'.cell? ⟨X, 2, none⟩ = some (.int .i64 g))) 11 (by kernel_rfl) rfl (by kernel_rfl) ?_ (fun hHeld => ?_)
      · (try dsimp only); exact ⟨k0, k1, k2⟩
      simp only [List.take_succ_cons, List.take_zero]
      refine wpAnyH_take (i := 0) (oi := _) (v := ?_) rfl (by kernel_rfl) (by kernel_rfl) (by kernel_rfl) (fun _ _ _ h => h) (Or.inl ⟨by kernel_rfl, ?_⟩) hHeld ?_
      rotate_left
      · intro w0 hSw; (try dsimp only at hSw); go_simp; (try with_reducible rfl)
      (try dsimp only [Act.put, List.setIfInBounds_toArray, List.set_cons_zero, List.set_cons_succ])
      refine wpAnyH_take (i := 1) (oi := _) (v := ?_) rfl (by kernel_rfl) (by kernel_rfl) (by kernel_rfl) (fun _ _ _ h => h) (Or.inl ⟨by kernel_rfl, ?_⟩) hHeld ?_
      rotate_left
      · intro w0 hSw; (try dsimp only at hSw); go_simp; (try with_reducible rfl)
      (try dsimp only [Act.put, List.setIfInBounds_toArray, List.set_cons_zero, List.set_cons_succ])
      refine wpAnyH_take (i := 2) (oi := _) (v := ?_) rfl (by kernel_rfl) (by kernel_rfl) (by kernel_rfl) (fun _ _ _ h => h) (Or.inl ⟨by kernel_rfl, ?_⟩) hHeld ?_
      rotate_left
      · intro w0 hSw; (try dsimp only at hSw); go_simp; (try with_reducible rfl)
      (try dsimp only [Act.put, List.setIfInBounds_toArray, List.set_cons_zero, List.set_cons_succ])
      refine wpAnyH_take (i := 3) (oi := _) (v := ?_) rfl (by kernel_rfl) (by kernel_rfl) (by kernel_rfl) (fun _ _ _ h => h) (Or.inl ⟨by kernel_rfl, ?_⟩) hHeld ?_
      rotate_left
      · intro w0 hSw; (try dsimp only at hSw); go_simp; (try with_reducible rfl)
      (try dsimp only [Act.put, List.setIfInBounds_toArray, List.set_cons_zero, List.set_cons_succ])
      refine wpAnyH_take (i := 4) (oi := _) (v := ?_) rfl (by kernel_rfl) (by kernel_rfl) (by kernel_rfl) (fun _ _ _ h => h) (Or.inl ⟨by kernel_rfl, ?_⟩) hHeld ?_
      rotate_left
      · intro w0 hSw; (try dsimp only at hSw); go_simp; (try with_reducible rfl)
      (try dsimp only [Act.put, List.setIfInBounds_toArray, List.set_cons_zero, List.set_cons_succ])
      refine wpAnyH_take (i := 5) (oi := _) (v := ?_) rfl (by kernel_rfl) (by kernel_rfl) (by kernel_rfl) (fun _ _ _ h => h) (Or.inl ⟨by kernel_rfl, ?_⟩) hHeld ?_
      rotate_left
      · intro w0 hSw; (try dsimp only at hSw); go_simp; (try with_reducible rfl)
      (try dsimp only [Act.put, List.setIfInBounds_toArray, List.set_cons_zero, List.set_cons_succ])
      refine wpAnyH_take (i := 6) (oi := _) (v := ?_) rfl (by kernel_rfl) (by kernel_rfl) (by kernel_rfl) (fun _ _ _ h => h) (Or.inl ⟨by kernel_rfl, ?_⟩) hHeld ?_
      rotate_left
      · intro w0 hSw; (try dsimp only at hSw); go_simp; (try with_reducible rfl)
      (try dsimp only [Act.put, List.setIfInBounds_toArray, List.set_cons_zero, List.set_cons_succ])
      refine wpAnyH_take (i := 7) (oi := _) (v := ?_) rfl (by kernel_rfl) (by kernel_rfl) (by kernel_rfl) (fun _ _ _ h => h) (Or.inl ⟨by kernel_rfl, ?_⟩) hHeld ?_
      rotate_left
      · intro w0 hSw; (try dsimp only at hSw); go_simp; (try with_reducible rfl)
      (try dsimp only [Act.put, List.setIfInBounds_toArray, List.set_cons_zero, List.set_cons_succ])
      refine wpAnyH_ready (rs := [8]) (by kernel_rfl) (by simp) ?_
      refine AllReadyH.cons (o := _) rfl (fun K hK => ?_) AllReadyH.nil
      go_simp
      refine (HSZ.out _).mono ?_
      rintro e w8 ⟨rfl, hb8⟩
      refine hK.out _ _ ?_ (fun hHeld => ?_)
      · (try dsimp only); exact ⟨keep_cell hb8 hHeld.1, keep_cell hb8 hHeld.2.1, keep_cell hb8 hHeld.2.2⟩
      clear hK K
      (try dsimp only [Act.put, List.setIfInBounds_toArray, List.set_cons_zero, List.set_cons_succ])
      refine wpAnyH_ready (rs := [9]) (by kernel_rfl) (by simp) ?_
      refine AllReadyH.cons (o := _) rfl (fun K hK => ?_) AllReadyH.nil
      go_simp
      refine (l01Next_any (TD.out.below hb8).src (ffOf p pw g).size hz9).mono ?_
      rintro e w9 ⟨y, rfl, hy, hd9, hs9⟩
      refine hK.out _ _ ?_ (fun hHeld => ?_)
      · (try dsimp only); exact ⟨hd9.cell hHeld.1 (by omega), hd9.cell hHeld.2.1 (by omega), hd9.cell hHeld.2.2 (by omega)⟩
      clear hK K
      (try dsimp only [Act.put, List.setIfInBounds_toArray, List.set_cons_zero, List.set_cons_succ])
      refine wpAnyH_take (i := 10) (oi := _) (v := ?_) rfl (by kernel_rfl) (by kernel_rfl) (by kernel_rfl) (fun _ _ _ h => h) (Or.inl ⟨by kernel_rfl, ?_⟩) hHeld ?_
      rotate_left
      · intro w0 hSw; (try dsimp only at hSw); go_simp; (try with_reducible rfl)
      (try dsimp only [Act.put, List.setIfInBounds_toArray, List.set_cons_zero, List.set_cons_succ])
      refine wpAnyH_done (by kernel_rfl) (lastQ_normalW ?_) _
      have T9 := Lib.hid ((TD.out.below hb8).drS hd9 hs9)
      have hneg : (Value.slice (some ⟨g5, 0, none⟩) x.length cap5).ownBlock ≠ some s := by simp [Value.ownBlock]; omega
      have O9 := Lib.hid ((OD.out.below hb8).drn hd9 hneg)
      obtain ⟨g1, cp1, cur, e1, -, hg2, hg3, -, hoa⟩ := O9.out.form (by rw [hxs.out]; exact hxp)
      simp only [Value.slice.injEq, Option.some.injEq, Addr.mk.injEq, and_true] at e1
      obtain ⟨rfl, -, rfl⟩ := e1
      have fz9 : w9.frozen? ⟨g5, i, none⟩ = false := by unfold World.frozen?; rw [hg3]; simp
      obtain ⟨b', o', e2, -, hcs⟩ := hoa.row.at' (by rw [hxs.out]; exact hxp)
      cases e2
      have hcell := hcs i (by rw [hxs.out]; exact hil)
      rw [Nat.zero_add] at hcell
      clear hcs hoa hg3 hg2 hd9 hs9 hb8 TD OD hHeld
      have hgX : X < g5 := by omega
      have TF := Lib.hid (T9.out.store hgX i (.int .i64 y))
      have OF := Lib.hid (O9.out.set (k := i) (by rw [hxs.out]; exact hil) y)
      have HXS := Lib.hid (show (xs.set i y).length = x.length by rw [List.length_set]; exact hxs.out)
      clear T9 O9
      have y1 : -9000000000 ≤ aa + 1 ∧ aa + 1 ≤ 9000000000 := by omega
      have v1 : wrap64 (aa + 1) = aa + 1 := IntWalk.wrap64_in _ (by omega)
      have v2 : IntKind.i64.wrap (aa + 1) = aa + 1 := IntWalk.i64_in _ (by omega)
      go_wp2_with fail
      clear v1 v2
      refine (l01Next_any TF.out.src 6 (by omega)).mono ?_
      rintro e w11 ⟨z6, rfl, hz6, hd11, hs11⟩
      obtain ⟨hz0, hz1⟩ := hz6.2 (by omega)
      have T11 := Lib.hid (TF.out.drS hd11 hs11)
      have O11 := Lib.hid (OF.out.drn hd11 hneg)
      clear hd11 hs11 TF OF
      go_wp2_with fail
      go_roundw
      case rel => exact ⟨aa + 1 + z6 / 5, nn - 1, xs.set i y, rfl, rfl, by omega, by omega, by omega, by omega, HXS, O11, T11⟩
      case measure => simp [intOf]; omega
    · obtain ⟨wq, rfl⟩ : ∃ wq : World, wq = wr := ⟨_, rfl⟩
      have E0 := Lib.hid (OwnL.empty wq wq.heap.size (Nat.le_refl _) wq.heap.size rfl)
      have TE := Lib.hid (hT.out.below (below1 wq (.cells #[] 2)))
      have OE := Lib.hid (hO.out.below (below1 wq (.cells #[] 2)))
      have hwq : w.heap.size < wq.heap.size := hT.out.res.lt
      go_wp2_with fail
      -- NOT BUILT from here on: loop [11, 12] that appends erasures (l01Next 16; append_own in order), regions 18-22 (two late appends), region 23 (store of the result, ret_cell3)
      have hgq : g5 < wq.heap.size := by
        rcases hO.out.2.2 with h2 | ⟨g, cap, cur, he, _, hh, _⟩
        · simp at h2
        · have : g5 = g := by simp at he; exact he.1
          rw [this]; exact lt_of_heap hh
      clear hT hO
      go_loopw [11, 12] (fun ve ti wr2 => ∃ (i : Nat) (es : List Int), i ≤ x.length ∧ ti = .int .i64 i ∧ Hid (es.length ≤ i) ∧ Hid (OwnL wr2 wq.heap.size ve es) ∧ Hid (OwnL wr2 w4.heap.size (.slice (some ⟨g5, 0, none⟩) x.length cap5) xs) ∧ Hid (LTt w wr2 w.heap.size X s p pw g D C N)) (fun _ ti _ => x.length - (intOf ti).toNat)
      case atStart => exact ⟨0, [], by omega, rfl, Lib.hid (Nat.le_refl 0), E0, OE, TE⟩
      case round =>
        clear E0 OE TE
        obtain ⟨i, es, hi, rfl, hes, hE, hO, hT⟩ := hrel
        have hsX : s < X := by have := hT.out.sr; have := hT.out.rx; omega
        have hsg : s < g5 := by omega
        have hsq : s < wq.heap.size := by omega
        have hXq : X < wq.heap.size := by omega
        have hneg : (Value.slice (some ⟨g5, 0, none⟩) x.length cap5).ownBlock ≠ some s := by simp [Value.ownBlock]; omega
        obtain ⟨ae, ce, rfl, hce, hcae, hoe⟩ := hE.out.cap
        clear hcae hoe
        have hl2 : es.length ≤ 16777216 := by have := hes.out; omega
        by_cases hlt : i < x.length
        · have hli : (i : Int) < (x.length : Int) := by omega
          go_wp2_with fail
          refine (next_any hT.out.src 16 (by omega) (by omega)).mono ?_
          rintro e w5 ⟨k, rfl, hk, hd5, hs5⟩
          have T5' := Lib.hid (hT.out.drS hd5 hs5)
          have O5' := Lib.hid (hO.out.drn hd5 hneg)
          have E5 := Lib.hid (hE.out.dr hd5 hsq)
          clear hd5 hs5 hT hO hE
          rcases (show k = 0 ∨ 1 ≤ k by omega) with rfl | hk1
          · go_wp2_with (at_builtin; refine append_one rfl _ _ _ rfl Try.underlying26 (i : Int) E5.out rfl _ rfl rfl hl2 ?_; intro v' w7 hown7 hb7)
            have E7 := Lib.hid hown7
            have T7 := Lib.hid (T5'.out.lo hXq hb7)
            have O7 := Lib.hid (O5'.out.belowV hb7 (by intro k hk; simp [Value.ownBlock] at hk; omega))
            clear hown7 hb7 E5 T5' O5'
            go_wp2_with fail
            go_roundw
            case rel => exact ⟨i + 1, es ++ [(i : Int)], by omega, by go_num, Lib.hid (by rw [List.length_append]; have := hes.out; simp; omega), E7, O7, T7⟩
            case measure => simp [intOf]; omega
          · have k0 : ((k : Int) == 0) = false := by simp; omega
            go_wp2_with fail
            go_roundw
            case rel => exact ⟨i + 1, es, by omega, by go_num, Lib.hid (by have := hes.out; omega), E5, O5', T5'⟩
            case measure => simp [intOf]; omega
        · have hli : ¬ (i : Int) < (x.length : Int) := by omega
          have hel : es.length ≤ 1500 := by have := hes.out; omega
          go_wp2_with fail
          refine (next_any hT.out.src 30 (by omega) (by omega)).mono ?_
          rintro e w5 ⟨k, rfl, hk, hd5, hs5⟩
          have T5' := Lib.hid (hT.out.drS hd5 hs5)
          have O5' := Lib.hid (hO.out.drn hd5 hneg)
          have E5 := Lib.hid (hE.out.dr hd5 hsq)
          clear hd5 hs5 hT hO hE
          have hw4q : w4.heap.size ≤ wq.heap.size := by omega
          have hRw4 : w.heap.size < w4.heap.size := by omega
          rcases (show k = 0 ∨ k = 1 ∨ 2 ≤ k by omega) with rfl | rfl | hk2
          · go_wp2_with (at_builtin; refine append_one rfl _ _ _ rfl Try.underlying26 (x.length : Int) E5.out rfl _ rfl rfl hl2 ?_; intro v' w7 hown7 hb7; refine Hid.out ?_)
            have E7 := Lib.hid hown7
            have T7 := Lib.hid (T5'.out.lo hXq hb7)
            have O7 := Lib.hid (O5'.out.belowV hb7 (by intro k hk; simp [Value.ownBlock] at hk; omega))
            clear hown7 hb7 E5 T5' O5'
            refine Lib.hid ?_
            have r0 := T7.out.res.c0
            have f0 := T7.out.res.fz 0
            have k0' := T7.out.fld.c0
            have r1 := T7.out.res.c1
            have f1 := T7.out.res.fz 1
            have k1' := T7.out.fld.c1
            have r2 := T7.out.res.c2
            have f2 := T7.out.res.fz 2
            have k2' := T7.out.fld.c2
            have r3 := T7.out.res.c3
            have f3 := T7.out.res.fz 3
            have k3' := T7.out.fld.c3
            have r4 := T7.out.res.c4
            have f4 := T7.out.res.fz 4
            have k4' := T7.out.fld.c4
            have r5 := T7.out.res.c5
            have f5 := T7.out.res.fz 5
            have k5' := T7.out.fld.c5
            have FF := Lib.hid (T7.out.res.set p pw g D C N)
            have SF := Lib.hid (setL_src (B := w.heap.size) (p := p) (pw := pw) (g := g) (D := D) (C := C) (N := N) T7.out.src hsz)
            have DF := Lib.hid (setL_dr (B := w.heap.size) (p := p) (pw := pw) (g := g) (D := D) (C := C) (N := N) s T7.out.dr (Nat.le_refl _))
            have OF := Lib.hid ((setL_own (B := w.heap.size) (p := p) (pw := pw) (g := g) (D := D) (C := C) (N := N) O7.out hRw4).lower (C := w.heap.size) (Nat.le_of_lt hRw4))
            have EF := Lib.hid ((setL_own (B := w.heap.size) (p := p) (pw := pw) (g := g) (D := D) (C := C) (N := N) (E7.out.lower (C := w4.heap.size) (by first | exact Nat.le_refl _ | exact hw4q)) hRw4).lower (C := w.heap.size) (Nat.le_of_lt hRw4))
            go_wp2_with fail
            (try simp only [Exit.inBlock, Exit.then])
            exact ret_cell3 HRES.out Try.underlying31 rfl (by kernel_rfl) rfl rfl FF.out.blk ⟨_, _, _, _, _, _, _, _, rfl, DF.out, SF.out, xs, (es ++ [(x.length : Int)]), OF.out, EF.out, by have := hxs.out; (try simp) <;> omega, by (try simp) <;> omega⟩
          · have hl3 : xs.length ≤ 16777216 := by rw [hxs.out]; omega
            have TW := Lib.hid (show Two w5 w4.heap.size (.slice (some ⟨g5, 0, none⟩) x.length cap5) (.slice ae es.length ce) xs es from ⟨O5'.out, E5.out.lower hw4q, fun k h1 h2 => by have := (E5.out.2.lt _ h2).1; simp [Value.ownBlock] at h1; omega⟩)
            go_wp2_with (at_builtin; refine append_one_two rfl _ _ _ rfl Try.underlying26 0 TW.out rfl _ rfl rfl hl3 ?_; intro v' w7 hown7 hb7; refine Hid.out ?_)
            have O7 := Lib.hid hown7.one
            have E7 := Lib.hid hown7.two
            have T7 := Lib.hid (T5'.out.lo hXw4 hb7)
            clear hown7 hb7 E5 T5' O5' TW
            refine Lib.hid ?_
            have r0 := T7.out.res.c0
            have f0 := T7.out.res.fz 0
            have k0' := T7.out.fld.c0
            have r1 := T7.out.res.c1
            have f1 := T7.out.res.fz 1
            have k1' := T7.out.fld.c1
            have r2 := T7.out.res.c2
            have f2 := T7.out.res.fz 2
            have k2' := T7.out.fld.c2
            have r3 := T7.out.res.c3
            have f3 := T7.out.res.fz 3
            have k3' := T7.out.fld.c3
            have r4 := T7.out.res.c4
            have f4 := T7.out.res.fz 4
            have k4' := T7.out.fld.c4
            have r5 := T7.out.res.c5
            have f5 := T7.out.res.fz 5
            have k5' := T7.out.fld.c5
            have FF := Lib.hid (T7.out.res.set p pw g D C N)
            have SF := Lib.hid (setL_src (B := w.heap.size) (p := p) (pw := pw) (g := g) (D := D) (C := C) (N := N) T7.out.src hsz)
            have DF := Lib.hid (setL_dr (B := w.heap.size) (p := p) (pw := pw) (g := g) (D := D) (C := C) (N := N) s T7.out.dr (Nat.le_refl _))
            have OF := Lib.hid ((setL_own (B := w.heap.size) (p := p) (pw := pw) (g := g) (D := D) (C := C) (N := N) O7.out hRw4).lower (C := w.heap.size) (Nat.le_of_lt hRw4))
            have EF := Lib.hid ((setL_own (B := w.heap.size) (p := p) (pw := pw) (g := g) (D := D) (C := C) (N := N) (E7.out.lower (C := w4.heap.size) (by first | exact Nat.le_refl _ | exact hw4q)) hRw4).lower (C := w.heap.size) (Nat.le_of_lt hRw4))
            go_wp2_with fail
            (try simp only [Exit.inBlock, Exit.then])
            exact ret_cell3 HRES.out Try.underlying31 rfl (by kernel_rfl) rfl rfl FF.out.blk ⟨_, _, _, _, _, _, _, _, rfl, DF.out, SF.out, (xs ++ [0]), es, OF.out, EF.out, by have := hxs.out; (try simp) <;> omega, by (try simp) <;> omega⟩
          · have q0 : ((k : Int) == 0) = false := by simp; omega
            have q1 : ((k : Int) == 1) = false := by simp; omega
            have r0 := T5'.out.res.c0
            have f0 := T5'.out.res.fz 0
            have k0' := T5'.out.fld.c0
            have r1 := T5'.out.res.c1
            have f1 := T5'.out.res.fz 1
            have k1' := T5'.out.fld.c1
            have r2 := T5'.out.res.c2
            have f2 := T5'.out.res.fz 2
            have k2' := T5'.out.fld.c2
            have r3 := T5'.out.res.c3
            have f3 := T5'.out.res.fz 3
            have k3' := T5'.out.fld.c3
            have r4 := T5'.out.res.c4
            have f4 := T5'.out.res.fz 4
            have k4' := T5'.out.fld.c4
            have r5 := T5'.out.res.c5
            have f5 := T5'.out.res.fz 5
            have k5' := T5'.out.fld.c5
            have FF := Lib.hid (T5'.out.res.set p pw g D C N)
            have SF := Lib.hid (setL_src (B := w.heap.size) (p := p) (pw := pw) (g := g) (D := D) (C := C) (N := N) T5'.out.src hsz)
            have DF := Lib.hid (setL_dr (B := w.heap.size) (p := p) (pw := pw) (g := g) (D := D) (C := C) (N := N) s T5'.out.dr (Nat.le_refl _))
            have OF := Lib.hid ((setL_own (B := w.heap.size) (p := p) (pw := pw) (g := g) (D := D) (C := C) (N := N) O5'.out hRw4).lower (C := w.heap.size) (Nat.le_of_lt hRw4))
            have EF := Lib.hid ((setL_own (B := w.heap.size) (p := p) (pw := pw) (g := g) (D := D) (C := C) (N := N) (E5.out.lower (C := w4.heap.size) (by first | exact Nat.le_refl _ | exact hw4q)) hRw4).lower (C := w.heap.size) (Nat.le_of_lt hRw4))
            go_wp2_with fail
            (try simp only [Exit.inBlock, Exit.then])
            exact ret_cell3 HRES.out Try.underlying31 rfl (by kernel_rfl) rfl rfl FF.out.blk ⟨_, _, _, _, _, _, _, _, rfl, DF.out, SF.out, xs, es, OF.out, EF.out, by have := hxs.out; (try simp) <;> omega, by (try simp) <;> omega⟩
theorem LSt.lo {w0 W W' : World} {R X s : Nat} {p pw g D C N : Int} (h : LSt w0 W R X s p pw g D C N) {M : Nat} (hM : X < M) (hb : Below M W W') : LSt w0 W' R X s p pw g D C N := by
  have h1 := h.rs; have h2 := h.sx; have h0 := h.r0
  exact ⟨h.res.below hb (by omega), h.fld.below hb hM, h.src.lo (by omega) hb, h.bel.trans (hb.mono (by omega)), h.r0, h.rs, h.sx⟩
set_option maxHeartbeats 8000000 in
set_option maxRecDepth 100000 in
theorem DrawStreamDamage_any {w : World} {c0 : Option Addr} {n0 cap0 : Nat} {bs : List Int} (hr : RowB w c0 n0 bs) :
    Calls Try.prog 43 #[.slice c0 n0 cap0] w fun e w' => ∃ p pw g D C N v v2, e = .returned (.tuple #[lV p pw g D C N, v, v2]) ∧ Below w.heap.size w w' ∧ ∃ zs E, OwnL w' w.heap.size v zs ∧ OwnL w' w.heap.size v2 E ∧ zs.length ≤ 4001 ∧ E.length ≤ 4000 := by
  have B0 := Lib.hid (below1 w (.cells #[.int .i64 0, .int .i64 0, .int .i64 0, .int .i64 0, .int .i64 0, .int .i64 0] LT))
  have HR := Lib.hid (hr.below' B0.out)
  have F0 := Lib.hid (LB.new w 0 0 0 0 0 0)
  have HRES := Lib.hid (show Try.f43.results = #[.cell 2 LT, .tmp 3, .tmp 4] by kernel_rfl)
  clear hr
  go_enter Try.func43, Try.ntmps43
  go_wp2_with fail
  generalize w.alloc (.cells #[.int .i64 0, .int .i64 0, .int .i64 0, .int .i64 0, .int .i64 0, .int .i64 0] LT) = w1 at *
  refine (l01From_any HR.out).mono ?_
  rintro e w2 ⟨s, rfl, hs, hb2, hsrc⟩
  have F2 := Lib.hid (F0.out.below hb2 F0.out.lt)
  have B2 := Lib.hid (B0.out.trans (hb2.mono B0.out.size))
  have hR : w.heap.size < s := Nat.lt_of_lt_of_le F0.out.lt hs
  have S2 := Lib.hid hsrc
  have hs2 : s < w2.heap.size := hsrc.lt
  clear hb2 hsrc F0 B0 HR hs
  go_wp2_with fail
  refine (l07DrawStream_any S2.out).mono ?_
  rintro e w3 ⟨p, pw, g, D, C, N, vS, vE, rfl, hd, hs3, zS, E, hoS, hoE, hlS, hlE⟩
  have T4 := Lib.hid (show LSt w (w3.alloc (.cells #[.int .i64 p, .int .i64 pw, .int .i64 g, .int .i64 D, .int .i64 C, .int .i64 N] LT)) w.heap.size w3.heap.size s p pw g D C N from
    ⟨(F2.out.dr hd (by omega)).below (below1 w3 _) (F2.out.dr hd (by omega)).lt, LB.new w3 p pw g D C N, hs3.alloc _, (B2.out.trans (hd.below (by omega) B2.out.size)).alloc (Nat.le_trans B2.out.size hd.size) _, rfl, hR, hs3.lt⟩)
  have E4 := Lib.hid (hoE.below (below1 w3 (.cells #[.int .i64 p, .int .i64 pw, .int .i64 g, .int .i64 D, .int .i64 C, .int .i64 N] LT)))
  obtain ⟨aS, capS, rfl, -, -, -⟩ := hoS.cap
  obtain ⟨X, hX⟩ : ∃ X, X = w3.heap.size := ⟨_, rfl⟩
  have HV : Hid (∀ k, vE.ownBlock = some k → k < X) := Lib.hid (by intro k hk; rw [hX]; exact (hoE.2.lt k hk).2)
  rw [← hX] at T4
  clear hd hs3 F2 B2 S2 hoS hoE
  have hw4s : (w3.alloc (.cells #[.int .i64 p, .int .i64 pw, .int .i64 g, .int .i64 D, .int .i64 C, .int .i64 N] LT)).heap.size = X + 1 := by rw [hX]; simp
  go_wp2_with fail
  rw [← hX]
  clear hX
  generalize w3.alloc (.cells #[.int .i64 p, .int .i64 pw, .int .i64 g, .int .i64 D, .int .i64 C, .int .i64 N] LT) = w4 at *
  have HW4 := Lib.hid hw4s
  clear hw4s
  have hsX := T4.out.sx
  have hX4 : X < w4.heap.size := T4.out.fld.lt
  have D0 := Lib.hid (OwnL.empty w4 w4.heap.size (Nat.le_refl _) (X + 1) HW4.out.symm)
  have T5 := Lib.hid (T4.out.below (below1 w4 (.cells #[] 2)))
  have E5 := Lib.hid (E4.out.below (below1 w4 (.cells #[] 2)))
  clear T4 E4
  go_loopw [9, 10] (fun vd ti wr => ∃ (i : Nat) (ds : List Int), i ≤ zS.length ∧ ti = .int .i64 i ∧ Hid (ds.length ≤ i) ∧ Hid (OwnL wr w4.heap.size vd ds) ∧ Hid (OwnL wr w2.heap.size vE E) ∧ Hid (LSt w wr w.heap.size X s p pw g D C N)) (fun _ ti _ => zS.length - (intOf ti).toNat)
  case atStart => exact ⟨0, [], by omega, rfl, Lib.hid (Nat.le_refl 0), D0, E5, T5⟩
  case round =>
    clear D0 E5 T5
    obtain ⟨i, ds, hi, rfl, hds, hD, hE, hT⟩ := hrel
    obtain ⟨ae, ce, rfl, hce, hcae, hoe⟩ := hD.out.cap
    clear hcae hoe
    have hl2 : ds.length ≤ 16777216 := by have := hds.out; omega
    by_cases hlt : i < zS.length
    · have hli : (i : Int) < (zS.length : Int) := by omega
      go_wp2_with fail
      refine (next_any hT.out.src 8 (by omega) (by omega)).mono ?_
      rintro e w5 ⟨k, rfl, hk, hd5, hs5⟩
      have T6 := Lib.hid (hT.out.drS hd5 hs5)
      have D6 := Lib.hid (hD.out.dr hd5 (by omega))
      have E6 := Lib.hid (hE.out.dr hd5 hs2)
      clear hd5 hs5 hT hD hE
      rcases (show k = 0 ∨ 1 ≤ k by omega) with rfl | hk1
      · go_wp2_with (at_builtin; refine append_one rfl _ _ _ rfl Try.underlying26 (i : Int) D6.out rfl _ rfl rfl hl2 ?_; intro v' w7 hown7 hb7)
        have D7 := Lib.hid hown7
        have T7 := Lib.hid (T6.out.lo hX4 hb7)
        have E7 := Lib.hid (E6.out.belowV hb7 (fun k hk => Nat.lt_trans (HV.out k hk) hX4))
        clear hown7 hb7 E6 T6 D6
        go_wp2_with fail
        go_roundw
        case rel => exact ⟨i + 1, ds ++ [(i : Int)], by omega, by go_num, Lib.hid (by rw [List.length_append]; have := hds.out; simp; omega), D7, E7, T7⟩
        case measure => simp [intOf]; omega
      · have k0 : ((k : Int) == 0) = false := by simp; omega
        go_wp2_with fail
        go_roundw
        case rel => exact ⟨i + 1, ds, by omega, by go_num, Lib.hid (by have := hds.out; omega), D6, E6, T6⟩
        case measure => simp [intOf]; omega
    · have hli : ¬ (i : Int) < (zS.length : Int) := by omega
      have hel : ds.length ≤ 4000 := by have := hds.out; omega
      go_wp2_with fail
      refine (next_any hT.out.src 30 (by omega) (by omega)).mono ?_
      rintro e w5 ⟨k, rfl, hk, hd5, hs5⟩
      have T6 := Lib.hid (hT.out.drS hd5 hs5)
      have D6 := Lib.hid (hD.out.dr hd5 (by omega))
      have E6 := Lib.hid (hE.out.dr hd5 hs2)
      clear hd5 hs5 hT hD hE
      have hRw2 : w.heap.size < w2.heap.size := by omega
      have hw24 : w2.heap.size ≤ w4.heap.size ∨ w4.heap.size < w2.heap.size := by omega
      have hRw4 : w.heap.size < w4.heap.size := by omega
      rcases (show k = 0 ∨ 1 ≤ k by omega) with rfl | hk1
      · go_wp2_with (at_builtin; refine append_one rfl _ _ _ rfl Try.underlying26 (-1) D6.out rfl _ rfl rfl hl2 ?_; intro v' w7 hown7 hb7; refine Hid.out ?_)
        have D7 := Lib.hid hown7
        have T7 := Lib.hid (T6.out.lo hX4 hb7)
        have E7 := Lib.hid (E6.out.belowV hb7 (fun k hk => Nat.lt_trans (HV.out k hk) hX4))
        clear hown7 hb7 E6 T6 D6
        refine Lib.hid ?_
        have r0 := T7.out.res.c0
        have f0 := T7.out.res.fz 0
        have k0' := T7.out.fld.c0
        have r1 := T7.out.res.c1
        have f1 := T7.out.res.fz 1
        have k1' := T7.out.fld.c1
        have r2 := T7.out.res.c2
        have f2 := T7.out.res.fz 2
        have k2' := T7.out.fld.c2
        have r3 := T7.out.res.c3
        have f3 := T7.out.res.fz 3
        have k3' := T7.out.fld.c3
        have r4 := T7.out.res.c4
        have f4 := T7.out.res.fz 4
        have k4' := T7.out.fld.c4
        have r5 := T7.out.res.c5
        have f5 := T7.out.res.fz 5
        have k5' := T7.out.fld.c5
        have FF := Lib.hid (T7.out.res.set p pw g D C N)
        have BF := Lib.hid (setL_below (B := w.heap.size) (p := p) (pw := pw) (g := g) (D := D) (C := C) (N := N) T7.out.bel (Nat.le_refl _))
        have OF := Lib.hid ((setL_own (B := w.heap.size) (p := p) (pw := pw) (g := g) (D := D) (C := C) (N := N) D7.out hRw4).lower (C := w.heap.size) (Nat.le_of_lt hRw4))
        have EF := Lib.hid ((setL_own (B := w.heap.size) (p := p) (pw := pw) (g := g) (D := D) (C := C) (N := N) E7.out hRw2).lower (C := w.heap.size) (Nat.le_of_lt hRw2))
        go_wp2_with fail
        (try simp only [Exit.inBlock, Exit.then])
        exact ret_cell3 HRES.out Try.underlying31 rfl (by kernel_rfl) rfl rfl FF.out.blk ⟨_, _, _, _, _, _, _, _, rfl, BF.out, (ds ++ [-1]), E, OF.out, EF.out, by (try simp) <;> omega, by omega⟩
      · have k0 : ((k : Int) == 0) = false := by simp; omega
        have r0 := T6.out.res.c0
        have f0 := T6.out.res.fz 0
        have k0' := T6.out.fld.c0
        have r1 := T6.out.res.c1
        have f1 := T6.out.res.fz 1
        have k1' := T6.out.fld.c1
        have r2 := T6.out.res.c2
        have f2 := T6.out.res.fz 2
        have k2' := T6.out.fld.c2
        have r3 := T6.out.res.c3
        have f3 := T6.out.res.fz 3
        have k3' := T6.out.fld.c3
        have r4 := T6.out.res.c4
        have f4 := T6.out.res.fz 4
        have k4' := T6.out.fld.c4
        have r5 := T6.out.res.c5
        have f5 := T6.out.res.fz 5
        have k5' := T6.out.fld.c5
        have FF := Lib.hid (T6.out.res.set p pw g D C N)
        have BF := Lib.hid (setL_below (B := w.heap.size) (p := p) (pw := pw) (g := g) (D := D) (C := C) (N := N) T6.out.bel (Nat.le_refl _))
        have OF := Lib.hid ((setL_own (B := w.heap.size) (p := p) (pw := pw) (g := g) (D := D) (C := C) (N := N) D6.out hRw4).lower (C := w.heap.size) (Nat.le_of_lt hRw4))
        have EF := Lib.hid ((setL_own (B := w.heap.size) (p := p) (pw := pw) (g := g) (D := D) (C := C) (N := N) E6.out hRw2).lower (C := w.heap.size) (Nat.le_of_lt hRw2))
        go_wp2_with fail
        (try simp only [Exit.inBlock, Exit.then])
        exact ret_cell3 HRES.out Try.underlying31 rfl (by kernel_rfl) rfl rfl FF.out.blk ⟨_, _, _, _, _, _, _, _, rfl, BF.out, ds, E, OF.out, EF.out, by (try simp) <;> omega, by omega⟩
end Go.Proofs.Ytfhkkpfiflgofaa
