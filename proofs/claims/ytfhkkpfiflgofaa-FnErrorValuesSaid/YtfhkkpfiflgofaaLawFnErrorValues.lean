/-
  The walk of the law FnErrorValues.
-/
import Derived.Test.YtfhkkpfiflgofaaDrawV
import Derived.Test.YtfhkkpfiflgofaaLike
import Derived.Test.YtfhkkpfiflgofaaErrVal
import Derived.Test.YtfhkkpfiflgofaaSyndOf
import Derived.Test.YtfhkkpfiflgofaaPeel
import Derived.Test.YtfhkkpfiflgofaaFrameB
namespace Go.Proofs.Ytfhkkpfiflgofaa
open Go.RowKit
set_option linter.unusedVariables false

/-- The plain law. -/
theorem errvals_plain {p pw g l c : Int} {S idx : List Int} (h : evC p pw g l c S idx = 0) :
    ∃ L : Nat, l = (L : Int) ∧ L ≤ 255 ∧ RisTo 0 ((L : Int) - 1) idx idx.length ∧ (evR p pw g l c S idx).length = idx.length ∧ idx.length ≤ 300 ∧ codeC p pw g l c [spTo L idx (evR p pw g l c S idx) idx.length] = 0 ∧ soR p pw g l c (spTo L idx (evR p pw g l c S idx) idx.length) = S := by
  have hv : validC p pw g l c = true := by
    cases hv : validC p pw g l c
    · have := (ev_bad (S := S) (idx := idx) hv).1; omega
    · rfl
  have h2 : (S.length : Int) = c ∧ allB (ffOf p pw g) S = true := Classical.byContradiction fun hn => by have := (ev_range (idx := idx) hv hn).1; omega
  have h3 : risB 0 (l - 1) idx = true := by
    cases h3 : risB 0 (l - 1) idx
    · have := (ev_state hv h2 h3).1; omega
    · rfl
  have h4 : (idx.length : Int) ≤ c := Classical.byContradiction fun hn => by have := (ev_limit hv h2 h3 hn).1; omega
  obtain ⟨V, hs, hS, hy, hn⟩ := ev_V hv h2 h3 h4
  obtain ⟨hvB, hc1, hc2, hcl, hl1, hlz⟩ := validC_iff hv
  have hb : valB V l c.toNat S idx = true := by
    cases hb : valB V l c.toNat S idx
    · have := (hn hb).1; omega
    · rfl
  have he := (hy hb).2
  have hsy := of_decide_eq_true hb
  have hris := risB_iff h3
  have hvl : (evR p pw g l c S idx).length = idx.length := by rw [he]; unfold valsL; simp
  have hsp : spread l.toNat idx (valsL V l c.toNat S idx) = spTo l.toNat idx (evR p pw g l c S idx) idx.length := by rw [he]; rfl
  have hel : VF.els V (spTo l.toNat idx (evR p pw g l c S idx) idx.length) := by rw [← hsp]; exact spTo_els (valsL_els V _ _ _ _) _
  have hcc : codeC p pw g l c [spTo l.toNat idx (evR p pw g l c S idx) idx.length] = 0 := codeC_one hv (by
    unfold wordB
    rw [Bool.and_eq_true, decide_eq_true_eq]
    exact ⟨by rw [spTo_length]; omega, allB_iff.2 (by rw [← hs.sf.hV]; exact hel)⟩)
  refine ⟨l.toNat, by omega, by omega, by rw [show ((l.toNat : Nat) : Int) - 1 = l - 1 by omega]; exact hris, hvl, by omega, hcc, ?_⟩
  unfold soR
  rw [if_pos hcc, ← hs.sf.hV, ← hsp]
  exact hsy
set_option maxHeartbeats 8000000 in
set_option maxRecDepth 100000 in
theorem lawFnErrorValues (s0 : Option Addr) (n0 cap0 : Nat) (z0 : List Int) (w : World) (hr : RowB w s0 n0 z0) :
    Calls Try.prog 5 #[.slice s0 n0 cap0] w fun e w' => e = .returned (.bool true) ∧ Below w.heap.size w w' := by
  have HR := Lib.hid hr
  clear hr
  go_enter Try.func5, Try.ntmps5
  go_wp2_with fail
  refine (bigL_any _ _ _ _).mono ?_
  rintro e w1 ⟨rfl, rfl⟩
  by_cases hbig : (4096 : Int) < (n0 : Int)
  · go_wp2_with fail
    go_ret
    exact ⟨rfl, Below.refl _ _⟩
  go_wp2_with fail
  refine (DrawErrorValues_any HR.out).mono ?_
  rintro e w1 ⟨p, pw, g, l, c, vS, vI, rfl, hb1, zS, zI, hoS, hoI, hlS, hlI⟩
  obtain ⟨aS, capS, rfl, hcpS, hcaS, hoaS⟩ := hoS.cap
  have CAS := Lib.hid hcaS
  have CPS := Lib.hid hcpS
  have RS := Lib.hid (hoaS.row.below' (below1 w1 (.cells #[.int .i64 p, .int .i64 pw, .int .i64 g, .int .i64 l, .int .i64 c] CT)))
  clear hcaS hoaS hoS hcpS
  obtain ⟨aI, capI, rfl, hcpI, hcaI, hoaI⟩ := hoI.cap
  have CAI := Lib.hid hcaI
  have CPI := Lib.hid hcpI
  have RI := Lib.hid (hoaI.row.below' (below1 w1 (.cells #[.int .i64 p, .int .i64 pw, .int .i64 g, .int .i64 l, .int .i64 c] CT)))
  clear hcaI hoaI hoI hcpI
  have B2 := Lib.hid (hb1.alloc hb1.size (.cells #[.int .i64 p, .int .i64 pw, .int .i64 g, .int .i64 l, .int .i64 c] CT))
  have X2 := Lib.hid (CB.new w1 p pw g l c)
  obtain ⟨X, hX⟩ : ∃ X, X = w1.heap.size := ⟨_, rfl⟩
  rw [← hX] at X2
  clear hb1
  go_wp2_with fail
  rw [← hX]
  clear hX
  generalize w1.alloc (.cells #[.int .i64 p, .int .i64 pw, .int .i64 g, .int .i64 l, .int .i64 c] CT) = w2 at *
  have k0 := X2.out.c0
  have k1 := X2.out.c1
  have k2 := X2.out.c2
  have k3 := X2.out.c3
  have k4 := X2.out.c4
  go_wp2_with fail
  refine (implErrorValues_any p pw g l c _ RS.out RI.out).mono ?_
  rintro e w3 ⟨vx, rfl, hb3, hrG⟩
  have B3 := Lib.hid (B2.out.trans (hb3.mono B2.out.size))
  have X3 := Lib.hid (X2.out.below hb3 X2.out.lt)
  have RS' := Lib.hid (RS.out.below' hb3)
  have RI' := Lib.hid (RI.out.below' hb3)
  clear RS RI k0 k1 k2 k3 k4 hb3 B2 X2
  have RS := RS'
  have RI := RI'
  clear RS' RI'
  obtain ⟨aG, capG, rfl, hcaG, hoG⟩ := hrG
  have CAG := Lib.hid hcaG
  have RG := Lib.hid hoG.row
  clear hcaG hoG
  have k0 := X3.out.c0
  have k1 := X3.out.c1
  have k2 := X3.out.c2
  have k3 := X3.out.c3
  have k4 := X3.out.c4
  go_wp2_with fail
  refine (specErrorValues_any p pw g l c _ RS.out CAS.out CPS.out RI.out).mono ?_
  rintro e w4 ⟨vy, rfl, hb4, hrC⟩
  have B4 := Lib.hid (B3.out.trans (hb4.mono B3.out.size))
  have X4 := Lib.hid (X3.out.below hb4 X3.out.lt)
  have RS' := Lib.hid (RS.out.below' hb4)
  have RI' := Lib.hid (RI.out.below' hb4)
  have RG' := Lib.hid (RG.out.below' hb4)
  clear RS RI RG k0 k1 k2 k3 k4 hb4 B3 X3
  have RS := RS'
  have RI := RI'
  have RG := RG'
  clear RS' RI' RG'
  obtain ⟨aC, capC, rfl, hcaC, hoC⟩ := hrC
  have CAC := Lib.hid hcaC
  have RC := Lib.hid hoC.row
  clear hcaC hoC
  have k0 := X4.out.c0
  have k1 := X4.out.c1
  have k2 := X4.out.c2
  have k3 := X4.out.c3
  have k4 := X4.out.c4
  have HP := Lib.hid (fun h => errvals_plain (p := p) (pw := pw) (g := g) (l := l) (c := c) (S := zS) (idx := zI) h)
  generalize evR p pw g l c zS zI = x at *
  generalize evC p pw g l c zS zI = cd at *
  have hq : (cd != cd) = false := by simp
  go_wp2_with fail
  refine (likeInts_any RG.out RC.out).mono ?_
  rintro e w5 ⟨rfl, hb5⟩
  have B5 := Lib.hid (B4.out.trans (hb5.mono B4.out.size))
  have X5 := Lib.hid (X4.out.below hb5 X4.out.lt)
  have RS' := Lib.hid (RS.out.below' hb5)
  have RI' := Lib.hid (RI.out.below' hb5)
  have RG' := Lib.hid (RG.out.below' hb5)
  have RC' := Lib.hid (RC.out.below' hb5)
  clear RS RI RG RC k0 k1 k2 k3 k4 hb5 B4 X4
  have RS := RS'
  have RI := RI'
  have RG := RG'
  have RC := RC'
  clear RS' RI' RG' RC'
  simp only [decide_true]
  have k0 := X5.out.c0
  have k1 := X5.out.c1
  have k2 := X5.out.c2
  have k3 := X5.out.c3
  have k4 := X5.out.c4
  by_cases hcd : cd = 0
  rotate_left
  · have hne : (cd != 0) = true := by simp [hcd]
    clear hcd
    go_wp2_with fail
    go_ret
    exact ⟨rfl, B5.out⟩
  have hne : (cd != 0) = false := by simp [hcd]
  clear RC
  obtain ⟨L, rfl, hL, hris, hxl, hil, e1, e2⟩ := HP.out hcd
  have HRIS := Lib.hid hris
  have E1 := Lib.hid e1
  have E2 := Lib.hid e2
  clear hcd HP hris e1 e2
  obtain ⟨nI, hnI⟩ : ∃ nI, zI.length = nI := ⟨_, rfl⟩
  rw [hnI] at RI hxl hil HRIS E1 E2 ⊢
  rw [hxl] at RG ⊢
  have HXL := Lib.hid hxl
  have HNI := Lib.hid hnI
  clear hxl hnI
  have hmk := fun w => run_make_ints w 26 Try.underlying26 (L : Int) (by omega) (by omega)
  simp only [Int.toNat_natCast] at hmk
  have O6 := Lib.hid (OwnL.zeros w5 w5.heap.size (Nat.le_refl _) L (by omega))
  have B6 := Lib.hid (B5.out.alloc B5.out.size (.cells (madeCells #[.int .i64 0] L) 2))
  have bm := below1 w5 (.cells (madeCells #[.int .i64 0] L) 2)
  have X6 := Lib.hid (X5.out.below bm X5.out.lt)
  have RI6 := Lib.hid (RI.out.below' bm)
  have RG6 := Lib.hid (RG.out.below' bm)
  have RS6 := Lib.hid (RS.out.below' bm)
  have BW := Lib.hid (below1 w5 (.cells (madeCells #[.int .i64 0] L) 2))
  have hX5 := X5.out.lt
  clear bm
  go_wp2_with fail
  clear hmk k0 k1 k2 k3 k4
  obtain ⟨M, hM⟩ : ∃ M, M = w5.heap.size := ⟨_, rfl⟩
  go_loopw [11] (fun t wr => ∃ k : Nat, k ≤ nI ∧ t = .int .i64 k ∧ Hid (OwnL wr w5.heap.size (.slice (some ⟨w5.heap.size, 0, none⟩) L L) (spTo L zI x k)) ∧ Hid (Below w5.heap.size w5 wr)) (fun t _ => nI - (intOf t).toNat)
  case atStart => exact ⟨0, by omega, rfl, O6, BW⟩
  case round =>
    obtain ⟨k, hk, rfl, ho, hb⟩ := hrel
    by_cases hlt : k < nI
    · have hkI : (k : Int) < (nI : Int) := by omega
      obtain ⟨hi0, hi1, -⟩ := HRIS.out k hlt
      obtain ⟨bI, oI, rfl, -, hcI⟩ := (RI.out.below' hb.out).at' (by omega)
      obtain ⟨bG, oG, rfl, -, hcG⟩ := (RG.out.below' hb.out).at' (by omega)
      have hci := keep_cell (Drew.below (drew1 wr) wr.heap.size) (hcI k hlt)
      have hcg := keep_cell (Drew.below (drew1 wr) wr.heap.size) (hcG k hlt)
      have HST := Lib.hid (show spTo L zI x (k + 1) = (spTo L zI x k).set (gi zI k).toNat (gi x k) from rfl)
      have hsl := spTo_length L zI x k
      obtain ⟨i, hi⟩ : ∃ i : Nat, gi zI k = (i : Int) := ⟨(gi zI k).toNat, by omega⟩
      rw [hi] at hci hi0 hi1 HST
      rw [Int.toNat_natCast] at HST
      have hiL : i < L := by omega
      have hiI : (i : Int) < (L : Int) := by omega
      obtain ⟨g1, cp1, cur, e1, hg1, hg2, hg3, -, hoa⟩ := ho.out.form (by omega)
      simp only [Value.slice.injEq, Option.some.injEq, Addr.mk.injEq, and_true] at e1
      obtain ⟨rfl, -, rfl⟩ := e1
      have fzz : wr.drew.frozen? ⟨w5.heap.size, i, none⟩ = false := by
        rw [(Drew.below (drew1 wr) wr.heap.size).frozen (p := ⟨w5.heap.size, i, none⟩) hg2]; unfold World.frozen?; rw [hg3]; simp
      obtain ⟨b2, o2, e2', _, hcs2⟩ := hoa.row.at' (by omega)
      cases e2'
      have hcell2 := keep_cell (Drew.below (drew1 wr) wr.heap.size) (hcs2 i (by omega))
      rw [Nat.zero_add] at hcell2
      have OD := Lib.hid (ho.out.below (Drew.below (drew1 wr) _))
      have BD := Lib.hid (hb.out.trans ((Drew.below (drew1 wr) wr.heap.size).mono hb.out.size))
      have HSL := Lib.hid hsl
      clear hcI hcG hi hcs2 hoa hg3 hsl
      generalize gi x k = z at *
      go_wp2_with fail
      refine wp_region_lastW (S := (fun w' => w'.cell? ⟨bI, oI + k, none⟩ = some (.int .i64 (i : Int)) ∧ w'.cell? ⟨bG, oG + k, none⟩ = some (.int .i64 z))) 10 (by kernel_rfl) rfl (by kernel_rfl) ?_ (fun hHeld => ?_)
      · (try dsimp only); exact ⟨hci, hcg⟩
      simp only [List.take_succ_cons, List.take_zero]
      refine wpAnyH_take (i := 0) (oi := _) (v := ?_) rfl (by kernel_rfl) (by kernel_rfl) (by kernel_rfl) (fun _ _ _ h => h) (Or.inl ⟨by rfl, ?_⟩) hHeld ?_
      rotate_left
      · intro w0 hSw; (try dsimp only at hSw); go_simp; (try with_reducible rfl)
      (try dsimp only [Act.put, List.setIfInBounds_toArray, List.set_cons_zero, List.set_cons_succ])
      refine wpAnyH_take (i := 1) (oi := _) (v := ?_) rfl (by kernel_rfl) (by kernel_rfl) (by kernel_rfl) (fun _ _ _ h => h) (Or.inl ⟨by rfl, ?_⟩) hHeld ?_
      rotate_left
      · intro w0 hSw; (try dsimp only at hSw); go_simp; (try with_reducible rfl)
      (try dsimp only [Act.put, List.setIfInBounds_toArray, List.set_cons_zero, List.set_cons_succ])
      refine wpAnyH_take (i := 2) (oi := _) (v := ?_) rfl (by kernel_rfl) (by kernel_rfl) (by kernel_rfl) (fun _ _ _ h => h) (Or.inl ⟨by rfl, ?_⟩) hHeld ?_
      rotate_left
      · intro w0 hSw; (try dsimp only at hSw); go_simp; (try with_reducible rfl)
      (try dsimp only [Act.put, List.setIfInBounds_toArray, List.set_cons_zero, List.set_cons_succ])
      refine wpAnyH_take (i := 3) (oi := _) (v := ?_) rfl (by kernel_rfl) (by kernel_rfl) (by kernel_rfl) (fun _ _ _ h => h) (Or.inl ⟨by rfl, ?_⟩) hHeld ?_
      rotate_left
      · intro w0 hSw; (try dsimp only at hSw); go_simp; (try with_reducible rfl)
      (try dsimp only [Act.put, List.setIfInBounds_toArray, List.set_cons_zero, List.set_cons_succ])
      refine wpAnyH_take (i := 4) (oi := _) (v := ?_) rfl (by kernel_rfl) (by kernel_rfl) (by kernel_rfl) (fun _ _ _ h => h) (Or.inl ⟨by rfl, ?_⟩) hHeld ?_
      rotate_left
      · intro w0 hSw; (try dsimp only at hSw); go_simp; (try with_reducible rfl)
      (try dsimp only [Act.put, List.setIfInBounds_toArray, List.set_cons_zero, List.set_cons_succ])
      refine wpAnyH_take (i := 5) (oi := _) (v := ?_) rfl (by kernel_rfl) (by kernel_rfl) (by kernel_rfl) (fun _ _ _ h => h) (Or.inl ⟨by rfl, ?_⟩) hHeld ?_
      rotate_left
      · intro w0 hSw; (try dsimp only at hSw); go_simp; (try with_reducible rfl)
      (try dsimp only [Act.put, List.setIfInBounds_toArray, List.set_cons_zero, List.set_cons_succ])
      refine wpAnyH_take (i := 6) (oi := _) (v := ?_) rfl (by kernel_rfl) (by kernel_rfl) (by kernel_rfl) (fun _ _ _ h => h) (Or.inl ⟨by rfl, ?_⟩) hHeld ?_
      rotate_left
      · intro w0 hSw; (try dsimp only at hSw); go_simp; (try with_reducible rfl)
      (try dsimp only [Act.put, List.setIfInBounds_toArray, List.set_cons_zero, List.set_cons_succ])
      refine wpAnyH_take (i := 7) (oi := _) (v := ?_) rfl (by kernel_rfl) (by kernel_rfl) (by kernel_rfl) (fun _ _ _ h => h) (Or.inl ⟨by rfl, ?_⟩) hHeld ?_
      rotate_left
      · intro w0 hSw; (try dsimp only at hSw); go_simp; (try with_reducible rfl)
      (try dsimp only [Act.put, List.setIfInBounds_toArray, List.set_cons_zero, List.set_cons_succ])
      refine wpAnyH_take (i := 8) (oi := _) (v := ?_) rfl (by kernel_rfl) (by kernel_rfl) (by kernel_rfl) (fun _ _ _ h => h) (Or.inl ⟨by rfl, ?_⟩) hHeld ?_
      rotate_left
      · intro w0 hSw; (try dsimp only at hSw); go_simp; (try with_reducible rfl)
      (try dsimp only [Act.put, List.setIfInBounds_toArray, List.set_cons_zero, List.set_cons_succ])
      refine wpAnyH_take (i := 9) (oi := _) (v := ?_) rfl (by kernel_rfl) (by kernel_rfl) (by kernel_rfl) (fun _ _ _ h => h) (Or.inl ⟨by rfl, ?_⟩) hHeld ?_
      rotate_left
      · intro w0 hSw; (try dsimp only at hSw); go_simp; (try with_reducible rfl)
      (try dsimp only [Act.put, List.setIfInBounds_toArray, List.set_cons_zero, List.set_cons_succ])
      refine wpAnyH_done (by kernel_rfl) (lastQ_normalW ?_) _
      have OF := Lib.hid (OD.out.set (k := i) (by rw [HSL.out]; exact hiL) z)
      have BF := Lib.hid (BD.out.setCell (p := ⟨w5.heap.size, i, none⟩) (Nat.le_refl _) (.int .i64 z))
      clear OD BD hHeld hci hcg
      go_wp2_with fail
      go_roundw
      case rel => exact ⟨k + 1, by omega, by go_num, Lib.hid (by rw [HST.out]; exact OF.out), BF⟩
      case measure => simp [intOf]; omega
    · obtain rfl : k = nI := by omega
      have hbb := hb.out
      have X7 := Lib.hid (X5.out.below hbb hX5)
      have B7 := Lib.hid (B5.out.trans (hbb.mono B5.out.size))
      have RS7 := Lib.hid (RS.out.below' hbb)
      have RW7 := Lib.hid ho.out.rowF
      clear hbb hb ho X6 RI6 RG6 RS6 BW O6 B6 RI RG RS B5 X5 hX5
      have k0 := X7.out.c0
      have k1 := X7.out.c1
      have k2 := X7.out.c2
      have k3 := X7.out.c3
      have k4 := X7.out.c4
      go_wp2_with fail
      refine (implSyndromesOf_any p pw g (L : Int) c _ RW7.out).mono ?_
      rintro e w8 ⟨vs, rfl, hb8, hrS⟩
      have B8 := Lib.hid (B7.out.trans (hb8.mono B7.out.size))
      have RS8 := Lib.hid (RS7.out.below' hb8)
      obtain ⟨aS, capS, rfl, hcaS, hoS⟩ := hrS
      have RY := Lib.hid hoS.row
      clear hcaS hoS hb8 k0 k1 k2 k3 k4 RS7 B7 X7 RW7
      rw [E1.out]
      rw [E2.out] at RY
      (try rw [E2.out])
      go_wp2_with fail
      refine (likeInts_any RY.out RS8.out).mono ?_
      rintro e w9 ⟨rfl, hb9⟩
      have B9 := Lib.hid (B8.out.trans (hb9.mono B8.out.size))
      clear hb9 B8
      simp only [decide_true]
      go_wp2_with fail
      go_ret
      exact ⟨by first | rfl | simp, B9.out⟩
end Go.Proofs.Ytfhkkpfiflgofaa
