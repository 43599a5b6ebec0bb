/-
  The parts DrawS, DrawT, DrawU.
-/
import Derived.Test.YtfhkkpfiflgofaaFrameLay
import Derived.Test.YtfhkkpfiflgofaaRnd
/-
  What the laws of streams draw: layouts and data.
-/
namespace Go.Proofs.Ytfhkkpfiflgofaa
open Go.RowKit
set_option linter.unusedVariables false

theorem good19 : goodB (timesB ((2 ^ (4 : Int).toNat : Nat) : Int) 19) (2 ^ (4 : Int).toNat - 1) = true := by
  unfold goodB
  simp only [decide_eq_true_eq]
  refine ⟨fun n hn => ?_, by decide⟩
  have hn : n < 15 := hn
  rcases (show n = 0 ∨ n = 1 ∨ n = 2 ∨ n = 3 ∨ n = 4 ∨ n = 5 ∨ n = 6 ∨ n = 7 ∨ n = 8 ∨ n = 9 ∨ n = 10 ∨ n = 11 ∨ n = 12 ∨ n = 13 ∨ n = 14 by omega) with rfl | rfl | rfl | rfl | rfl | rfl | rfl | rfl | rfl | rfl | rfl | rfl | rfl | rfl | rfl <;> decide
theorem valid19 : validB 2 4 19 = true := by
  unfold validB
  simp only [decide_eq_true_eq]
  exact .inr ⟨rfl, by omega, by omega, by decide, by decide, good19⟩
theorem prime16 : primeB 16 = false := primeB_no (d := 2) (by omega) (by omega) (by decide)
set_option maxHeartbeats 1000000 in
theorem FieldOf16_any (w : World) :
    Calls Try.prog 141 #[.int .i64 16] w fun e w' => ∃ g cd, e = .returned (.tuple #[fV 2 4 g, .int .i64 cd]) ∧ Below w.heap.size w w' ∧ validB 2 4 g = true := by
  have HP := Lib.hid (fun W => l02Prime_any 16 (by omega) (by omega) W)
  rw [prime16] at HP
  have hin : inR 16 3 1021 = true := inR_true (by omega) (by omega)
  have HRES := Lib.hid (show Try.f141.results = #[.cell 2 FTa, .tmp 3] by kernel_rfl)
  go_enter Try.func141, Try.ntmps141
  go_wp2_with fail
  refine (l01In_any _ _ _ _).mono ?_
  rintro e w1 ⟨rfl, rfl⟩
  rw [hin]
  have F0 := Lib.hid (FB.new w 0 0 0)
  have B0 := Lib.hid (below1 w (.cells #[.int .i64 0, .int .i64 0, .int .i64 0] FTa))
  clear hin
  generalize w.alloc (.cells #[.int .i64 0, .int .i64 0, .int .i64 0] FTa) = w1 at *
  go_wp2_with fail
  refine (HP.out _).mono ?_
  rintro e w2 ⟨rfl, rfl⟩
  go_wp2_with fail
  go_loopw [6] (fun t wr => ∃ q : Nat, 3 ≤ q ∧ q ≤ 4 ∧ t = .int .i64 q ∧ Hid (FB wr w.heap.size 0 0 0) ∧ Hid (Below w.heap.size w wr)) (fun t _ => 9 - (intOf t).toNat)
  case atStart => exact ⟨3, by omega, by omega, rfl, F0, B0⟩
  case round =>
    clear F0 B0
    obtain ⟨q, hq1, hq2, rfl, hfb, hb⟩ := hrel
    have hlt : q ≤ 8 := by omega
    obtain ⟨m, hm⟩ : ∃ m : Nat, m = 2 ^ q := ⟨_, rfl⟩
    have hm8 : m ≤ 2 ^ 8 := by rw [hm]; exact Nat.pow_le_pow_right (by omega) hlt
    have hmq : (q = 3 ∧ m = 8) ∨ (q = 4 ∧ m = 16) := by
      rcases (show q = 3 ∨ q = 4 by omega) with rfl | rfl
      · exact .inl ⟨rfl, hm⟩
      · exact .inr ⟨rfl, hm⟩
    have hwm : wrap64 ((2 : Int) ^ q) = (m : Int) := by
      have e : ((2 ^ q : Nat) : Int) = (2 : Int) ^ q := by simp
      rw [← e, ← hm]; exact IntWalk.wrap64_in _ (by omega)
    clear hm
    rcases hmq with ⟨hq, hm3⟩ | ⟨hq, hm4⟩
    · have hnm2 : ((16 : Int) != (m : Int)) = true := by rw [hm3]; decide
      clear hm3
      go_wp2_with fail
      go_roundw
      case rel => exact ⟨q + 1, by omega, by omega, by go_num, hfb, hb⟩
      case measure => simp [intOf]; omega
    · have hnm2 : ((16 : Int) != (m : Int)) = false := by rw [hm4]; decide
      have hq8 : decide ((q : Int) ≤ 8) = true := by simp; omega
      clear hm4 hm8
      go_wp2_with fail
      (try simp only [hwm])
      have HQ4 := Lib.hid hq
      clear hwm hq8 hlt hq hnm2
      go_loopw [7] (fun t wr => ∃ y : Int, 16 ≤ y ∧ y ≤ 19 ∧ t = .int .i64 y ∧ Hid (FB wr w.heap.size 0 0 0) ∧ Hid (Below w.heap.size w wr)) (fun t _ => (32 - intOf t).toNat)
      case atStart => exact ⟨16, by omega, by omega, rfl, hfb, hb⟩
      case round =>
        clear hfb hb
        obtain ⟨y, hy1, hy2, rfl, hfb, hb⟩ := hrel
        have hlt2 : y < 32 := by omega
        have hsz := hfb.out.lt
        have F1 := Lib.hid (hfb.out.below (below1 wr (.cells #[.int .i64 2, .int .i64 q, .int .i64 y] FTa)) hfb.out.lt)
        have B1 := Lib.hid (hb.out.trans ((below1 wr (.cells #[.int .i64 2, .int .i64 q, .int .i64 y] FTa)).mono hb.out.size))
        have X1 := Lib.hid (FB.new wr 2 q y)
        go_wp2_with fail
        refine (isField_any _ _ _ _).mono ?_
        rintro e w5 ⟨rfl, hb5⟩
        have F5 := Lib.hid (F1.out.below hb5 F1.out.lt)
        have B5 := Lib.hid (B1.out.trans (hb5.mono B1.out.size))
        have X5 := X1.out.below hb5 X1.out.lt
        have c0 := X5.c0
        have c1 := X5.c1
        have c2 := X5.c2
        clear X5 hb5
        cases hg : validB 2 q y with
        | true =>
          have HV := Lib.hid (show validB 2 4 y = true by have h := hg; rw [HQ4.out] at h; exact h)
          have HQI := Lib.hid (show (q : Int) = 4 by rw [HQ4.out]; rfl)
          clear hg
          have r0 := F5.out.c0
          have r1 := F5.out.c1
          have r2 := F5.out.c2
          have f0 := F5.out.fz 0
          have f1 := F5.out.fz 1
          have f2 := F5.out.fz 2
          have FS := Lib.hid (F5.out.set 2 q y)
          have BS := Lib.hid (((B5.out.setCell (p := ⟨w.heap.size, 0, none⟩) (Nat.le_refl _) (.int .i64 2)).setCell (p := ⟨w.heap.size, 1, none⟩) (Nat.le_refl _) (.int .i64 q)).setCell (p := ⟨w.heap.size, 2, none⟩) (Nat.le_refl _) (.int .i64 y))
          go_wp2_with fail
          (try simp only [Exit.inBlock, Exit.then])
          exact ret_cell2 HRES.out Try.underlying29 rfl (by kernel_rfl) rfl rfl FS.out.blk ⟨_, _, by rw [HQI.out]; rfl, BS.out, HV.out⟩
        | false =>
          have hy3 : y ≤ 18 := by
            rcases (show y = 19 ∨ y ≤ 18 by omega) with h | h
            · rw [h, HQ4.out] at hg
              rw [show validB 2 ((4 : Nat) : Int) 19 = true from valid19] at hg
              cases hg
            · exact h
          clear hg
          go_wp2_with fail
          go_roundw
          case rel => exact ⟨y + 1, by omega, by omega, rfl, F5, B5⟩
          case measure => simp [intOf]; omega
open Classical in
/-- What is left of the search for a field. -/
noncomputable def mzS (X : Nat) (wr : World) : Nat := if ∃ p pw g, FB wr X p pw g ∧ 11 ≤ szF p pw g then 0 else 1
theorem mzS_no {X : Nat} {wr : World} {p pw g : Int} (h : FB wr X p pw g) (hz : szF p pw g < 11) : mzS X wr = 1 := by
  unfold mzS; rw [if_neg]
  rintro ⟨p', pw', g', h', hz'⟩
  obtain ⟨rfl, rfl, rfl⟩ := h.uniq h'
  omega
theorem mzS_yes {X : Nat} {wr : World} {p pw g : Int} (h : FB wr X p pw g) (hz : 11 ≤ szF p pw g) : mzS X wr = 0 := by
  unfold mzS; rw [if_pos ⟨_, _, _, h, hz⟩]
theorem setL_dr (s : Nat) {w0 w : World} {B : Nat} {p pw g D C N : Int} (h : Dr s w0 w) (hB : w0.heap.size ≤ B) : Dr s w0 (setL w B p pw g D C N) :=
  (((((h.setNew hB 0 _).setNew hB 1 _).setNew hB 2 _).setNew hB 3 _).setNew hB 4 _).setNew hB 5 _
theorem setL_src {s : Nat} {w : World} {B : Nat} {p pw g D C N : Int} (h : Src w s) (hB : s < B) : Src (setL w B p pw g D C N) s := (((((h.other hB 0 _).other hB 1 _).other hB 2 _).other hB 3 _).other hB 4 _).other hB 5 _
set_option maxHeartbeats 4000000 in
set_option maxRecDepth 100000 in
theorem l07Draw_any {w : World} {s : Nat} (hs : Src w s) :
    Calls Try.prog 140 #[.pointer (some ⟨s, 0, none⟩)] w fun e w' => ∃ p pw g D C N, e = .returned (lV p pw g D C N) ∧ 0 ≤ D ∧ D ≤ 2000 ∧ 0 ≤ C ∧ C ≤ 2000 ∧ 0 ≤ N ∧ N ≤ 2000 ∧ Dr s w w' ∧ Src w' s := by
  have F0 := Lib.hid (LB.new w 0 0 0 0 0 0)
  have B0 := Lib.hid (below1 w (.cells #[.int .i64 0, .int .i64 0, .int .i64 0, .int .i64 0, .int .i64 0, .int .i64 0] LT))
  have hsz := hs.lt
  have HS := Lib.hid (hs.below B0.out)
  have D0 := Lib.hid (Dr.of (s := s) B0.out)
  have HRES := Lib.hid (show Try.f140.results = #[.cell 2 LT] by kernel_rfl)
  clear hs B0
  go_enter Try.func140, Try.ntmps140
  go_wp2_with fail
  generalize w.alloc (.cells #[.int .i64 0, .int .i64 0, .int .i64 0, .int .i64 0, .int .i64 0, .int .i64 0] LT) = w1 at *
  refine (l02Draw_any HS.out).mono ?_
  rintro e w2 ⟨p, pw, g, rfl, hfo, hd, hs2⟩
  have HF2 := Lib.hid ((F0.out.dr hd (by omega)).below (below1 w2 (.cells #[.int .i64 p, .int .i64 pw, .int .i64 g] FTa)) (F0.out.dr hd (by omega)).lt)
  have HD2 := Lib.hid ((D0.out.trans hd).alloc (.cells #[.int .i64 p, .int .i64 pw, .int .i64 g] FTa))
  have HS2 := Lib.hid (hs2.alloc (.cells #[.int .i64 p, .int .i64 pw, .int .i64 g] FTa))
  have HX2 := Lib.hid (FB.new w2 p pw g)
  have hx2 : w.heap.size < w2.heap.size := (F0.out.dr hd (by omega)).lt
  obtain ⟨X, hX⟩ : ∃ X, X = w2.heap.size := ⟨_, rfl⟩
  rw [← hX] at HX2 hx2
  have HFO := Lib.hid hfo
  clear hfo hd hs2 F0 HS D0
  go_wp2_with fail
  rw [← hX]
  clear hX
  generalize w2.alloc (.cells #[.int .i64 p, .int .i64 pw, .int .i64 g] FTa) = w3 at *
  go_loopw [] (fun wr => ∃ (p pw g : Int), Hid (FldOk p pw g) ∧ Hid (LB wr w.heap.size 0 0 0 0 0 0) ∧ Hid (FB wr X p pw g) ∧ Hid (Dr s w wr) ∧ Hid (Src wr s)) (fun wr => mzS X wr)
  case atStart => exact ⟨p, pw, g, HFO, HF2, HX2, HD2, HS2⟩
  case round =>
    clear HFO HF2 HX2 HD2 HS2
    obtain ⟨p, pw, g, HFO, HF, HX, HD, HS⟩ := hrel
    have x0 := HX.out.c0
    have x1 := HX.out.c1
    have x2 := HX.out.c2
    have hzb := szF_bd p pw g
    go_wp2_with fail
    refine (l02SizeF_any p pw g HFO.out _).mono ?_
    rintro e w4 ⟨rfl, hb4⟩
    have HF4 := Lib.hid (HF.out.below hb4 HF.out.lt)
    have HX4 := Lib.hid (HX.out.below hb4 HX.out.lt)
    have HD4 := Lib.hid (HD.out.more hb4)
    have HS4 := Lib.hid (HS.out.below hb4)
    have HM := Lib.hid (fun h => mzS_no HX.out h)
    clear hb4 HF HX HD HS x0 x1 x2
    by_cases h5 : szF p pw g < 11
    · have HM1 := Lib.hid (HM.out h5)
      go_wp2_with fail
      refine (FieldOf16_any _).mono ?_
      rintro e w5 ⟨g', cd, rfl, hb5, hv7⟩
      have HF5 := HF4.out.below hb5 HF4.out.lt
      have HX5 := HX4.out.below hb5 HX4.out.lt
      have HD5 := HD4.out.more hb5
      have HS5 := HS4.out.below hb5
      have y0 := HX5.c0
      have y1 := HX5.c1
      have y2 := HX5.c2
      have f0 := HX5.fz 0
      have f1 := HX5.fz 1
      have f2 := HX5.fz 2
      have hsX : s < X := by omega
      have HXn := Lib.hid (HX5.set 2 4 g')
      have HFn := Lib.hid (((HF5.other (H := X) (o := 0) (by omega) (.int .i64 2)).other (H := X) (o := 1) (by omega) (.int .i64 4)).other (H := X) (o := 2) (by omega) (.int .i64 g'))
      have HDn := Lib.hid (((HD5.setNew (B := X) (by omega) 0 (.int .i64 2)).setNew (B := X) (by omega) 1 (.int .i64 4)).setNew (B := X) (by omega) 2 (.int .i64 g'))
      have HSn := Lib.hid (((HS5.other hsX 0 (.int .i64 2)).other hsX 1 (.int .i64 4)).other hsX 2 (.int .i64 g'))
      have h75 : 11 ≤ szF 2 4 g' := by
        unfold szF; rw [if_pos hv7]; unfold ffOf; rw [if_neg (by decide)]; show (11 : Int) ≤ ((2 ^ (4 : Int).toNat : Nat) : Int); decide
      have HM2 := Lib.hid (mzS_yes HXn.out h75)
      have HV7 := Lib.hid hv7
      clear HF5 HX5 HD5 HS5 h75 h5 hv7
      go_wp2_with fail
      go_roundw
      case rel => exact ⟨2, 4, g', Lib.hid (.inl HV7.out), HFn, HXn, HDn, HSn⟩
      case measure => rw [HM1.out, HM2.out]; omega
    · have hX1 := szF_bd p pw g
      clear hzb HM
      go_wp2_with fail
      refine (next_any HS4.out 4 (by omega) (by omega)).mono ?_
      rintro e w5 ⟨c0, rfl, hc0, hd5, hs5⟩
      have HF5 := Lib.hid (HF4.out.dr hd5 (by omega))
      have HX5 := Lib.hid (HX4.out.dr hd5 (by omega))
      have HD5 := Lib.hid (HD4.out.trans hd5)
      have HS5 := Lib.hid hs5
      clear hd5 hs5 HF4 HX4 HD4 HS4
      have x0 := HX5.out.c0
      have x1 := HX5.out.c1
      have x2 := HX5.out.c2
      go_wp2_with fail
      refine (l02SizeF_any p pw g HFO.out _).mono ?_
      rintro e w6 ⟨rfl, hb6⟩
      have HF6 := Lib.hid (HF5.out.below hb6 HF5.out.lt)
      have HX6 := Lib.hid (HX5.out.below hb6 HX5.out.lt)
      have HD6 := Lib.hid (HD5.out.more hb6)
      have HS6 := Lib.hid (HS5.out.below hb6)
      clear hb6 HF5 HX5 HD5 HS5 x0 x1 x2
      have HSZ := Lib.hid (fun W => l02SizeF_any p pw g HFO.out W)
      generalize szF p pw g = z at *
      have h56 : (5 : Int) ≤ z - 6 := by omega
      go_wp2_with fail
      refine (next_any HS6.out 5 (by omega) (by omega)).mono ?_
      rintro e w7 ⟨c1, rfl, hc1, hd7, hs7⟩
      have HF7 := Lib.hid (HF6.out.dr hd7 (by omega))
      have HX7 := Lib.hid (HX6.out.dr hd7 (by omega))
      have HD7 := Lib.hid (HD6.out.trans hd7)
      have HS7 := Lib.hid hs7
      clear hd7 hs7 HF6 HX6 HD6 HS6 h56
      obtain ⟨P, hP⟩ : ∃ P : Nat, (1 + c0) * (1 + c1) = P := ⟨_, rfl⟩
      have hPb : P ≤ 20 := by rw [← hP]; exact Nat.mul_le_mul (show 1 + c0 ≤ 4 by omega) (show 1 + c1 ≤ 5 by omega)
      have hP2 : (1 + (c0 : Int)) * (1 + (c1 : Int)) = (P : Int) := by rw [← hP]; simp
      have hPw : IntKind.i64.wrap (P : Int) = (P : Int) := IntWalk.i64_in _ (by omega)
      have HPW := Lib.hid hPw
      have hsX : X ≠ s := by omega
      have hRs : w.heap.size ≠ s := by omega
      have hRX : X ≠ w.heap.size := by omega
      have x0 := HX7.out.c0
      have x1 := HX7.out.c1
      have x2 := HX7.out.c2
      have TS := Lib.hid (HS7.out.drew (drew1 w7))
      have TX := Lib.hid (HX7.out.below (Drew.below (drew1 w7) _) HX7.out.lt)
      have TF := Lib.hid (HF7.out.below (Drew.below (drew1 w7) _) HF7.out.lt)
      have TD := Lib.hid (HD7.out.drew (drew1 w7))
      have HN1 := Lib.hid (fun (t : Nat) => (l01Next_any TS.out (1 + (c0 : Int)) (by omega)).mono (R' := fun e w' => ∃ x, e = .returned (.int .i64 x) ∧ (0 ≤ x ∧ x ≤ 4) ∧ Dr s w7.drew w' ∧ Src w' s) (fun e w' ⟨x, h1, h2, h3, h4⟩ => ⟨x, h1, (by
        by_cases hq : 1 + (c0 : Int) ≤ 1
        · have := h2.1 hq; omega
        · have := h2.2 (by omega); omega), h3, h4⟩))
      clear hP hPw HF7 HX7 HD7 HS7
      have hz2 : z ≤ 1021 := by omega
      have hz3 : 11 ≤ z := by omega
      obtain ⟨M6, hM6⟩ : ∃ M6 : Int, M6 = (if z - 3 - (1 + (c1 : Int)) < 6 then z - 3 - (1 + (c1 : Int)) else 6) := ⟨_, rfl⟩
      have HM6 := Lib.hid hM6
      have hM6b : 3 ≤ M6 ∧ M6 ≤ 6 := by split at hM6 <;> omega
      have HN2 := Lib.hid (fun (W : World) (hs : Src W s) => (l01Next_any hs M6 (by omega)).mono (R' := fun e w' => ∃ x, e = .returned (.int .i64 x) ∧ (0 ≤ x ∧ x ≤ 5) ∧ Dr s W w' ∧ Src w' s) (fun e w' ⟨x, h1, h2, h3, h4⟩ => ⟨x, h1, (by
        have := h2.2 (by omega); omega), h3, h4⟩))
      clear hM6 hM6b
      have z1 : IntKind.i64.wrap (z - 3) = z - 3 := IntWalk.i64_in _ (by omega)
      have HZ1 := Lib.hid z1
      clear z1
      have z2 : IntKind.i64.wrap (z - 3 - (1 + (c1 : Int))) = z - 3 - (1 + (c1 : Int)) := IntWalk.i64_in _ (by omega)
      have z1 := HZ1.out
      have hPw := HPW.out
      go_wp2_with fail
      refine wp_region_last (S := (fun w' => w'.cell? ⟨X, 0, none⟩ = some (.int .i64 p) ∧ w'.cell? ⟨X, 1, none⟩ = some (.int .i64 pw) ∧ w'.cell? ⟨X, 2, none⟩ = some (.int .i64 g))) 19 (by kernel_rfl) rfl (by kernel_rfl) ?_ (fun hHeld => ?_)
      · (try dsimp only); exact ⟨x0, x1, x2⟩
      simp only [List.take_succ_cons, List.take_zero]
      refine wpAnyH_take (i := 0) (oi := _) (v := ?_) rfl (by kernel_rfl) (by kernel_rfl) (by kernel_rfl) (fun _ _ _ h => h) (Or.inl ⟨by rfl, ?_⟩) hHeld ?_
      rotate_left
      · intro w0 hSw; (try dsimp only at hSw); go_simp; (try with_reducible rfl)
      (try dsimp only [Act.put, List.setIfInBounds_toArray, List.set_cons_zero, List.set_cons_succ])
      refine wpAnyH_take (i := 1) (oi := _) (v := ?_) rfl (by kernel_rfl) (by kernel_rfl) (by kernel_rfl) (fun _ _ _ h => h) (Or.inl ⟨by rfl, ?_⟩) hHeld ?_
      rotate_left
      · intro w0 hSw; (try dsimp only at hSw); go_simp; (try with_reducible rfl)
      (try dsimp only [Act.put, List.setIfInBounds_toArray, List.set_cons_zero, List.set_cons_succ])
      refine wpAnyH_take (i := 2) (oi := _) (v := ?_) rfl (by kernel_rfl) (by kernel_rfl) (by kernel_rfl) (fun _ _ _ h => h) (Or.inl ⟨by rfl, ?_⟩) hHeld ?_
      rotate_left
      · intro w0 hSw; (try dsimp only at hSw); go_simp; (try with_reducible rfl)
      (try dsimp only [Act.put, List.setIfInBounds_toArray, List.set_cons_zero, List.set_cons_succ])
      refine wpAnyH_take (i := 3) (oi := _) (v := ?_) rfl (by kernel_rfl) (by kernel_rfl) (by kernel_rfl) (fun _ _ _ h => h) (Or.inl ⟨by rfl, ?_⟩) hHeld ?_
      rotate_left
      · intro w0 hSw; (try dsimp only at hSw); go_simp; (try with_reducible rfl)
      (try dsimp only [Act.put, List.setIfInBounds_toArray, List.set_cons_zero, List.set_cons_succ])
      refine wpAnyH_take (i := 4) (oi := _) (v := ?_) rfl (by kernel_rfl) (by kernel_rfl) (by kernel_rfl) (fun _ _ _ h => h) (Or.inl ⟨by rfl, ?_⟩) hHeld ?_
      rotate_left
      · intro w0 hSw; (try dsimp only at hSw); go_simp; (try with_reducible rfl)
      (try dsimp only [Act.put, List.setIfInBounds_toArray, List.set_cons_zero, List.set_cons_succ])
      refine wpAnyH_take (i := 5) (oi := _) (v := ?_) rfl (by kernel_rfl) (by kernel_rfl) (by kernel_rfl) (fun _ _ _ h => h) (Or.inl ⟨by rfl, ?_⟩) hHeld ?_
      rotate_left
      · intro w0 hSw; (try dsimp only at hSw); go_simp; (try with_reducible rfl)
      (try dsimp only [Act.put, List.setIfInBounds_toArray, List.set_cons_zero, List.set_cons_succ])
      refine wpAnyH_take (i := 8) (oi := _) (v := ?_) rfl (by kernel_rfl) (by kernel_rfl) (by kernel_rfl) (fun _ _ _ h => h) (Or.inl ⟨by rfl, ?_⟩) hHeld ?_
      rotate_left
      · intro w0 hSw; (try dsimp only at hSw); go_simp; (try with_reducible rfl)
      (try dsimp only [Act.put, List.setIfInBounds_toArray, List.set_cons_zero, List.set_cons_succ])
      refine wpAnyH_take (i := 9) (oi := _) (v := ?_) rfl (by kernel_rfl) (by kernel_rfl) (by kernel_rfl) (fun _ _ _ h => h) (Or.inl ⟨by rfl, ?_⟩) hHeld ?_
      rotate_left
      · intro w0 hSw; (try dsimp only at hSw); go_simp; (try with_reducible rfl)
      (try dsimp only [Act.put, List.setIfInBounds_toArray, List.set_cons_zero, List.set_cons_succ])
      refine wpAnyH_take (i := 12) (oi := _) (v := ?_) rfl (by kernel_rfl) (by kernel_rfl) (by kernel_rfl) (fun _ _ _ h => h) (Or.inl ⟨by rfl, ?_⟩) hHeld ?_
      rotate_left
      · intro w0 hSw; (try dsimp only at hSw); go_simp; (try with_reducible rfl)
      (try dsimp only [Act.put, List.setIfInBounds_toArray, List.set_cons_zero, List.set_cons_succ])
      refine wpAnyH_take (i := 17) (oi := _) (v := ?_) rfl (by kernel_rfl) (by kernel_rfl) (by kernel_rfl) (fun _ _ _ h => h) (Or.inl ⟨by rfl, ?_⟩) hHeld ?_
      rotate_left
      · intro w0 hSw; (try dsimp only at hSw); go_simp; (try with_reducible rfl)
      (try dsimp only [Act.put, List.setIfInBounds_toArray, List.set_cons_zero, List.set_cons_succ])
      refine wpAnyH_ready (rs := [6]) (by kernel_rfl) (by simp) ?_
      refine AllReadyH.cons (o := _) rfl (fun K hK => ?_) AllReadyH.nil
      go_simp
      refine (HN1.out 0).mono ?_
      rintro e w8 ⟨r2, rfl, hr2b, hd8, hs8⟩
      go_wp2_with fail
      refine hK.out _ _ ?_ (fun hHeld => ?_)
      · (try dsimp only); exact ⟨hd8.cell hHeld.1 hsX, hd8.cell hHeld.2.1 hsX, hd8.cell hHeld.2.2 hsX⟩
      clear hK K
      (try dsimp only [Act.put, List.setIfInBounds_toArray, List.set_cons_zero, List.set_cons_succ])
      refine wpAnyH_take (i := 7) (oi := _) (v := ?_) rfl (by kernel_rfl) (by kernel_rfl) (by kernel_rfl) (fun _ _ _ h => h) (Or.inl ⟨by rfl, ?_⟩) hHeld ?_
      rotate_left
      · intro w0 hSw; (try dsimp only at hSw); go_simp; (try with_reducible rfl)
      (try dsimp only [Act.put, List.setIfInBounds_toArray, List.set_cons_zero, List.set_cons_succ])
      refine wpAnyH_ready (rs := [10]) (by kernel_rfl) (by simp) ?_
      refine AllReadyH.cons (o := _) rfl (fun K hK => ?_) AllReadyH.nil
      go_simp
      refine (HSZ.out _).mono ?_
      rintro e w9 ⟨rfl, hb9⟩
      go_wp2_with fail
      refine hK.out _ _ ?_ (fun hHeld => ?_)
      · (try dsimp only); exact ⟨keep_cell hb9 hHeld.1, keep_cell hb9 hHeld.2.1, keep_cell hb9 hHeld.2.2⟩
      clear hK K
      (try dsimp only [Act.put, List.setIfInBounds_toArray, List.set_cons_zero, List.set_cons_succ])
      refine wpAnyH_take (i := 11) (oi := _) (v := ?_) rfl (by kernel_rfl) (by kernel_rfl) (by kernel_rfl) (fun _ _ _ h => h) (Or.inl ⟨by rfl, ?_⟩) hHeld ?_
      rotate_left
      · intro w0 hSw; (try dsimp only at hSw); go_simp; (try with_reducible rfl)
      (try dsimp only [Act.put, List.setIfInBounds_toArray, List.set_cons_zero, List.set_cons_succ])
      refine wpAnyH_take (i := 13) (oi := _) (v := ?_) rfl (by kernel_rfl) (by kernel_rfl) (by kernel_rfl) (fun _ _ _ h => h) (Or.inl ⟨by rfl, ?_⟩) hHeld ?_
      rotate_left
      · intro w0 hSw; (try dsimp only at hSw); go_simp; (try with_reducible rfl)
      (try dsimp only [Act.put, List.setIfInBounds_toArray, List.set_cons_zero, List.set_cons_succ])
      refine wpAnyH_take (i := 14) (oi := _) (v := ?_) rfl (by kernel_rfl) (by kernel_rfl) (by kernel_rfl) (fun _ _ _ h => h) (Or.inl ⟨by rfl, ?_⟩) hHeld ?_
      rotate_left
      · intro w0 hSw; (try dsimp only at hSw); go_simp; (try with_reducible rfl)
      (try dsimp only [Act.put, List.setIfInBounds_toArray, List.set_cons_zero, List.set_cons_succ])
      refine wpAnyH_ready (rs := [15]) (by kernel_rfl) (by simp) ?_
      refine AllReadyH.cons (o := _) rfl (fun K hK => ?_) AllReadyH.nil
      go_simp
      rw [← HM6.out]
      refine (HN2.out _ (hs8.below hb9)).mono ?_
      rintro e w10 ⟨r3, rfl, hr3b, hd10, hs10⟩
      go_wp2_with fail
      refine hK.out _ _ ?_ (fun hHeld => ?_)
      · (try dsimp only); exact ⟨hd10.cell hHeld.1 hsX, hd10.cell hHeld.2.1 hsX, hd10.cell hHeld.2.2 hsX⟩
      clear hK K
      (try dsimp only [Act.put, List.setIfInBounds_toArray, List.set_cons_zero, List.set_cons_succ])
      refine wpAnyH_take (i := 16) (oi := _) (v := ?_) rfl (by kernel_rfl) (by kernel_rfl) (by kernel_rfl) (fun _ _ _ h => h) (Or.inl ⟨by rfl, ?_⟩) hHeld ?_
      rotate_left
      · intro w0 hSw; (try dsimp only at hSw); go_simp; (try with_reducible rfl)
      (try dsimp only [Act.put, List.setIfInBounds_toArray, List.set_cons_zero, List.set_cons_succ])
      refine wpAnyH_take (i := 18) (oi := _) (v := ?_) rfl (by kernel_rfl) (by kernel_rfl) (by kernel_rfl) (fun _ _ _ h => h) (Or.inl ⟨by rfl, ?_⟩) hHeld ?_
      rotate_left
      · intro w0 hSw; (try dsimp only at hSw); go_simp; (try with_reducible rfl)
      (try dsimp only [Act.put, List.setIfInBounds_toArray, List.set_cons_zero, List.set_cons_succ])
      refine wpAnyH_done (by kernel_rfl) (lastQ_normal ?_) _
      clear z1 z2 hPw
      have TF8 := TF.out.dr hd8 hRs
      have TF9 := TF8.below hb9 TF8.lt
      have TF10 := Lib.hid (TF9.dr hd10 hRs)
      have TD10 := Lib.hid (((TD.out.trans hd8).more hb9).trans hd10)
      have HS10 := Lib.hid hs10
      clear TF8 TF9 hd8 hs8 hb9 hd10 hs10 hHeld x0 x1 x2
      have r0 := TF10.out.c0
      have r1 := TF10.out.c1
      have r2' := TF10.out.c2
      have r3' := TF10.out.c3
      have r4 := TF10.out.c4
      have r5 := TF10.out.c5
      have f0 := TF10.out.fz 0
      have f1 := TF10.out.fz 1
      have f2 := TF10.out.fz 2
      have f3 := TF10.out.fz 3
      have f4 := TF10.out.fz 4
      have f5 := TF10.out.fz 5
      have FF := Lib.hid (TF10.out.set p pw g ((P : Int) + r2) (1 + r3) (1 + (c0 : Int)))
      have DF := Lib.hid (setL_dr (B := w.heap.size) (p := p) (pw := pw) (g := g) (D := (P : Int) + r2) (C := 1 + r3) (N := 1 + (c0 : Int)) s TD10.out (Nat.le_refl _))
      have SF := Lib.hid (setL_src (B := w.heap.size) (p := p) (pw := pw) (g := g) (D := (P : Int) + r2) (C := 1 + r3) (N := 1 + (c0 : Int)) HS10.out hsz)
      go_wp2_with fail
      (try simp only [Exit.inBlock, Exit.then])
      exact ret_cell1 HRES.out Try.underlying31 rfl (by kernel_rfl) rfl rfl FF.out.blk ⟨_, _, _, _, _, _, rfl, by omega, by omega, by omega, by omega, by omega, by omega, DF.out, SF.out⟩
end Go.Proofs.Ytfhkkpfiflgofaa
/-
  What the laws of streams draw: any layouts, data.
-/
namespace Go.Proofs.Ytfhkkpfiflgofaa
open Go.RowKit
set_option linter.unusedVariables false

theorem LB.setF {w : World} {B : Nat} {p pw g D C N : Int} (h : LB w B p pw g D C N) (x y z : Int) : LB (((w.setCell ⟨B, 0, none⟩ (.int .i64 x)).setCell ⟨B, 1, none⟩ (.int .i64 y)).setCell ⟨B, 2, none⟩ (.int .i64 z)) B x y z D C N := ((h.set0 x).set1 y).set2 z
set_option maxHeartbeats 8000000 in
set_option maxRecDepth 100000 in
theorem l07DrawAny_any {w : World} {s : Nat} (hs : Src w s) :
    Calls Try.prog 89 #[.pointer (some ⟨s, 0, none⟩)] w fun e w' => ∃ p pw g D C N, e = .returned (lV p pw g D C N) ∧ 0 ≤ D ∧ D ≤ 4000 ∧ 0 ≤ C ∧ C ≤ 4000 ∧ 0 ≤ N ∧ N ≤ 4000 ∧ Dr s w w' ∧ Src w' s := by
  have F0 := Lib.hid (LB.new w 0 0 0 0 0 0)
  have B0 := Lib.hid (below1 w (.cells #[.int .i64 0, .int .i64 0, .int .i64 0, .int .i64 0, .int .i64 0, .int .i64 0] LT))
  have hsz := hs.lt
  have HS := Lib.hid (hs.below B0.out)
  have D0 := Lib.hid (Dr.of (s := s) B0.out)
  have HRES := Lib.hid (show Try.f89.results = #[.cell 2 LT] by kernel_rfl)
  clear hs B0
  go_enter Try.func89, Try.ntmps89
  go_wp2_with fail
  generalize w.alloc (.cells #[.int .i64 0, .int .i64 0, .int .i64 0, .int .i64 0, .int .i64 0, .int .i64 0] LT) = w1 at *
  refine (l07Draw_any HS.out).mono ?_
  rintro e w2 ⟨p, pw, g, D, C, N, rfl, hl1, hl2, hc1, hc2, hn1, hn2, hd, hs2⟩
  have HF3 := Lib.hid ((F0.out.dr hd (by omega)).below (below1 w2 (.cells #[.int .i64 p, .int .i64 pw, .int .i64 g, .int .i64 D, .int .i64 C, .int .i64 N] LT)) (F0.out.dr hd (by omega)).lt)
  have HD3 := Lib.hid ((D0.out.trans hd).alloc (.cells #[.int .i64 p, .int .i64 pw, .int .i64 g, .int .i64 D, .int .i64 C, .int .i64 N] LT))
  have HS3 := Lib.hid (hs2.alloc (.cells #[.int .i64 p, .int .i64 pw, .int .i64 g, .int .i64 D, .int .i64 C, .int .i64 N] LT))
  have HX3 := Lib.hid (LB.new w2 p pw g D C N)
  have hx2 : w.heap.size < w2.heap.size := (F0.out.dr hd (by omega)).lt
  obtain ⟨X, hX⟩ : ∃ X, X = w2.heap.size := ⟨_, rfl⟩
  rw [← hX] at HX3 hx2
  clear hd hs2 F0 HS D0
  go_wp2_with fail
  rw [← hX]
  clear hX
  generalize w2.alloc (.cells #[.int .i64 p, .int .i64 pw, .int .i64 g, .int .i64 D, .int .i64 C, .int .i64 N] LT) = w3 at *
  refine (next_any HS3.out 30 (by omega) (by omega)).mono ?_
  rintro e w4 ⟨k, rfl, hk, hd, hs4⟩
  have HF4 := Lib.hid (HF3.out.dr hd (by omega))
  have HD4 := Lib.hid (HD3.out.trans hd)
  have HX4 := Lib.hid (HX3.out.dr hd (by omega))
  have HS4 := Lib.hid hs4
  clear hd hs4 HF3 HD3 HS3 HX3
  rcases (show k = 0 ∨ k = 1 ∨ k = 2 ∨ k = 3 ∨ 4 ≤ k by omega) with rfl | rfl | rfl | rfl | hk4
  · have z3 := HX4.out.c3
    have QW := Lib.hid (show IntKind.i64.wrap (D + 1) = D + 1 from IntWalk.i64_in _ (by omega))
    have TF := Lib.hid (HF4.out.below (Drew.below (drew1 w4) _) HF4.out.lt)
    have TX := Lib.hid (HX4.out.below (Drew.below (drew1 w4) _) HX4.out.lt)
    have TS := Lib.hid (HS4.out.drew (drew1 w4))
    have TD := Lib.hid (HD4.out.drew (drew1 w4))
    have hXsz := TX.out.lt
    clear HF4 HX4 HS4 HD4
    go_wp2_with fail
    refine wp_region_last (S := (fun w' => w'.cell? ⟨X, 3, none⟩ = some (.int .i64 D))) 11 (by kernel_rfl) rfl (by kernel_rfl) ?_ (fun hHeld => ?_)
    · (try dsimp only); exact z3
    simp only [List.take_succ_cons, List.take_zero]
    refine wpAnyH_take (i := 0) (oi := _) (v := ?_) rfl (by kernel_rfl) (by kernel_rfl) (by kernel_rfl) (fun _ _ _ h => h) (Or.inl ⟨by rfl, ?_⟩) hHeld ?_
    rotate_left
    · intro w0 hSw; (try dsimp only at hSw); go_simp; (try with_reducible rfl)
    (try dsimp only [Act.put, List.setIfInBounds_toArray, List.set_cons_zero, List.set_cons_succ])
    refine wpAnyH_take (i := 1) (oi := _) (v := ?_) rfl (by kernel_rfl) (by kernel_rfl) (by kernel_rfl) (fun _ _ _ h => h) (Or.inl ⟨by rfl, ?_⟩) hHeld ?_
    rotate_left
    · intro w0 hSw; (try dsimp only at hSw); go_simp; (try with_reducible rfl)
    (try dsimp only [Act.put, List.setIfInBounds_toArray, List.set_cons_zero, List.set_cons_succ])
    refine wpAnyH_take (i := 2) (oi := _) (v := ?_) rfl (by kernel_rfl) (by kernel_rfl) (by kernel_rfl) (fun _ _ _ h => h) (Or.inl ⟨by rfl, ?_⟩) hHeld ?_
    rotate_left
    · intro w0 hSw; (try dsimp only at hSw); go_simp; (try with_reducible rfl)
    (try dsimp only [Act.put, List.setIfInBounds_toArray, List.set_cons_zero, List.set_cons_succ])
    refine wpAnyH_take (i := 3) (oi := _) (v := ?_) rfl (by kernel_rfl) (by kernel_rfl) (by kernel_rfl) (fun _ _ _ h => h) (Or.inl ⟨by rfl, ?_⟩) hHeld ?_
    rotate_left
    · intro w0 hSw; (try dsimp only at hSw); go_simp; (try with_reducible rfl)
    (try dsimp only [Act.put, List.setIfInBounds_toArray, List.set_cons_zero, List.set_cons_succ])
    refine wpAnyH_take (i := 4) (oi := _) (v := ?_) rfl (by kernel_rfl) (by kernel_rfl) (by kernel_rfl) (fun _ _ _ h => h) (Or.inl ⟨by rfl, ?_⟩) hHeld ?_
    rotate_left
    · intro w0 hSw; (try dsimp only at hSw); go_simp; (try with_reducible rfl)
    (try dsimp only [Act.put, List.setIfInBounds_toArray, List.set_cons_zero, List.set_cons_succ])
    refine wpAnyH_take (i := 6) (oi := _) (v := ?_) rfl (by kernel_rfl) (by kernel_rfl) (by kernel_rfl) (fun _ _ _ h => h) (Or.inl ⟨by rfl, ?_⟩) hHeld ?_
    rotate_left
    · intro w0 hSw; (try dsimp only at hSw); go_simp; (try with_reducible rfl)
    (try dsimp only [Act.put, List.setIfInBounds_toArray, List.set_cons_zero, List.set_cons_succ])
    refine wpAnyH_ready (rs := [5, 7]) (by kernel_rfl) (by simp) ?_
    refine AllReadyH.cons (o := _) rfl (fun K hK => ?_) (AllReadyH.cons (o := _) rfl (fun K hK => ?_) AllReadyH.nil)
    · go_simp
      (try rw [QW.out])
      go_wp2_with fail
      refine hK.out _ _ ?_ (fun hHeld => ?_)
      · (try dsimp only); exact keep_cell ((Below.refl _ _).alloc (Nat.le_refl _) _) hHeld
      clear hK K
      (try dsimp only [Act.put, List.setIfInBounds_toArray, List.set_cons_zero, List.set_cons_succ])
      refine wpAnyH_ready (rs := [7]) (by kernel_rfl) (by simp) ?_
      refine AllReadyH.cons (o := _) rfl (fun K hK => ?_) AllReadyH.nil
      go_simp
      refine (pickN_any TS.out [0, D, D + 1, 17] 2 4 (by omega) (by omega) (by simp)).mono ?_
      rintro e w5 ⟨q, rfl, hq, hc, hd, hs5, hz5⟩
      have hcq : w5.cell? ⟨w4.heap.size, q, none⟩ = some (.int .i64 (gi [0, D, D + 1, 17] q)) := hc q (by simpa using hq)
      have hq4 : (q : Int) < 4 := by omega
      have hS5 := hd.cell TX.out.c3 (show X ≠ s by omega)
      go_wp2_with fail
      refine hK.out _ _ ?_ (fun hHeld => ?_)
      · (try dsimp only); exact hS5
      clear hK K
      (try dsimp only [Act.put, List.setIfInBounds_toArray, List.set_cons_zero, List.set_cons_succ])
      refine wpAnyH_ready (rs := [8]) (by kernel_rfl) (by simp) ?_
      refine AllReadyH.cons (o := _) rfl (fun K hK => ?_) AllReadyH.nil
      go_simp
      go_wp2_with fail
      refine hK.out _ _ ?_ (fun hHeld => ?_)
      · (try dsimp only); exact hHeld
      clear hK K
      (try dsimp only [Act.put, List.setIfInBounds_toArray, List.set_cons_zero, List.set_cons_succ])
      refine wpAnyH_ready (rs := [9]) (by kernel_rfl) (by simp) ?_
      refine AllReadyH.cons (o := _) rfl (fun K hK => ?_) AllReadyH.nil
      go_simp
      go_wp2_with fail
      refine hK.out _ _ ?_ (fun hHeld => ?_)
      · (try dsimp only); exact hHeld
      clear hK K
      (try dsimp only [Act.put, List.setIfInBounds_toArray, List.set_cons_zero, List.set_cons_succ])
      refine wpAnyH_take (i := 10) (oi := _) (v := ?_) rfl (by kernel_rfl) (by kernel_rfl) (by kernel_rfl) (fun _ _ _ h => h) (Or.inl ⟨by rfl, ?_⟩) hHeld ?_
      rotate_left
      · intro w0 hSw; (try dsimp only at hSw); go_simp; (try with_reducible rfl)
      (try dsimp only [Act.put, List.setIfInBounds_toArray, List.set_cons_zero, List.set_cons_succ])
      refine wpAnyH_done (by kernel_rfl) (lastQ_normal ?_) _
      have HF5 := Lib.hid (TF.out.dr hd (by omega))
      have HD5 := Lib.hid (TD.out.trans hd)
      have HX5 := Lib.hid (TX.out.dr hd (by omega))
      have HS5 := Lib.hid hs5
      have hzb : 0 ≤ gi [0, D, D + 1, 17] q ∧ gi [0, D, D + 1, 17] q ≤ 4000 := by
        have hz : ∀ z ∈ [0, D, D + 1, 17], 0 ≤ z ∧ z ≤ 4000 := by simp; omega
        exact hz _ (gi_in (by simpa using hq))
      generalize gi [0, D, D + 1, 17] q = z at *
      have HFs := Lib.hid (HF5.out.other (show w.heap.size ≠ X by omega) (H := X) (o := 5) (.int .i64 (z)))
      have HXs := Lib.hid (HX5.out.set5 (z))
      have HSs := Lib.hid (HS5.out.other (show s < X by omega) 5 (.int .i64 (z)))
      have HDs := Lib.hid (HD5.out.setNew (B := X) (by omega) 5 (.int .i64 (z)))
      have y5 := HX5.out.c5
      have g5 := HX5.out.fz 5
      have r0 := HFs.out.c0
      have r1 := HFs.out.c1
      have r2 := HFs.out.c2
      have r3 := HFs.out.c3
      have r4 := HFs.out.c4
      have r5 := HFs.out.c5
      have f0 := HFs.out.fz 0
      have f1 := HFs.out.fz 1
      have f2 := HFs.out.fz 2
      have f3 := HFs.out.fz 3
      have f4 := HFs.out.fz 4
      have f5 := HFs.out.fz 5
      have x0 := HXs.out.c0
      have x1 := HXs.out.c1
      have x2 := HXs.out.c2
      have x3 := HXs.out.c3
      have x4 := HXs.out.c4
      have x5 := HXs.out.c5
      have HFF := Lib.hid (HFs.out.set (p) (pw) (g) (D) (C) (z))
      have HSF := Lib.hid (setL_src (B := w.heap.size) (p := p) (pw := pw) (g := g) (D := D) (C := C) (N := z) HSs.out hsz)
      have HDF := Lib.hid (setL_dr (B := w.heap.size) (p := p) (pw := pw) (g := g) (D := D) (C := C) (N := z) s HDs.out (Nat.le_refl _))
      go_wp2_with fail
      (try simp only [Exit.inBlock, Exit.then])
      exact ret_cell1 HRES.out Try.underlying31 rfl (by kernel_rfl) rfl rfl HFF.out.blk ⟨_, _, _, _, _, _, rfl, by omega, by omega, by omega, by omega, by omega, by omega, HDF.out, HSF.out⟩
    · go_simp
      refine (next_any TS.out 4 (by omega) (by omega)).mono ?_
      rintro e w5 ⟨q, rfl, hq, hd, hs5⟩
      have hS5 := hd.cell TX.out.c3 (show X ≠ s by omega)
      go_wp2_with fail
      refine hK.out _ _ ?_ (fun hHeld => ?_)
      · (try dsimp only); exact hS5
      clear hK K
      (try dsimp only [Act.put, List.setIfInBounds_toArray, List.set_cons_zero, List.set_cons_succ])
      refine wpAnyH_ready (rs := [5]) (by kernel_rfl) (by simp) ?_
      refine AllReadyH.cons (o := _) rfl (fun K hK => ?_) AllReadyH.nil
      go_simp
      (try rw [QW.out])
      have hq4 : (q : Int) < 4 := by omega
      have hcq := row_lit w5 [0, D, D + 1, 17] 2 (by simp) (k := q) (by simpa using hq)
      simp only [List.map_cons, List.map_nil] at hcq
      go_wp2_with fail
      refine hK.out _ _ ?_ (fun hHeld => ?_)
      · (try dsimp only); exact keep_cell ((Below.refl _ _).alloc (Nat.le_refl _) _) hHeld
      clear hK K
      (try dsimp only [Act.put, List.setIfInBounds_toArray, List.set_cons_zero, List.set_cons_succ])
      refine wpAnyH_ready (rs := [8]) (by kernel_rfl) (by simp) ?_
      refine AllReadyH.cons (o := _) rfl (fun K hK => ?_) AllReadyH.nil
      go_simp
      go_wp2_with fail
      refine hK.out _ _ ?_ (fun hHeld => ?_)
      · (try dsimp only); exact hHeld
      clear hK K
      (try dsimp only [Act.put, List.setIfInBounds_toArray, List.set_cons_zero, List.set_cons_succ])
      refine wpAnyH_ready (rs := [9]) (by kernel_rfl) (by simp) ?_
      refine AllReadyH.cons (o := _) rfl (fun K hK => ?_) AllReadyH.nil
      go_simp
      go_wp2_with fail
      refine hK.out _ _ ?_ (fun hHeld => ?_)
      · (try dsimp only); exact hHeld
      clear hK K
      (try dsimp only [Act.put, List.setIfInBounds_toArray, List.set_cons_zero, List.set_cons_succ])
      refine wpAnyH_take (i := 10) (oi := _) (v := ?_) rfl (by kernel_rfl) (by kernel_rfl) (by kernel_rfl) (fun _ _ _ h => h) (Or.inl ⟨by rfl, ?_⟩) hHeld ?_
      rotate_left
      · intro w0 hSw; (try dsimp only at hSw); go_simp; (try with_reducible rfl)
      (try dsimp only [Act.put, List.setIfInBounds_toArray, List.set_cons_zero, List.set_cons_succ])
      refine wpAnyH_done (by kernel_rfl) (lastQ_normal ?_) _
      have HF5' := (TF.out.dr hd (by omega))
      have HD5' := (TD.out.trans hd)
      have HX5' := (TX.out.dr hd (by omega))
      have HS5' := hs5
      have hA := (Below.refl w5.heap.size w5).alloc (Nat.le_refl _) (.cells #[.int .i64 0, .int .i64 D, .int .i64 (D + 1), .int .i64 17] 2)
      have HF5 := Lib.hid (HF5'.below hA HF5'.lt)
      have HX5 := Lib.hid (HX5'.below hA HX5'.lt)
      have HD5 := Lib.hid (HD5'.more hA)
      have HS5 := Lib.hid (HS5'.below hA)
      clear HF5' HX5' HD5' HS5' hA
      generalize w5.alloc (.cells #[.int .i64 0, .int .i64 D, .int .i64 (D + 1), .int .i64 17] 2) = w6 at *
      have hzb : 0 ≤ gi [0, D, D + 1, 17] q ∧ gi [0, D, D + 1, 17] q ≤ 4000 := by
        have hz : ∀ z ∈ [0, D, D + 1, 17], 0 ≤ z ∧ z ≤ 4000 := by simp; omega
        exact hz _ (gi_in (by simpa using hq))
      generalize gi [0, D, D + 1, 17] q = z at *
      have HFs := Lib.hid (HF5.out.other (show w.heap.size ≠ X by omega) (H := X) (o := 5) (.int .i64 (z)))
      have HXs := Lib.hid (HX5.out.set5 (z))
      have HSs := Lib.hid (HS5.out.other (show s < X by omega) 5 (.int .i64 (z)))
      have HDs := Lib.hid (HD5.out.setNew (B := X) (by omega) 5 (.int .i64 (z)))
      have y5 := HX5.out.c5
      have g5 := HX5.out.fz 5
      have r0 := HFs.out.c0
      have r1 := HFs.out.c1
      have r2 := HFs.out.c2
      have r3 := HFs.out.c3
      have r4 := HFs.out.c4
      have r5 := HFs.out.c5
      have f0 := HFs.out.fz 0
      have f1 := HFs.out.fz 1
      have f2 := HFs.out.fz 2
      have f3 := HFs.out.fz 3
      have f4 := HFs.out.fz 4
      have f5 := HFs.out.fz 5
      have x0 := HXs.out.c0
      have x1 := HXs.out.c1
      have x2 := HXs.out.c2
      have x3 := HXs.out.c3
      have x4 := HXs.out.c4
      have x5 := HXs.out.c5
      have HFF := Lib.hid (HFs.out.set (p) (pw) (g) (D) (C) (z))
      have HSF := Lib.hid (setL_src (B := w.heap.size) (p := p) (pw := pw) (g := g) (D := D) (C := C) (N := z) HSs.out hsz)
      have HDF := Lib.hid (setL_dr (B := w.heap.size) (p := p) (pw := pw) (g := g) (D := D) (C := C) (N := z) s HDs.out (Nat.le_refl _))
      go_wp2_with fail
      (try simp only [Exit.inBlock, Exit.then])
      exact ret_cell1 HRES.out Try.underlying31 rfl (by kernel_rfl) rfl rfl HFF.out.blk ⟨_, _, _, _, _, _, rfl, by omega, by omega, by omega, by omega, by omega, by omega, HDF.out, HSF.out⟩
  · go_wp2_with fail
    refine (pickN_any HS4.out [0, 64, 65] 2 3 (by omega) (by omega) (by simp)).mono ?_
    rintro e w5 ⟨q, rfl, hq, hc, hd, hs5, hz5⟩
    have hcq : w5.cell? ⟨w4.heap.size, q, none⟩ = some (.int .i64 (gi [0, 64, 65] q)) := hc q (by simpa using hq)
    have hq4 : (q : Int) < 3 := by omega
    have HF5 := Lib.hid (HF4.out.dr hd (by omega))
    have HD5 := Lib.hid (HD4.out.trans hd)
    have HX5 := Lib.hid (HX4.out.dr hd (by omega))
    have HS5 := Lib.hid hs5
    have hzb : 0 ≤ gi [0, 64, 65] q ∧ gi [0, 64, 65] q ≤ 4000 := by
      have hz : ∀ z ∈ [0, 64, (65 : Int)], 0 ≤ z ∧ z ≤ 4000 := by simp
      exact hz _ (gi_in (by simpa using hq))
    generalize gi [0, 64, 65] q = z at *
    clear hc hd hs5 HF4 HD4 HX4 HS4
    have HFs := Lib.hid (HF5.out.other (show w.heap.size ≠ X by omega) (H := X) (o := 4) (.int .i64 (z)))
    have HXs := Lib.hid (HX5.out.set4 (z))
    have HSs := Lib.hid (HS5.out.other (show s < X by omega) 4 (.int .i64 (z)))
    have HDs := Lib.hid (HD5.out.setNew (B := X) (by omega) 4 (.int .i64 (z)))
    have y4 := HX5.out.c4
    have g4 := HX5.out.fz 4
    have r0 := HFs.out.c0
    have r1 := HFs.out.c1
    have r2 := HFs.out.c2
    have r3 := HFs.out.c3
    have r4 := HFs.out.c4
    have r5 := HFs.out.c5
    have f0 := HFs.out.fz 0
    have f1 := HFs.out.fz 1
    have f2 := HFs.out.fz 2
    have f3 := HFs.out.fz 3
    have f4 := HFs.out.fz 4
    have f5 := HFs.out.fz 5
    have x0 := HXs.out.c0
    have x1 := HXs.out.c1
    have x2 := HXs.out.c2
    have x3 := HXs.out.c3
    have x4 := HXs.out.c4
    have x5 := HXs.out.c5
    have HFF := Lib.hid (HFs.out.set (p) (pw) (g) (D) (z) (N))
    have HSF := Lib.hid (setL_src (B := w.heap.size) (p := p) (pw := pw) (g := g) (D := D) (C := z) (N := N) HSs.out hsz)
    have HDF := Lib.hid (setL_dr (B := w.heap.size) (p := p) (pw := pw) (g := g) (D := D) (C := z) (N := N) s HDs.out (Nat.le_refl _))
    go_wp2_with fail
    (try simp only [Exit.inBlock, Exit.then])
    exact ret_cell1 HRES.out Try.underlying31 rfl (by kernel_rfl) rfl rfl HFF.out.blk ⟨_, _, _, _, _, _, rfl, by omega, by omega, by omega, by omega, by omega, by omega, HDF.out, HSF.out⟩
  · go_wp2_with fail
    refine (l02DrawAny_any HS4.out).mono ?_
    rintro e w5 ⟨p', pw', g', rfl, hd, hs5⟩
    have HF5 := Lib.hid (HF4.out.dr hd (by omega))
    have HD5 := Lib.hid (HD4.out.trans hd)
    have HX5 := Lib.hid (HX4.out.dr hd (by omega))
    have HS5 := Lib.hid hs5
    clear hd hs5 HF4 HD4 HS4 HX4
    have HFs := Lib.hid (((HF5.out.other (H := X) (o := 0) (by omega) (.int .i64 p')).other (H := X) (o := 1) (by omega) (.int .i64 pw')).other (H := X) (o := 2) (by omega) (.int .i64 g'))
    have HXs := Lib.hid (HX5.out.setF p' pw' g')
    have HSs := Lib.hid (((HS5.out.other (show s < X by omega) 0 (.int .i64 p')).other (show s < X by omega) 1 (.int .i64 pw')).other (show s < X by omega) 2 (.int .i64 g'))
    have HDs := Lib.hid (((HD5.out.setNew (B := X) (by omega) 0 (.int .i64 p')).setNew (B := X) (by omega) 1 (.int .i64 pw')).setNew (B := X) (by omega) 2 (.int .i64 g'))
    have y0 := HX5.out.c0
    have y1 := HX5.out.c1
    have y2 := HX5.out.c2
    have g0 := HX5.out.fz 0
    have g1 := HX5.out.fz 1
    have g2 := HX5.out.fz 2
    have r0 := HFs.out.c0
    have r1 := HFs.out.c1
    have r2 := HFs.out.c2
    have r3 := HFs.out.c3
    have r4 := HFs.out.c4
    have r5 := HFs.out.c5
    have f0 := HFs.out.fz 0
    have f1 := HFs.out.fz 1
    have f2 := HFs.out.fz 2
    have f3 := HFs.out.fz 3
    have f4 := HFs.out.fz 4
    have f5 := HFs.out.fz 5
    have x0 := HXs.out.c0
    have x1 := HXs.out.c1
    have x2 := HXs.out.c2
    have x3 := HXs.out.c3
    have x4 := HXs.out.c4
    have x5 := HXs.out.c5
    have HFF := Lib.hid (HFs.out.set (p') (pw') (g') (D) (C) (N))
    have HSF := Lib.hid (setL_src (B := w.heap.size) (p := p') (pw := pw') (g := g') (D := D) (C := C) (N := N) HSs.out hsz)
    have HDF := Lib.hid (setL_dr (B := w.heap.size) (p := p') (pw := pw') (g := g') (D := D) (C := C) (N := N) s HDs.out (Nat.le_refl _))
    go_wp2_with fail
    (try simp only [Exit.inBlock, Exit.then])
    exact ret_cell1 HRES.out Try.underlying31 rfl (by kernel_rfl) rfl rfl HFF.out.blk ⟨_, _, _, _, _, _, rfl, by omega, by omega, by omega, by omega, by omega, by omega, HDF.out, HSF.out⟩
  · go_wp2_with fail
    refine (FieldOf_any 256 (by omega) (by omega) _).mono ?_
    rintro e w5 ⟨p', pw', g', cd, rfl, hb5, hfo, -⟩
    have HF5 := Lib.hid ((HF4.out.below hb5 HF4.out.lt).below (below1 w5 (.cells #[.int .i64 p', .int .i64 pw', .int .i64 g'] FTa)) (HF4.out.below hb5 HF4.out.lt).lt)
    have HX5 := Lib.hid ((HX4.out.below hb5 HX4.out.lt).below (below1 w5 (.cells #[.int .i64 p', .int .i64 pw', .int .i64 g'] FTa)) (HX4.out.below hb5 HX4.out.lt).lt)
    have HD5 := Lib.hid ((HD4.out.more hb5).alloc (.cells #[.int .i64 p', .int .i64 pw', .int .i64 g'] FTa))
    have HS5 := Lib.hid ((HS4.out.below hb5).alloc (.cells #[.int .i64 p', .int .i64 pw', .int .i64 g'] FTa))
    have HY5 := Lib.hid (FB.new w5 p' pw' g')
    have hXlt := (HX4.out.below hb5 HX4.out.lt).lt
    obtain ⟨Y, hY⟩ : ∃ Y, Y = w5.heap.size := ⟨_, rfl⟩
    rw [← hY] at HY5 hXlt
    clear hb5 hfo HF4 HX4 HD4 HS4
    go_wp2_with fail
    (try rw [← hY])
    clear hY
    generalize w5.alloc (.cells #[.int .i64 p', .int .i64 pw', .int .i64 g'] FTa) = w6 at *
    have y0 := HY5.out.c0
    have y1 := HY5.out.c1
    have y2 := HY5.out.c2
    have TS := Lib.hid (HS5.out.drew (drew1 w6))
    have TD := Lib.hid (HD5.out.drew (drew1 w6))
    have TF := Lib.hid (HF5.out.below (Drew.below (drew1 w6) _) HF5.out.lt)
    have TX := Lib.hid (HX5.out.below (Drew.below (drew1 w6) _) HX5.out.lt)
    have hYs : Y ≠ s := by omega
    clear HF5 HX5 HD5 HS5
    refine wp_region_last (S := (fun w' => w'.cell? ⟨Y, 0, none⟩ = some (.int .i64 p') ∧ w'.cell? ⟨Y, 1, none⟩ = some (.int .i64 pw') ∧ w'.cell? ⟨Y, 2, none⟩ = some (.int .i64 g'))) 5 (by kernel_rfl) rfl (by kernel_rfl) ?_ (fun hHeld => ?_)
    · (try dsimp only); exact ⟨y0, y1, y2⟩
    simp only [List.take_succ_cons, List.take_zero]
    refine wpAnyH_take (i := 0) (oi := _) (v := ?_) rfl (by kernel_rfl) (by kernel_rfl) (by kernel_rfl) (fun _ _ _ h => h) (Or.inl ⟨by rfl, ?_⟩) hHeld ?_
    rotate_left
    · intro w0 hSw; (try dsimp only at hSw); go_simp; (try with_reducible rfl)
    (try dsimp only [Act.put, List.setIfInBounds_toArray, List.set_cons_zero, List.set_cons_succ])
    refine wpAnyH_take (i := 1) (oi := _) (v := ?_) rfl (by kernel_rfl) (by kernel_rfl) (by kernel_rfl) (fun _ _ _ h => h) (Or.inl ⟨by rfl, ?_⟩) hHeld ?_
    rotate_left
    · intro w0 hSw; (try dsimp only at hSw); go_simp; (try with_reducible rfl)
    (try dsimp only [Act.put, List.setIfInBounds_toArray, List.set_cons_zero, List.set_cons_succ])
    refine wpAnyH_ready (rs := [2]) (by kernel_rfl) (by simp) ?_
    refine AllReadyH.cons (o := _) rfl (fun K hK => ?_) AllReadyH.nil
    go_simp
    refine (next_any TS.out 40 (by omega) (by omega)).mono ?_
    rintro e w7 ⟨q, rfl, hq, hd, hs7⟩
    go_wp2_with fail
    refine hK.out _ _ ?_ (fun hHeld => ?_)
    · (try dsimp only); exact ⟨hd.cell hHeld.1 hYs, hd.cell hHeld.2.1 hYs, hd.cell hHeld.2.2 hYs⟩
    clear hK K
    (try dsimp only [Act.put, List.setIfInBounds_toArray, List.set_cons_zero, List.set_cons_succ])
    refine wpAnyH_take (i := 3) (oi := _) (v := ?_) rfl (by kernel_rfl) (by kernel_rfl) (by kernel_rfl) (fun _ _ _ h => h) (Or.inl ⟨by rfl, ?_⟩) hHeld ?_
    rotate_left
    · intro w0 hSw; (try dsimp only at hSw); go_simp; (try with_reducible rfl)
    (try dsimp only [Act.put, List.setIfInBounds_toArray, List.set_cons_zero, List.set_cons_succ])
    refine wpAnyH_take (i := 4) (oi := _) (v := ?_) rfl (by kernel_rfl) (by kernel_rfl) (by kernel_rfl) (fun _ _ _ h => h) (Or.inl ⟨by rfl, ?_⟩) hHeld ?_
    rotate_left
    · intro w0 hSw; (try dsimp only at hSw); go_simp; (try with_reducible rfl)
    (try dsimp only [Act.put, List.setIfInBounds_toArray, List.set_cons_zero, List.set_cons_succ])
    refine wpAnyH_done (by kernel_rfl) (lastQ_normal ?_) _
    have HF7 := Lib.hid (TF.out.dr hd (by omega))
    have HX7 := Lib.hid (TX.out.dr hd (by omega))
    have HD7 := Lib.hid (TD.out.trans hd)
    have HS7 := Lib.hid hs7
    clear hd hs7 y0 y1 y2 hHeld
    have y0 := HX7.out.c0
    have g0 := HX7.out.fz 0
    have y1 := HX7.out.c1
    have g1 := HX7.out.fz 1
    have y2 := HX7.out.c2
    have g2 := HX7.out.fz 2
    have y3 := HX7.out.c3
    have g3 := HX7.out.fz 3
    have y4 := HX7.out.c4
    have g4 := HX7.out.fz 4
    have y5 := HX7.out.c5
    have g5 := HX7.out.fz 5
    have HXs := Lib.hid (HX7.out.set p' pw' g' (1470 + (q : Int)) 2 10)
    have HFs := Lib.hid (HF7.out.dr (setL_self (p := p') (pw := pw') (g := g') (D := 1470 + (q : Int)) (C := 2) (N := 10) X w7) (by omega))
    have HSs := Lib.hid (setL_src (B := X) (p := p') (pw := pw') (g := g') (D := 1470 + (q : Int)) (C := 2) (N := 10) HS7.out (by omega))
    have HDs := Lib.hid (setL_dr (B := X) (p := p') (pw := pw') (g := g') (D := 1470 + (q : Int)) (C := 2) (N := 10) s HD7.out (by omega))
    have r0 := HFs.out.c0
    have r1 := HFs.out.c1
    have r2 := HFs.out.c2
    have r3 := HFs.out.c3
    have r4 := HFs.out.c4
    have r5 := HFs.out.c5
    have f0 := HFs.out.fz 0
    have f1 := HFs.out.fz 1
    have f2 := HFs.out.fz 2
    have f3 := HFs.out.fz 3
    have f4 := HFs.out.fz 4
    have f5 := HFs.out.fz 5
    have x0 := HXs.out.c0
    have x1 := HXs.out.c1
    have x2 := HXs.out.c2
    have x3 := HXs.out.c3
    have x4 := HXs.out.c4
    have x5 := HXs.out.c5
    have HFF := Lib.hid (HFs.out.set (p') (pw') (g') (1470 + (q : Int)) (2) (10))
    have HSF := Lib.hid (setL_src (B := w.heap.size) (p := p') (pw := pw') (g := g') (D := 1470 + (q : Int)) (C := 2) (N := 10) HSs.out hsz)
    have HDF := Lib.hid (setL_dr (B := w.heap.size) (p := p') (pw := pw') (g := g') (D := 1470 + (q : Int)) (C := 2) (N := 10) s HDs.out (Nat.le_refl _))
    go_wp2_with fail
    (try simp only [Exit.inBlock, Exit.then])
    exact ret_cell1 HRES.out Try.underlying31 rfl (by kernel_rfl) rfl rfl HFF.out.blk ⟨_, _, _, _, _, _, rfl, by omega, by omega, by omega, by omega, by omega, by omega, HDF.out, HSF.out⟩
  · have q0 : ((k : Int) == 0) = false := by simp; omega
    have q1 : ((k : Int) == 1) = false := by simp; omega
    have q2 : ((k : Int) == 2) = false := by simp; omega
    have q3 : ((k : Int) == 3) = false := by simp; omega
    have r0 := HF4.out.c0
    have r1 := HF4.out.c1
    have r2 := HF4.out.c2
    have r3 := HF4.out.c3
    have r4 := HF4.out.c4
    have r5 := HF4.out.c5
    have f0 := HF4.out.fz 0
    have f1 := HF4.out.fz 1
    have f2 := HF4.out.fz 2
    have f3 := HF4.out.fz 3
    have f4 := HF4.out.fz 4
    have f5 := HF4.out.fz 5
    have x0 := HX4.out.c0
    have x1 := HX4.out.c1
    have x2 := HX4.out.c2
    have x3 := HX4.out.c3
    have x4 := HX4.out.c4
    have x5 := HX4.out.c5
    have HFF := Lib.hid (HF4.out.set (p) (pw) (g) (D) (C) (N))
    have HSF := Lib.hid (setL_src (B := w.heap.size) (p := p) (pw := pw) (g := g) (D := D) (C := C) (N := N) HS4.out hsz)
    have HDF := Lib.hid (setL_dr (B := w.heap.size) (p := p) (pw := pw) (g := g) (D := D) (C := C) (N := N) s HD4.out (Nat.le_refl _))
    go_wp2_with fail
    (try simp only [Exit.inBlock, Exit.then])
    exact ret_cell1 HRES.out Try.underlying31 rfl (by kernel_rfl) rfl rfl HFF.out.blk ⟨_, _, _, _, _, _, rfl, by omega, by omega, by omega, by omega, by omega, by omega, HDF.out, HSF.out⟩
end Go.Proofs.Ytfhkkpfiflgofaa
/-
  What the laws of streams draw: data; DrawEncodeStream.
-/
namespace Go.Proofs.Ytfhkkpfiflgofaa
open Go.RowKit
set_option linter.unusedVariables false

set_option maxHeartbeats 8000000 in
set_option maxRecDepth 100000 in
theorem l07DrawData_any {w : World} {s : Nat} (hs : Src w s) (p pw g D C N : Int) :
    Calls Try.prog 90 #[.pointer (some ⟨s, 0, none⟩), lV p pw g D C N] w fun e w' => ∃ v, e = .returned v ∧ Dr s w w' ∧ Src w' s ∧ ∃ zs, OwnL w' w.heap.size v zs ∧ zs.length ≤ 2001 := by
  have hsz := hs.lt
  have F0 := Lib.hid (LB.new w p pw g D C N)
  have B0 := below1 w (.cells #[.int .i64 p, .int .i64 pw, .int .i64 g, .int .i64 D, .int .i64 C, .int .i64 N] LT)
  have HS := Lib.hid (hs.below B0)
  have D0 := Lib.hid (Dr.of (s := s) B0)
  clear hs B0
  have hsz2 := sizeR_bd p pw g
  have HSZ := Lib.hid (fun W => specFieldSize_any p pw g W)
  generalize sizeR p pw g = sz at *
  go_enter Try.func90, Try.ntmps90
  have hB1 : w.heap.size < (w.alloc (.cells #[.int .i64 p, .int .i64 pw, .int .i64 g, .int .i64 D, .int .i64 C, .int .i64 N] LT)).heap.size := F0.out.lt
  generalize hw1 : w.alloc (.cells #[.int .i64 p, .int .i64 pw, .int .i64 g, .int .i64 D, .int .i64 C, .int .i64 N] LT) = w1 at *
  have F3 := Lib.hid (F0.out.below (below1 w1 (.cells #[] 2)) F0.out.lt)
  have S3 := Lib.hid (HS.out.alloc (.cells #[] 2))
  have D3 := Lib.hid ((Dr.refl s w1).alloc (.cells #[] 2))
  have HO3 := Lib.hid (OwnL.empty w1 w1.heap.size (Nat.le_refl _) w1.heap.size rfl)
  have hw1' := hw1
  go_wp2_with fail
  (try rw [hw1])
  clear hw1 hw1'
  generalize w1.alloc (.cells #[] 2) = w3 at *
  clear HS
  go_loopw [5, 6] (fun a t wr => ∃ (i : Nat) (zs : List Int), i ≤ 2000 ∧ t = .int .i64 i ∧ Hid (zs.length = i) ∧ Hid (OwnL wr w1.heap.size a zs) ∧ Hid (LB wr w.heap.size p pw g D C N) ∧ Hid (Dr s w1 wr) ∧ Hid (Src wr s)) (fun _ t _ => 2000 - (intOf t).toNat)
  case atStart => exact ⟨0, [], by omega, rfl, Lib.hid rfl, HO3, F3, D3, S3⟩
  case round =>
    clear HO3 F3 D3 S3
    obtain ⟨i, zs, hi, rfl, hlen, ho, hf, hd, hsr⟩ := hrel
    obtain ⟨a, cp, rfl, hcp, hca, hoa⟩ := ho.out.cap
    clear hca hoa
    have hl2 : zs.length ≤ 16777216 := by have := hlen.out; omega
    have x0 := hf.out.c0
    have x1 := hf.out.c1
    have x2 := hf.out.c2
    have x3 := hf.out.c3
    by_cases hgo : (i : Int) < D ∧ i < 2000
    · obtain ⟨hg1, hg2⟩ := hgo
      have hg3 : (i : Int) < 2000 := by omega
      go_wp2_with fail
      refine (HSZ.out _).mono ?_
      rintro e w5 ⟨rfl, hb5⟩
      have O5 := Lib.hid (ho.out.below hb5)
      have F5 := Lib.hid (hf.out.below hb5 hf.out.lt)
      have D5 := Lib.hid (hd.out.more hb5)
      have S5 := Lib.hid (hsr.out.below hb5)
      clear hb5 ho hf hd hsr x0 x1 x2 x3
      go_wp2_with fail
      all_goals
        refine (l01Next_any S5.out _ (by omega)).mono ?_
        rintro e w6 ⟨x, rfl, _, hd6, hs6⟩
        have O6 := Lib.hid (O5.out.dr hd6 (by omega))
        have F6 := Lib.hid (F5.out.dr hd6 (by omega))
        have D6 := Lib.hid (D5.out.trans hd6)
        have S6 := Lib.hid hs6
        clear hd6 hs6 O5 F5 D5 S5
        go_wp2_with (at_builtin; refine append_one rfl _ _ _ rfl Try.underlying26 x O6.out rfl _ rfl rfl hl2 ?_; intro v' w7 hown7 hb7)
        have O7 := Lib.hid hown7
        have F7 := Lib.hid (F6.out.below hb7 hB1)
        have D7 := Lib.hid (D6.out.moreB hb7)
        have S7 := Lib.hid (S6.out.lo (by omega) hb7)
        clear hown7 hb7 O6 F6 D6 S6
        go_wp2_with fail
        go_roundw
        case rel => exact ⟨i + 1, zs ++ [x], by omega, by go_num, Lib.hid (by rw [List.length_append, hlen.out]; rfl), O7, F7, D7, S7⟩
        case measure => simp [intOf]; omega
    · have hl2000 : zs.length ≤ 2000 := by have := hlen.out; omega
      have hgs : ¬ (i : Int) < D ∨ ((i : Int) < D ∧ ¬ (i : Int) < 2000) := by omega
      clear hgo
      rcases hgs with hg | ⟨hg, hg'⟩
      all_goals
        go_wp2_with fail
        refine (next_any hsr.out 40 (by omega) (by omega)).mono ?_
        rintro e w6 ⟨q, rfl, hq, hd6, hs6⟩
        have O6 := Lib.hid (ho.out.dr hd6 (by omega))
        have D6 := Lib.hid (hd.out.trans hd6)
        have S6 := Lib.hid hs6
        clear hd6 hs6 ho hf hd hsr x0 x1 x2 x3
        rcases (show q = 0 ∨ q = 1 ∨ 2 ≤ q by omega) with rfl | rfl | hq2
        · go_wp2_with (at_builtin; refine append_one rfl _ _ _ rfl Try.underlying26 0 O6.out rfl _ rfl rfl hl2 ?_; intro v' w7 hown7 hb7)
          have O7 := Lib.hid (hown7.lower (C := w.heap.size) (by omega))
          have D7 := Lib.hid (D0.out.trans (D6.out.moreB hb7))
          have S7 := Lib.hid (S6.out.lo (by omega) hb7)
          clear hown7 hb7
          go_wp2_with fail
          go_ret
          exact ⟨_, rfl, D7.out, S7.out, _, O7.out, by simp; omega⟩
        · by_cases hz0 : 0 < zs.length
          · have hz0' : (0 : Int) < (zs.length : Int) := by omega
            obtain ⟨g1, cp1, cur, e1, hg1, hg2, hg3, -, hoa⟩ := O6.out.form hz0
            simp only [Value.slice.injEq] at e1
            obtain ⟨rfl, -, rfl⟩ := e1
            have fzz : w6.frozen? ⟨g1, 0, none⟩ = false := by unfold World.frozen?; rw [hg3]; simp
            obtain ⟨b', o', e2, _, hcs⟩ := hoa.row.at' hz0
            cases e2
            have hcell := hcs 0 hz0
            rw [Nat.zero_add] at hcell
            have OZ := Lib.hid ((O6.out.set (k := 0) hz0 (-1)).lower (C := w.heap.size) (by omega))
            have D9 := Lib.hid (D0.out.trans (D6.out.moreB ((Below.refl w1.heap.size w6).setCell (p := ⟨g1, 0, none⟩) hg1 (.int .i64 (-1)))))
            have S9 := Lib.hid (S6.out.other (B := g1) (show s < g1 by omega) 0 (.int .i64 (-1)))
            clear hg3 hoa hcs
            go_wp2_with fail
            go_ret
            exact ⟨_, rfl, D9.out, S9.out, _, OZ.out, by simp; omega⟩
          · have hz0' : ¬ (0 : Int) < (zs.length : Int) := by omega
            have O7 := Lib.hid (O6.out.lower (C := w.heap.size) (by omega))
            have D7 := Lib.hid (D0.out.trans D6.out)
            go_wp2_with fail
            go_ret
            exact ⟨_, rfl, D7.out, S6.out, _, O7.out, by omega⟩
        · have q0 : ((q : Int) == 0) = false := by simp; omega
          have q1 : ((q : Int) == 1) = false := by simp; omega
          have O7 := Lib.hid (O6.out.lower (C := w.heap.size) (by omega))
          have D7 := Lib.hid (D0.out.trans D6.out)
          go_wp2_with fail
          go_ret
          exact ⟨_, rfl, D7.out, S6.out, _, O7.out, by omega⟩
/-- A drawn layout behind its copy. -/
structure LSt (w0 W : World) (R X s : Nat) (p pw g D C N : Int) : Prop where
  res : LB W R 0 0 0 0 0 0
  fld : LB W X p pw g D C N
  src : Src W s
  bel : Below w0.heap.size w0 W
  r0 : R = w0.heap.size
  rs : R < s
  sx : s < X
section
variable {w0 W W' : World} {R X s : Nat} {p pw g D C N : Int}
theorem LSt.below (h : LSt w0 W R X s p pw g D C N) (hb : Below W.heap.size W W') : LSt w0 W' R X s p pw g D C N :=
  ⟨h.res.below hb h.res.lt, h.fld.below hb h.fld.lt, h.src.below hb, h.bel.trans (hb.mono h.bel.size), h.r0, h.rs, h.sx⟩
theorem LSt.drS (h : LSt w0 W R X s p pw g D C N) (hd : Dr s W W') (hs : Src W' s) : LSt w0 W' R X s p pw g D C N := by
  have h1 := h.rs; have h2 := h.sx; have h3 := h.r0
  exact ⟨h.res.dr hd (by omega), h.fld.dr hd (by omega), hs, h.bel.trans (hd.below (by omega) h.bel.size), h.r0, h.rs, h.sx⟩
end
theorem setL_own {w : World} {A B : Nat} {v : Value} {zs : List Int} {p pw g D C N : Int} (h : OwnL w A v zs) (hB : B < A) : OwnL (setL w B p pw g D C N) A v zs := h.dr (setL_self B w) hB
end Go.Proofs.Ytfhkkpfiflgofaa
