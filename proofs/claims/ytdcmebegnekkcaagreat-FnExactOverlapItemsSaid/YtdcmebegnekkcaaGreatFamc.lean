/-
  The parts FamJ, FamK.
-/
import Derived.Test.YtdcmebegnekkcaaGreatFamb
import Derived.Test.YtdcmebegnekkcaaGreatLocs
/-
  The five families are valid, in both programs: the parts.
-/
namespace Go.Proofs.YtdcmebegnekkcaaGreat
open Go.RowKit
set_option linter.unusedVariables false

set_option maxHeartbeats 4000000 in
theorem l13Rises_yes (lo hi most : Int) {w : World} {a : Option Addr} {n cap : Nat} {zs : List Int} (hr : RowAt w a n zs) (h1 : 1 ≤ n) (h2 : (n : Int) ≤ most) (hR : RisTo lo hi zs n) :
    Calls Tryz.prog 65 #[.slice a n cap, .int .i64 most, .int .i64 lo, .int .i64 hi] w fun e w' => e = .returned (.bool true) ∧ Below w.heap.size w w' := by
  have HR := Lib.hid hr
  have hsm := hr.small
  have HRR := Lib.hid hR
  have e1 : ¬ (n : Int) < 1 := by omega
  have e2 : ¬ most < (n : Int) := by omega
  clear hr hR
  go_enter Tryz.func65, Tryz.ntmps65
  go_wp2_with fail
  go_loopw [9] (fun ti wr => ∃ k : Nat, k ≤ n ∧ ti = .int .i64 (k : Int) ∧ Hid (Drew w wr)) (fun ti _ => n - (intOf ti).toNat)
  case atStart => exact ⟨0, by omega, rfl, Lib.hid ⟨0, rfl⟩⟩
  case round =>
    obtain ⟨k, hk, rfl, hD⟩ := hrel
    by_cases hlt : k < n
    · obtain ⟨b1, o1, rfl, hb1, hcs⟩ := (HR.out.below' (hD.out.below _)).at' (by omega)
      have hcell := hcs k hlt
      obtain ⟨r1, r2, r3⟩ := HRR.out k hlt
      have hin := inR_true r1 r2
      have HIN := Lib.hid (fun (W : World) => (show Calls Tryz.prog 31 #[.int .i64 (gi zs k), .int .i64 lo, .int .i64 hi] W (fun e w' => e = .returned (.bool true) ∧ w' = W) from (l01In_any (gi zs k) lo hi W).mono fun e w' h => ⟨by rw [h.1, hin], h.2.symm⟩))
      by_cases h0 : 0 < k
      · have hcell2 := hcs (k - 1) (by omega)
        have r4 := r3 h0
        obtain ⟨j, hj⟩ : ∃ j, k = j + 1 := ⟨k - 1, by omega⟩
        have et : (k : Int) - 1 = (j : Int) := by omega
        have et2 : (0 : Int) < (k : Int) := by omega
        have ej : k - 1 = j := by omega
        rw [ej] at hcell2 r4
        have hjn : j < n := by omega
        have hkl : (k : Int) < (n : Int) := by omega
        have hjl : (j : Int) < (n : Int) := by omega
        have hd1 : decide ((0 : Int) < (k : Int)) = true := by simp; omega
        have hd2 : decide (gi zs k ≤ gi zs j) = false := by simp; omega
        clear hcs hin r1 r2 r3 hj ej
        generalize gi zs k = x at *
        generalize gi zs j = y at *
        go_wp2_with fail
        go_quiet (first | (go_at_call 31; exact Calls.quiet_of_same (HIN.out _)))
        go_wp2_with fail
        go_roundw
        case rel => exact ⟨k + 1, by omega, by go_num, Lib.hid (hD.out.trans (drew4 _ _))⟩
        case measure => simp [intOf]; omega
      · have hd1 : decide ((0 : Int) < (k : Int)) = false := by simp; omega
        have HK0 := Lib.hid (show k = 0 by omega)
        have hkl : (k : Int) < (n : Int) := by omega
        clear hcs hin r1 r2 r3 h0
        generalize gi zs k = x at *
        have hcd : wr.drew.cell? ⟨b1, o1 + k, none⟩ = some (.int .i64 x) := hcell
        go_wp2_with fail
        refine wp_region_S (S := (fun w' => w'.cell? ⟨b1, o1 + k, none⟩ = some (.int .i64 x))) 24 rfl (by kernel_rfl) ?_ (fun hHeld => ?_)
        · (try dsimp only); exact hcd
        refine wpAnyH_take (i := 0) (oi := _) (v := ?_) rfl (by kernel_rfl) (by kernel_rfl) (by kernel_rfl) (fun _ _ _ h => h) (Or.inl ⟨by kernel_rfl, ?_⟩) hHeld ?_
        rotate_left
        · intro w0 hSw; (try dsimp only at hSw); go_simp; (try with_reducible rfl)
        (try dsimp only [Act.put, List.setIfInBounds_toArray, List.set_cons_zero, List.set_cons_succ])
        refine wpAnyH_take (i := 1) (oi := _) (v := ?_) rfl (by kernel_rfl) (by kernel_rfl) (by kernel_rfl) (fun _ _ _ h => h) (Or.inl ⟨by kernel_rfl, ?_⟩) hHeld ?_
        rotate_left
        · intro w0 hSw; (try dsimp only at hSw); go_simp; (try with_reducible rfl)
        (try dsimp only [Act.put, List.setIfInBounds_toArray, List.set_cons_zero, List.set_cons_succ])
        refine wpAnyH_take (i := 2) (oi := _) (v := ?_) rfl (by kernel_rfl) (by kernel_rfl) (by kernel_rfl) (fun _ _ _ h => h) (Or.inl ⟨by kernel_rfl, ?_⟩) hHeld ?_
        rotate_left
        · intro w0 hSw; (try dsimp only at hSw); go_simp; (try with_reducible rfl)
        (try dsimp only [Act.put, List.setIfInBounds_toArray, List.set_cons_zero, List.set_cons_succ])
        refine wpAnyH_take (i := 3) (oi := _) (v := ?_) rfl (by kernel_rfl) (by kernel_rfl) (by kernel_rfl) (fun _ _ _ h => h) (Or.inl ⟨by kernel_rfl, ?_⟩) hHeld ?_
        rotate_left
        · intro w0 hSw; (try dsimp only at hSw); go_simp; (try with_reducible rfl)
        (try dsimp only [Act.put, List.setIfInBounds_toArray, List.set_cons_zero, List.set_cons_succ])
        refine wpAnyH_take (i := 4) (oi := _) (v := ?_) rfl (by kernel_rfl) (by kernel_rfl) (by kernel_rfl) (fun _ _ _ h => h) (Or.inl ⟨by kernel_rfl, ?_⟩) hHeld ?_
        rotate_left
        · intro w0 hSw; (try dsimp only at hSw); go_simp; (try with_reducible rfl)
        (try dsimp only [Act.put, List.setIfInBounds_toArray, List.set_cons_zero, List.set_cons_succ])
        refine wpAnyH_take (i := 5) (oi := _) (v := ?_) rfl (by kernel_rfl) (by kernel_rfl) (by kernel_rfl) (fun _ _ _ h => h) (Or.inl ⟨by kernel_rfl, ?_⟩) hHeld ?_
        rotate_left
        · intro w0 hSw; (try dsimp only at hSw); go_simp; (try with_reducible rfl)
        (try dsimp only [Act.put, List.setIfInBounds_toArray, List.set_cons_zero, List.set_cons_succ])
        refine wpAnyH_ready (rs := [6]) (by kernel_rfl) (by simp) ?_
        refine AllReadyH.cons (o := _) rfl (fun K hK => ?_) AllReadyH.nil
        go_simp
        refine (HIN.out _).mono ?_
        rintro e w5 ⟨rfl, rfl⟩
        go_wp2_with fail
        refine hK.out _ _ ?_ (fun hHeld => ?_)
        · (try dsimp only); exact hHeld
        clear hK K
        (try dsimp only [Act.put, List.setIfInBounds_toArray, List.set_cons_zero, List.set_cons_succ])
        refine wpAnyH_take (i := 7) (oi := _) (v := ?_) rfl (by kernel_rfl) (by kernel_rfl) (by kernel_rfl) (fun _ _ _ h => h) (Or.inl ⟨by kernel_rfl, ?_⟩) hHeld ?_
        rotate_left
        · intro w0 hSw; (try dsimp only at hSw); go_simp; (try with_reducible rfl)
        (try dsimp only [Act.put, List.setIfInBounds_toArray, List.set_cons_zero, List.set_cons_succ])
        refine wpAnyH_take (i := 8) (oi := _) (v := .bool false) rfl (by kernel_rfl) (by kernel_rfl) (by kernel_rfl) (fun _ _ _ h => h) (Or.inl ⟨by kernel_rfl, ?_⟩) hHeld ?_
        · intro w0 hSw; (try dsimp only at hSw); go_simp <;> (first | done | rfl)
        (try dsimp only [Act.put, List.setIfInBounds_toArray, List.set_cons_zero, List.set_cons_succ])
        refine wpAnyH_take (i := 9) (oi := _) (v := ?_) rfl (by kernel_rfl) (by kernel_rfl) (by kernel_rfl) (fun _ _ _ h => h) (Or.inl ⟨by kernel_rfl, ?_⟩) hHeld ?_
        rotate_left
        · intro w0 hSw; (try dsimp only at hSw); go_simp; (try with_reducible rfl)
        (try dsimp only [Act.put, List.setIfInBounds_toArray, List.set_cons_zero, List.set_cons_succ])
        refine wpAnyH_take (i := 10) (oi := _) (v := .bool false) rfl (by kernel_rfl) (by kernel_rfl) (by kernel_rfl) (fun _ _ _ h => h) (Or.inl ⟨by kernel_rfl, ?_⟩) hHeld ?_
        · intro w0 hSw; (try dsimp only at hSw); go_simp <;> (first | done | rfl | omega | (exact HK0.out))
        (try dsimp only [Act.put, List.setIfInBounds_toArray, List.set_cons_zero, List.set_cons_succ])
        refine wpAnyH_take (i := 11) (oi := _) (v := .bool false) rfl (by kernel_rfl) (by kernel_rfl) (by kernel_rfl) (fun _ _ _ h => h) (Or.inl ⟨by kernel_rfl, ?_⟩) hHeld ?_
        · intro w0 hSw; (try dsimp only at hSw); go_simp <;> (first | done | rfl)
        (try dsimp only [Act.put, List.setIfInBounds_toArray, List.set_cons_zero, List.set_cons_succ])
        refine wpAnyH_take (i := 12) (oi := _) (v := undef) rfl (by kernel_rfl) (by kernel_rfl) (by kernel_rfl) (fun _ _ _ h => h) (Or.inr ⟨by kernel_rfl, rfl⟩) hHeld ?_
        (try dsimp only [Act.put, List.setIfInBounds_toArray, List.set_cons_zero, List.set_cons_succ])
        refine wpAnyH_take (i := 13) (oi := _) (v := undef) rfl (by kernel_rfl) (by kernel_rfl) (by kernel_rfl) (fun _ _ _ h => h) (Or.inr ⟨by kernel_rfl, rfl⟩) hHeld ?_
        (try dsimp only [Act.put, List.setIfInBounds_toArray, List.set_cons_zero, List.set_cons_succ])
        refine wpAnyH_take (i := 14) (oi := _) (v := undef) rfl (by kernel_rfl) (by kernel_rfl) (by kernel_rfl) (fun _ _ _ h => h) (Or.inr ⟨by kernel_rfl, rfl⟩) hHeld ?_
        (try dsimp only [Act.put, List.setIfInBounds_toArray, List.set_cons_zero, List.set_cons_succ])
        refine wpAnyH_take (i := 15) (oi := _) (v := undef) rfl (by kernel_rfl) (by kernel_rfl) (by kernel_rfl) (fun _ _ _ h => h) (Or.inr ⟨by kernel_rfl, rfl⟩) hHeld ?_
        (try dsimp only [Act.put, List.setIfInBounds_toArray, List.set_cons_zero, List.set_cons_succ])
        refine wpAnyH_take (i := 16) (oi := _) (v := undef) rfl (by kernel_rfl) (by kernel_rfl) (by kernel_rfl) (fun _ _ _ h => h) (Or.inr ⟨by kernel_rfl, rfl⟩) hHeld ?_
        (try dsimp only [Act.put, List.setIfInBounds_toArray, List.set_cons_zero, List.set_cons_succ])
        refine wpAnyH_take (i := 17) (oi := _) (v := undef) rfl (by kernel_rfl) (by kernel_rfl) (by kernel_rfl) (fun _ _ _ h => h) (Or.inr ⟨by kernel_rfl, rfl⟩) hHeld ?_
        (try dsimp only [Act.put, List.setIfInBounds_toArray, List.set_cons_zero, List.set_cons_succ])
        refine wpAnyH_take (i := 18) (oi := _) (v := undef) rfl (by kernel_rfl) (by kernel_rfl) (by kernel_rfl) (fun _ _ _ h => h) (Or.inr ⟨by kernel_rfl, rfl⟩) hHeld ?_
        (try dsimp only [Act.put, List.setIfInBounds_toArray, List.set_cons_zero, List.set_cons_succ])
        refine wpAnyH_take (i := 19) (oi := _) (v := undef) rfl (by kernel_rfl) (by kernel_rfl) (by kernel_rfl) (fun _ _ _ h => h) (Or.inr ⟨by kernel_rfl, rfl⟩) hHeld ?_
        (try dsimp only [Act.put, List.setIfInBounds_toArray, List.set_cons_zero, List.set_cons_succ])
        refine wpAnyH_take (i := 20) (oi := _) (v := undef) rfl (by kernel_rfl) (by kernel_rfl) (by kernel_rfl) (fun _ _ _ h => h) (Or.inr ⟨by kernel_rfl, rfl⟩) hHeld ?_
        (try dsimp only [Act.put, List.setIfInBounds_toArray, List.set_cons_zero, List.set_cons_succ])
        refine wpAnyH_take (i := 21) (oi := _) (v := undef) rfl (by kernel_rfl) (by kernel_rfl) (by kernel_rfl) (fun _ _ _ h => h) (Or.inr ⟨by kernel_rfl, rfl⟩) hHeld ?_
        (try dsimp only [Act.put, List.setIfInBounds_toArray, List.set_cons_zero, List.set_cons_succ])
        refine wpAnyH_take (i := 22) (oi := _) (v := ?_) rfl (by kernel_rfl) (by kernel_rfl) (by kernel_rfl) (fun _ _ _ h => h) (Or.inl ⟨by kernel_rfl, ?_⟩) hHeld ?_
        rotate_left
        · intro w0 hSw; (try dsimp only at hSw); go_simp; (try with_reducible rfl)
        (try dsimp only [Act.put, List.setIfInBounds_toArray, List.set_cons_zero, List.set_cons_succ])
        refine wpAnyH_take (i := 23) (oi := _) (v := ?_) rfl (by kernel_rfl) (by kernel_rfl) (by kernel_rfl) (fun _ _ _ h => h) (Or.inl ⟨by kernel_rfl, ?_⟩) hHeld ?_
        rotate_left
        · intro w0 hSw; (try dsimp only at hSw); go_simp; (try with_reducible rfl)
        (try dsimp only [Act.put, List.setIfInBounds_toArray, List.set_cons_zero, List.set_cons_succ])
        refine wpAnyH_done (by kernel_rfl) ?_ _
        go_simp
        have HD2 := Lib.hid (hD.out.trans (drew1 wr))
        go_wp2_with fail
        go_roundw
        case rel => exact ⟨k + 1, by omega, by go_num, HD2⟩
        case measure => simp [intOf]; omega
    · obtain rfl : k = n := by omega
      go_wp2_with fail
      go_ret
      exact ⟨rfl, hD.out.below _⟩
/-- A name of small letters. -/
def okN (l : List UInt8) : Prop := (∀ i (h : i < l.length), 97 ≤ (l[i].toNat : Int) ∧ (l[i].toNat : Int) ≤ 122) ∧ 1 ≤ l.length ∧ l.length ≤ 8
theorem okN_of (l : List UInt8) (h : (l.all fun b => decide (97 ≤ b.toNat ∧ b.toNat ≤ 122)) = true) (h1 : 1 ≤ l.length) (h2 : l.length ≤ 8) : okN l :=
  ⟨fun i hi => by have := List.all_eq_true.1 h _ (List.getElem_mem hi); simp only [decide_eq_true_eq] at this; omega, h1, h2⟩
theorem fnm_ok (k : Nat) : okN (fnm k) := by
  unfold fnm
  repeat' split
  all_goals exact okN_of _ (by decide) (by decide) (by decide)
set_option maxHeartbeats 1000000 in
theorem l13Name_yes {l : List UInt8} (hl : okN l) (w : World) :
    Calls Tryz.prog 63 #[.string (str l)] w fun e w' => e = .returned (.bool true) ∧ w = w' := by
  have hsz := str_size l
  obtain ⟨h1, h2, h3⟩ := hl
  have H1 := Lib.hid h1
  have e1 : (1 : Int) ≤ (l.length : Int) := by omega
  have e2 : (l.length : Int) ≤ 8 := by omega
  clear h1
  go_enter Tryz.func63, Tryz.ntmps63
  go_wp2_with fail
  go_loopw [3] (fun ti wr => ∃ i : Nat, i ≤ l.length ∧ ti = .int .i64 (i : Int) ∧ wr = w) (fun ti _ => l.length - (intOf ti).toNat)
  case atStart => exact ⟨0, by omega, rfl, rfl⟩
  case round =>
    obtain ⟨i, hi, rfl, rfl⟩ := hrel
    by_cases hlt : i < l.length
    · have hb := H1.out i hlt
      have b1 : ¬ ((((str l)[i]'(by rw [hsz]; exact hlt)).toNat : Int)) < 97 := by rw [str_get]; omega
      have b2 : ¬ 122 < ((((str l)[i]'(by rw [hsz]; exact hlt)).toNat : Int)) := by rw [str_get]; omega
      clear hb
      go_wp2_with fail
      go_roundw
      case rel => exact ⟨i + 1, by omega, by go_num, trivial⟩
      case measure => simp [intOf]; omega
    · obtain rfl : i = l.length := by omega
      go_wp2_with fail
      go_ret
      exact ⟨rfl, rfl⟩
set_option maxHeartbeats 1000000 in
theorem isName_yes {l : List UInt8} (hl : okN l) (w : World) :
    Calls Tryz.prog 133 #[.string (str l)] w fun e w' => e = .returned (.bool true) ∧ w = w' := by
  have hsz := str_size l
  obtain ⟨h1, h2, h3⟩ := hl
  have H1 := Lib.hid h1
  have e1 : (1 : Int) ≤ (l.length : Int) := by omega
  have e2 : (l.length : Int) ≤ 8 := by omega
  clear h1
  go_enter Tryz.func133, Tryz.ntmps133
  go_wp2_with fail
  go_loopw [3] (fun ti wr => ∃ i : Nat, i ≤ l.length ∧ ti = .int .i64 (i : Int) ∧ wr = w) (fun ti _ => l.length - (intOf ti).toNat)
  case atStart => exact ⟨0, by omega, rfl, rfl⟩
  case round =>
    obtain ⟨i, hi, rfl, rfl⟩ := hrel
    by_cases hlt : i < l.length
    · have hb := H1.out i hlt
      have b1 : ¬ ((((str l)[i]'(by rw [hsz]; exact hlt)).toNat : Int)) < 97 := by rw [str_get]; omega
      have b2 : ¬ 122 < ((((str l)[i]'(by rw [hsz]; exact hlt)).toNat : Int)) := by rw [str_get]; omega
      clear hb
      go_wp2_with fail
      go_roundw
      case rel => exact ⟨i + 1, by omega, by go_num, trivial⟩
      case measure => simp [intOf]; omega
    · obtain rfl : i = l.length := by omega
      go_wp2_with fail
      refine (inRange_any _ _ _ _).mono ?_
      rintro e w2 ⟨rfl, rfl⟩
      rw [inR_true e1 e2]
      go_wp2_with fail
      go_ret
      exact ⟨rfl, rfl⟩
theorem isMatrixSize_any (n : Int) (w : World) :
    Calls Tryz.prog 135 #[.int .i64 n] w fun e w' => e = .returned (.bool (inR n 17 41 && (n.tmod 4 == 1))) ∧ w = w' := by
  go_enter Tryz.func135, Tryz.ntmps135
  go_wp2_with fail
  refine (inRange_any _ _ _ _).mono ?_
  rintro e w2 ⟨rfl, rfl⟩
  cases h : inR n 17 41 with
  | true =>
    have hb := inR_iff.1 h
    have hw : IntKind.i64.wrap (n.tmod 4) = n.tmod 4 := by
      have := Int.tmod_eq_emod_of_nonneg (a := n) (b := 4) (by omega)
      rw [this]; exact (wrp (by omega)).2
    have HE := Lib.hid h
    clear h hb
    go_wp2_with fail
    go_ret
    exact ⟨by rw [HE.out]; rfl, rfl⟩
  | false =>
    have HE := Lib.hid h
    clear h
    go_wp2_with fail
    go_ret
    exact ⟨by rw [HE.out]; rfl, rfl⟩
end Go.Proofs.YtdcmebegnekkcaaGreat
/-
  The five families are valid, in both programs.
-/
namespace Go.Proofs.YtdcmebegnekkcaaGreat
open Go.RowKit
set_option linter.unusedVariables false

theorem ris_of {lo hi : Int} (zs : List Int) (h : ((List.range zs.length).all fun k => decide (lo ≤ gi zs k ∧ gi zs k ≤ hi ∧ (0 < k → gi zs (k - 1) < gi zs k))) = true) : RisTo lo hi zs zs.length := fun k hk => by
  have := List.all_eq_true.1 h k (List.mem_range.2 hk)
  simp only [decide_eq_true_eq] at this
  exact this
theorem flv_ris (k : Nat) : RisTo 1 80 (flv k) (flv k).length := by
  unfold flv
  repeat' split
  all_goals exact ris_of _ (by decide)
theorem fsz_ris (k : Nat) (hk : k ≤ 2) : RisTo 17 41 (fsz k) (fsz k).length := by
  rcases (show k = 0 ∨ k = 1 ∨ k = 2 by omega) with rfl | rfl | rfl
  all_goals exact ris_of _ (by decide)
theorem fsz_ris2 (k : Nat) (hk : ¬ k ≤ 2) (h5 : k < 5) : RisTo 3 24 (fsz k) (fsz k).length := by
  rcases (show k = 3 ∨ k = 4 by omega) with rfl | rfl
  all_goals exact ris_of _ (by decide)
theorem fsz_mod (k : Nat) (hk : k ≤ 2) (i : Nat) (hi : i < (fsz k).length) : (gi (fsz k) i).tmod 4 = 1 ∧ 17 ≤ gi (fsz k) i ∧ gi (fsz k) i ≤ 41 := by
  have h := fsz_ris k hk i hi
  refine ⟨?_, h.1, h.2.1⟩
  have h2 : ∀ x ∈ fsz k, x.tmod 4 = 1 := by
    rcases (show k = 0 ∨ k = 1 ∨ k = 2 by omega) with rfl | rfl | rfl <;> decide
  have e : gi (fsz k) i = (fsz k)[i] := by unfold gi; rw [List.getD_eq_getElem?_getD, List.getElem?_eq_getElem hi]; rfl
  rw [e]; exact h2 _ (List.getElem_mem hi)
theorem fm_box (w : World) (k a c : Nat) : Tf (w.alloc (.cells (fcs k a c).toArray FmT)) w.heap.size 8 FmT (fcF k a c) :=
  (Tf.mkd w (fcs k a c).toArray FmT).congr fun i hi => by
    have hi : i < 8 := hi
    rcases (show i = 0 ∨ i = 1 ∨ i = 2 ∨ i = 3 ∨ i = 4 ∨ i = 5 ∨ i = 6 ∨ i = 7 by omega) with rfl | rfl | rfl | rfl | rfl | rfl | rfl | rfl <;> rfl
set_option maxHeartbeats 8000000 in
set_option maxRecDepth 100000 in
theorem specIsFamily_yes {k : Nat} (hk : k < 5) {w : World} {a c : Nat} (hR : FamR w k a c) :
    Calls Tryz.prog 59 #[fmV k a c] w fun e w' => e = .returned (.bool true) ∧ Below w.heap.size w w' := by
  have T0 := Lib.hid (fm_box w k a c)
  have B0 := Lib.hid (below1 w (.cells (fcs k a c).toArray FmT))
  have R0 := Lib.hid (hR.below (below1 w (.cells (fcs k a c).toArray FmT)))
  have hl1 := flv_len k
  have hl2 := fsz_len k
  have HV := Lib.hid (flf k).ok
  clear hR
  go_enter Tryz.func59, Tryz.ntmps59
  obtain ⟨X, hX⟩ : ∃ X, w.heap.size = X := ⟨_, rfl⟩
  obtain ⟨w1, hw1⟩ : ∃ w1, w.alloc (.cells (fcs k a c).toArray FmT) = w1 := ⟨_, rfl⟩
  rw [hw1] at T0 B0 R0
  rw [hX] at T0
  have q0 : w1.cell? ⟨X, 0, none⟩ = some (.string (str (fnm k))) := T0.out.cell (i := 0) (by omega)
  have q1 : w1.cell? ⟨X, 1, none⟩ = some (.int .i64 (fkd k)) := T0.out.cell (i := 1) (by omega)
  have q2 : w1.cell? ⟨X, 2, none⟩ = some (.int .i64 2) := T0.out.cell (i := 2) (by omega)
  have q3 : w1.cell? ⟨X, 3, none⟩ = some (.int .i64 ((fpw k : Nat) : Int)) := T0.out.cell (i := 3) (by omega)
  have q4 : w1.cell? ⟨X, 4, none⟩ = some (.int .i64 (fg0 k)) := T0.out.cell (i := 4) (by omega)
  have q5 : w1.cell? ⟨X, 5, none⟩ = some (.slice (some ⟨a, 0, none⟩) (fsz k).length (fsz k).length) := T0.out.cell (i := 5) (by omega)
  have q6 : w1.cell? ⟨X, 6, none⟩ = some (.int .i64 (fco k)) := T0.out.cell (i := 6) (by omega)
  have q7 : w1.cell? ⟨X, 7, none⟩ = some (.slice (some ⟨c, 0, none⟩) (flv k).length (flv k).length) := T0.out.cell (i := 7) (by omega)
  have hX1 : X < w1.heap.size := T0.out.lt
  go_wp2_with fail
  (try rw [show w.alloc (.cells #[.string (str (fnm k)), .int .i64 (fkd k), .int .i64 2, .int .i64 ((fpw k : Nat) : Int), .int .i64 (fg0 k), .slice (some ⟨a, 0, none⟩) (fsz k).length (fsz k).length, .int .i64 (fco k), .slice (some ⟨c, 0, none⟩) (flv k).length (flv k).length] FmT) = w1 from hw1])
  clear hw1
  refine (l13Name_yes (fnm_ok k) _).mono ?_
  rintro e w2 ⟨rfl, rfl⟩
  go_wp2_with fail
  refine (isField_any _ _ _ _).mono ?_
  rintro e w2 ⟨rfl, hb2⟩
  rw [HV.out]
  have T2 := Lib.hid (T0.out.below hb2 T0.out.lt)
  have R2 := Lib.hid (R0.out.below hb2)
  have B2 := Lib.hid (B0.out.trans (hb2.mono B0.out.size))
  clear hb2 T0 R0 B0 q0 q1 q2 q3 q4 q5 q6 q7
  have q0 : w2.cell? ⟨X, 0, none⟩ = some (.string (str (fnm k))) := T2.out.cell (i := 0) (by omega)
  have q1 : w2.cell? ⟨X, 1, none⟩ = some (.int .i64 (fkd k)) := T2.out.cell (i := 1) (by omega)
  have q2 : w2.cell? ⟨X, 2, none⟩ = some (.int .i64 2) := T2.out.cell (i := 2) (by omega)
  have q3 : w2.cell? ⟨X, 3, none⟩ = some (.int .i64 ((fpw k : Nat) : Int)) := T2.out.cell (i := 3) (by omega)
  have q4 : w2.cell? ⟨X, 4, none⟩ = some (.int .i64 (fg0 k)) := T2.out.cell (i := 4) (by omega)
  have q5 : w2.cell? ⟨X, 5, none⟩ = some (.slice (some ⟨a, 0, none⟩) (fsz k).length (fsz k).length) := T2.out.cell (i := 5) (by omega)
  have q6 : w2.cell? ⟨X, 6, none⟩ = some (.int .i64 (fco k)) := T2.out.cell (i := 6) (by omega)
  have q7 : w2.cell? ⟨X, 7, none⟩ = some (.slice (some ⟨c, 0, none⟩) (flv k).length (flv k).length) := T2.out.cell (i := 7) (by omega)
  have hX1 : X < w2.heap.size := T2.out.lt
  go_wp2_with fail
  refine (l13Rises_yes _ _ _ R2.out.lv hl1.1 (by omega) (flv_ris k)).mono ?_
  rintro e w3 ⟨rfl, hb3⟩
  have T3 := Lib.hid (T2.out.below hb3 T2.out.lt)
  have R3 := Lib.hid (R2.out.below hb3)
  have B3 := Lib.hid (B2.out.trans (hb3.mono B2.out.size))
  clear hb3 T2 R2 B2 q0 q1 q2 q3 q4 q5 q6 q7
  have hX1 : X < w3.heap.size := T3.out.lt
  have q0 : w3.cell? ⟨X, 0, none⟩ = some (.string (str (fnm k))) := T3.out.cell (i := 0) (by omega)
  have q1 : w3.cell? ⟨X, 1, none⟩ = some (.int .i64 (fkd k)) := T3.out.cell (i := 1) (by omega)
  have q2 : w3.cell? ⟨X, 2, none⟩ = some (.int .i64 2) := T3.out.cell (i := 2) (by omega)
  have q3 : w3.cell? ⟨X, 3, none⟩ = some (.int .i64 ((fpw k : Nat) : Int)) := T3.out.cell (i := 3) (by omega)
  have q4 : w3.cell? ⟨X, 4, none⟩ = some (.int .i64 (fg0 k)) := T3.out.cell (i := 4) (by omega)
  have q5 : w3.cell? ⟨X, 5, none⟩ = some (.slice (some ⟨a, 0, none⟩) (fsz k).length (fsz k).length) := T3.out.cell (i := 5) (by omega)
  have q6 : w3.cell? ⟨X, 6, none⟩ = some (.int .i64 (fco k)) := T3.out.cell (i := 6) (by omega)
  have q7 : w3.cell? ⟨X, 7, none⟩ = some (.slice (some ⟨c, 0, none⟩) (flv k).length (flv k).length) := T3.out.cell (i := 7) (by omega)
  by_cases hk2 : k ≤ 2
  · have k1 : (fkd k == 2) = false := by unfold fkd; rw [if_pos hk2]; rfl
    have k2 : (fkd k != 1) = false := by unfold fkd; rw [if_pos hk2]; rfl
    have k3 : (fco k != 0) = false := by unfold fco; rw [if_pos hk2]; rfl
    have HR2 := Lib.hid (fsz_ris k hk2)
    have HM := Lib.hid (fsz_mod k hk2)
    go_wp2_with fail
    refine (l13Rises_yes _ _ _ R3.out.sz (by omega) (by omega) HR2.out).mono ?_
    rintro e w4 ⟨rfl, hb4⟩
    have T4 := Lib.hid (T3.out.below hb4 T3.out.lt)
    have R4 := Lib.hid (R3.out.below hb4)
    have B4 := Lib.hid (B3.out.trans (hb4.mono B3.out.size))
    clear hb4 T3 R3 B3 q0 q1 q2 q3 q4 q5 q6 q7 k1 k2 k3
    have hX1 : X < w4.heap.size := T4.out.lt
    have q0 : w4.cell? ⟨X, 0, none⟩ = some (.string (str (fnm k))) := T4.out.cell (i := 0) (by omega)
    have q1 : w4.cell? ⟨X, 1, none⟩ = some (.int .i64 (fkd k)) := T4.out.cell (i := 1) (by omega)
    have q2 : w4.cell? ⟨X, 2, none⟩ = some (.int .i64 2) := T4.out.cell (i := 2) (by omega)
    have q3 : w4.cell? ⟨X, 3, none⟩ = some (.int .i64 ((fpw k : Nat) : Int)) := T4.out.cell (i := 3) (by omega)
    have q4 : w4.cell? ⟨X, 4, none⟩ = some (.int .i64 (fg0 k)) := T4.out.cell (i := 4) (by omega)
    have q5 : w4.cell? ⟨X, 5, none⟩ = some (.slice (some ⟨a, 0, none⟩) (fsz k).length (fsz k).length) := T4.out.cell (i := 5) (by omega)
    have q6 : w4.cell? ⟨X, 6, none⟩ = some (.int .i64 (fco k)) := T4.out.cell (i := 6) (by omega)
    have q7 : w4.cell? ⟨X, 7, none⟩ = some (.slice (some ⟨c, 0, none⟩) (flv k).length (flv k).length) := T4.out.cell (i := 7) (by omega)
    go_wp2_with fail
    go_loopw [5] (fun ti wr => ∃ i : Nat, i ≤ (fsz k).length ∧ ti = .int .i64 (i : Int) ∧ wr = w4) (fun ti _ => (fsz k).length - (intOf ti).toNat)
    case atStart => exact ⟨0, by omega, rfl, rfl⟩
    case round =>
      obtain ⟨i, hi, rfl, rfl⟩ := hrel
      by_cases hlt : i < (fsz k).length
      · obtain ⟨b1, o1, e1, hb1, hcs⟩ := R4.out.sz.at' (by omega)
        obtain ⟨rfl, rfl, -⟩ : a = b1 ∧ 0 = o1 ∧ True := by simpa using e1
        have hcell := hcs i hlt
        obtain ⟨m1, m2, m3⟩ := HM.out i hlt
        rw [Nat.zero_add] at hcell
        clear hcs e1
        generalize hz : gi (fsz k) i = z at *
        clear hz
        have m5 : (z % 4 != 1) = false := by rw [← Int.tmod_eq_emod_of_nonneg (by omega), m1]; rfl
        clear m1
        go_wp2_with fail
        go_roundw
        case rel => exact ⟨i + 1, by omega, by go_num, trivial⟩
        case measure => simp [intOf]; omega
      · obtain rfl : i = (fsz k).length := by omega
        go_wp2_with fail
        go_ret
        exact ⟨rfl, hX ▸ B4.out⟩
  · have k1 : (fkd k == 2) = true := by unfold fkd; rw [if_neg hk2]; rfl
    have e3 : ((fpw k : Nat) : Int) = 5 := by rcases (show k = 3 ∨ k = 4 by omega) with rfl | rfl <;> rfl
    have e4 : fg0 k = 37 := by rcases (show k = 3 ∨ k = 4 by omega) with rfl | rfl <;> rfl
    have e5 : inR (fco k) 1 8 = true := by rcases (show k = 3 ∨ k = 4 by omega) with rfl | rfl <;> exact inR_true (by decide) (by decide)
    rw [e3] at q3
    rw [e4] at q4
    have E3 := Lib.hid e3
    have E4 := Lib.hid e4
    have HR2 := Lib.hid (fsz_ris2 k hk2 hk)
    clear e3 e4
    go_wp2_with fail
    refine (specFieldOf_at lf32 _).mono ?_
    rintro e w4 ⟨rfl, hb4⟩
    obtain ⟨w5, hw5⟩ : ∃ w5, w4.alloc (.cells #[.int .i64 2, .int .i64 5, .int .i64 37] FTa) = w5 := ⟨_, rfl⟩
    have hb5 : Below w3.heap.size w3 w5 := by rw [← hw5]; exact hb4.trans ((below1 _ _).mono hb4.size)
    have F5 : FB w5 w4.heap.size 2 5 37 := by rw [← hw5]; exact FB.new _ _ _ _
    have T4 := Lib.hid (T3.out.below hb5 T3.out.lt)
    have R4 := Lib.hid (R3.out.below hb5)
    have B4 := Lib.hid (B3.out.trans (hb5.mono B3.out.size))
    have z0 := F5.c0
    have z1 := F5.c1
    have z2 := F5.c2
    clear hb4 hb5 F5 T3 R3 B3 q0 q1 q2 q3 q4 q5 q6 q7
    have hX1 : X < w5.heap.size := T4.out.lt
    have q0 : w5.cell? ⟨X, 0, none⟩ = some (.string (str (fnm k))) := T4.out.cell (i := 0) (by omega)
    have q1 : w5.cell? ⟨X, 1, none⟩ = some (.int .i64 (fkd k)) := T4.out.cell (i := 1) (by omega)
    have q2 : w5.cell? ⟨X, 2, none⟩ = some (.int .i64 2) := T4.out.cell (i := 2) (by omega)
    have q3 : w5.cell? ⟨X, 3, none⟩ = some (.int .i64 ((fpw k : Nat) : Int)) := T4.out.cell (i := 3) (by omega)
    have q4 : w5.cell? ⟨X, 4, none⟩ = some (.int .i64 (fg0 k)) := T4.out.cell (i := 4) (by omega)
    have q5 : w5.cell? ⟨X, 5, none⟩ = some (.slice (some ⟨a, 0, none⟩) (fsz k).length (fsz k).length) := T4.out.cell (i := 5) (by omega)
    have q6 : w5.cell? ⟨X, 6, none⟩ = some (.int .i64 (fco k)) := T4.out.cell (i := 6) (by omega)
    have q7 : w5.cell? ⟨X, 7, none⟩ = some (.slice (some ⟨c, 0, none⟩) (flv k).length (flv k).length) := T4.out.cell (i := 7) (by omega)
    rw [E3.out] at q3
    rw [E4.out] at q4
    go_wp2_with fail
    (try rw [hw5])
    clear hw5
    refine (l01In_any _ _ _ _).mono ?_
    rintro e w6 ⟨rfl, rfl⟩
    rw [e5]
    clear e5
    go_wp2_with fail
    refine (l13Rises_yes _ _ _ R4.out.sz (by omega) (by omega) HR2.out).mono ?_
    rintro e w7 ⟨rfl, hb7⟩
    have B7 := Lib.hid (B4.out.trans (hb7.mono B4.out.size))
    clear hb7
    go_wp2_with fail
    go_ret
    exact ⟨rfl, hX ▸ B7.out⟩
set_option maxHeartbeats 8000000 in
set_option maxRecDepth 100000 in
theorem implIsFamily_yes {k : Nat} (hk : k < 5) {w : World} {a c : Nat} (hR : FamR w k a c) :
    Calls Tryz.prog 124 #[fmV k a c] w fun e w' => e = .returned (.bool true) ∧ Below w.heap.size w w' := by
  have T0 := Lib.hid (fm_box w k a c)
  have B0 := Lib.hid (below1 w (.cells (fcs k a c).toArray FmT))
  have R0 := Lib.hid (hR.below (below1 w (.cells (fcs k a c).toArray FmT)))
  have hl1 := flv_len k
  have hl2 := fsz_len k
  have HV := Lib.hid (flf k).ok
  have hi1 : inR (((fsz k).length : Nat) : Int) 1 8 = true := inR_true (by omega) (by omega)
  have hi2 : inR (((flv k).length : Nat) : Int) 1 4 = true := inR_true (by omega) (by omega)
  have hrl : risB 1 80 (flv k) = true := risB_yes rfl (flv_ris k)
  clear hR
  go_enter Tryz.func124, Tryz.ntmps124
  obtain ⟨X, hX⟩ : ∃ X, w.heap.size = X := ⟨_, rfl⟩
  obtain ⟨w1, hw1⟩ : ∃ w1, w.alloc (.cells (fcs k a c).toArray FmT) = w1 := ⟨_, rfl⟩
  rw [hw1] at T0 B0 R0
  rw [hX] at T0
  have q0 : w1.cell? ⟨X, 0, none⟩ = some (.string (str (fnm k))) := T0.out.cell (i := 0) (by omega)
  have q1 : w1.cell? ⟨X, 1, none⟩ = some (.int .i64 (fkd k)) := T0.out.cell (i := 1) (by omega)
  have q2 : w1.cell? ⟨X, 2, none⟩ = some (.int .i64 2) := T0.out.cell (i := 2) (by omega)
  have q3 : w1.cell? ⟨X, 3, none⟩ = some (.int .i64 ((fpw k : Nat) : Int)) := T0.out.cell (i := 3) (by omega)
  have q4 : w1.cell? ⟨X, 4, none⟩ = some (.int .i64 (fg0 k)) := T0.out.cell (i := 4) (by omega)
  have q5 : w1.cell? ⟨X, 5, none⟩ = some (.slice (some ⟨a, 0, none⟩) (fsz k).length (fsz k).length) := T0.out.cell (i := 5) (by omega)
  have q6 : w1.cell? ⟨X, 6, none⟩ = some (.int .i64 (fco k)) := T0.out.cell (i := 6) (by omega)
  have q7 : w1.cell? ⟨X, 7, none⟩ = some (.slice (some ⟨c, 0, none⟩) (flv k).length (flv k).length) := T0.out.cell (i := 7) (by omega)
  have hX1 : X < w1.heap.size := T0.out.lt
  go_wp2_with fail
  (try rw [show w.alloc (.cells #[.string (str (fnm k)), .int .i64 (fkd k), .int .i64 2, .int .i64 ((fpw k : Nat) : Int), .int .i64 (fg0 k), .slice (some ⟨a, 0, none⟩) (fsz k).length (fsz k).length, .int .i64 (fco k), .slice (some ⟨c, 0, none⟩) (flv k).length (flv k).length] FmT) = w1 from hw1])
  clear hw1
  refine (isName_yes (fnm_ok k) _).mono ?_
  rintro e w2 ⟨rfl, rfl⟩
  go_wp2_with fail
  refine (inRange_any _ _ _ _).mono ?_
  rintro e w2 ⟨rfl, rfl⟩
  rw [hi1]
  go_wp2_with fail
  refine (inRange_any _ _ _ _).mono ?_
  rintro e w2 ⟨rfl, rfl⟩
  rw [hi2]
  go_wp2_with fail
  refine (rises_any 1 80 R0.out.lv).mono ?_
  rintro e w2 ⟨rfl, rfl⟩
  rw [hrl]
  by_cases hk2 : k ≤ 2
  · have k1 : (fkd k == 1) = true := by unfold fkd; rw [if_pos hk2]; rfl
    have k3 : (fco k == 0) = true := by unfold fco; rw [if_pos hk2]; rfl
    have hr2 : risB 17 41 (fsz k) = true := risB_yes rfl (fsz_ris k hk2)
    have HM := Lib.hid (fsz_mod k hk2)
    go_wp2_with fail
    go_loopw [38] (fun ti wr => ∃ i : Nat, i ≤ (fsz k).length ∧ ti = .int .i64 (i : Int) ∧ wr = w1) (fun ti _ => (fsz k).length - (intOf ti).toNat)
    case atStart => exact ⟨0, by omega, rfl, rfl⟩
    case round =>
      obtain ⟨i, hi, rfl, rfl⟩ := hrel
      by_cases hlt : i < (fsz k).length
      · obtain ⟨b1, o1, e1, hb1, hcs⟩ := R0.out.sz.at' (by omega)
        obtain ⟨rfl, rfl, -⟩ : a = b1 ∧ 0 = o1 ∧ True := by simpa using e1
        have hcell := hcs i hlt
        obtain ⟨m1, m2, m3⟩ := HM.out i hlt
        rw [Nat.zero_add] at hcell
        clear hcs e1
        generalize hz : gi (fsz k) i = z at *
        clear hz
        have hmz : (inR z 17 41 && (z.tmod 4 == 1)) = true := by rw [inR_true m2 m3, m1]; rfl
        clear m1
        go_wp2_with fail
        refine (isMatrixSize_any z _).mono ?_
        rintro e w6 ⟨rfl, rfl⟩
        rw [hmz]
        go_wp2_with fail
        go_roundw
        case rel => exact ⟨i + 1, by omega, by go_num, trivial⟩
        case measure => simp [intOf]; omega
      · obtain rfl : i = (fsz k).length := by omega
        go_wp2_with fail
        refine (implIsField_any _ _ _ _).mono ?_
        rintro e w4 ⟨rfl, hb4⟩
        rw [HV.out]
        have T4 := Lib.hid (T0.out.below hb4 T0.out.lt)
        have R4 := Lib.hid (R0.out.below hb4)
        have B4 := Lib.hid (B0.out.trans (hb4.mono B0.out.size))
        clear hb4 T0 R0 B0 q0 q1 q2 q3 q4 q5 q6 q7
        have hX1 : X < w4.heap.size := T4.out.lt
        have q0 : w4.cell? ⟨X, 0, none⟩ = some (.string (str (fnm k))) := T4.out.cell (i := 0) (by omega)
        have q1 : w4.cell? ⟨X, 1, none⟩ = some (.int .i64 (fkd k)) := T4.out.cell (i := 1) (by omega)
        have q2 : w4.cell? ⟨X, 2, none⟩ = some (.int .i64 2) := T4.out.cell (i := 2) (by omega)
        have q3 : w4.cell? ⟨X, 3, none⟩ = some (.int .i64 ((fpw k : Nat) : Int)) := T4.out.cell (i := 3) (by omega)
        have q4 : w4.cell? ⟨X, 4, none⟩ = some (.int .i64 (fg0 k)) := T4.out.cell (i := 4) (by omega)
        have q5 : w4.cell? ⟨X, 5, none⟩ = some (.slice (some ⟨a, 0, none⟩) (fsz k).length (fsz k).length) := T4.out.cell (i := 5) (by omega)
        have q6 : w4.cell? ⟨X, 6, none⟩ = some (.int .i64 (fco k)) := T4.out.cell (i := 6) (by omega)
        have q7 : w4.cell? ⟨X, 7, none⟩ = some (.slice (some ⟨c, 0, none⟩) (flv k).length (flv k).length) := T4.out.cell (i := 7) (by omega)
        go_wp2_with fail
        refine (rises_any 17 41 R4.out.sz).mono ?_
        rintro e w5 ⟨rfl, rfl⟩
        rw [hr2]
        go_wp2_with fail
        go_ret
        exact ⟨rfl, hX ▸ B4.out⟩
  · have k1 : (fkd k == 1) = false := by unfold fkd; rw [if_neg hk2]; rfl
    have k2 : (fkd k == 2) = true := by unfold fkd; rw [if_neg hk2]; rfl
    have e3 : ((fpw k : Nat) : Int) = 5 := by rcases (show k = 3 ∨ k = 4 by omega) with rfl | rfl <;> rfl
    have e4 : fg0 k = 37 := by rcases (show k = 3 ∨ k = 4 by omega) with rfl | rfl <;> rfl
    have e5 : inR (fco k) 1 8 = true := by rcases (show k = 3 ∨ k = 4 by omega) with rfl | rfl <;> exact inR_true (by decide) (by decide)
    have hr2 : risB 3 24 (fsz k) = true := risB_yes rfl (fsz_ris2 k hk2 hk)
    rw [e3] at q3
    rw [e4] at q4
    have E3 := Lib.hid e3
    have E4 := Lib.hid e4
    clear e3 e4
    go_wp2_with fail
    refine (implFieldOf_at lf32 _).mono ?_
    rintro e w4 ⟨rfl, hb4⟩
    obtain ⟨w5, hw5⟩ : ∃ w5, w4.alloc (.cells #[.int .i64 2, .int .i64 5, .int .i64 37] FTa) = w5 := ⟨_, rfl⟩
    have hb5 : Below w1.heap.size w1 w5 := by rw [← hw5]; exact hb4.trans ((below1 _ _).mono hb4.size)
    have F5 : FB w5 w4.heap.size 2 5 37 := by rw [← hw5]; exact FB.new _ _ _ _
    have T4 := Lib.hid (T0.out.below hb5 T0.out.lt)
    have R4 := Lib.hid (R0.out.below hb5)
    have B4 := Lib.hid (B0.out.trans (hb5.mono B0.out.size))
    have z0 := F5.c0
    have z1 := F5.c1
    have z2 := F5.c2
    clear hb4 hb5 F5 T0 R0 B0 q0 q1 q2 q3 q4 q5 q6 q7
    have hX1 : X < w5.heap.size := T4.out.lt
    have q0 : w5.cell? ⟨X, 0, none⟩ = some (.string (str (fnm k))) := T4.out.cell (i := 0) (by omega)
    have q1 : w5.cell? ⟨X, 1, none⟩ = some (.int .i64 (fkd k)) := T4.out.cell (i := 1) (by omega)
    have q2 : w5.cell? ⟨X, 2, none⟩ = some (.int .i64 2) := T4.out.cell (i := 2) (by omega)
    have q3 : w5.cell? ⟨X, 3, none⟩ = some (.int .i64 ((fpw k : Nat) : Int)) := T4.out.cell (i := 3) (by omega)
    have q4 : w5.cell? ⟨X, 4, none⟩ = some (.int .i64 (fg0 k)) := T4.out.cell (i := 4) (by omega)
    have q5 : w5.cell? ⟨X, 5, none⟩ = some (.slice (some ⟨a, 0, none⟩) (fsz k).length (fsz k).length) := T4.out.cell (i := 5) (by omega)
    have q6 : w5.cell? ⟨X, 6, none⟩ = some (.int .i64 (fco k)) := T4.out.cell (i := 6) (by omega)
    have q7 : w5.cell? ⟨X, 7, none⟩ = some (.slice (some ⟨c, 0, none⟩) (flv k).length (flv k).length) := T4.out.cell (i := 7) (by omega)
    rw [E3.out] at q3
    rw [E4.out] at q4
    go_wp2_with fail
    (try rw [hw5])
    clear hw5
    refine (inRange_any _ _ _ _).mono ?_
    rintro e w6 ⟨rfl, rfl⟩
    rw [e5]
    clear e5
    go_wp2_with fail
    refine (rises_any 3 24 R4.out.sz).mono ?_
    rintro e w7 ⟨rfl, rfl⟩
    rw [hr2]
    go_wp2_with fail
    go_ret
    exact ⟨rfl, hX ▸ B4.out⟩
end Go.Proofs.YtdcmebegnekkcaaGreat
