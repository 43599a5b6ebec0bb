/-
  The program's correction.
-/
import Derived.Test.YthbiieflmmnfcaaMrg
import Derived.Test.YthbiieflmmnfcaaCorS
import Derived.Test.YthbiieflmmnfcaaValues
namespace Go.Proofs.Ythbiieflmmnfcaa
open Go.RowKit
set_option linter.unusedVariables false

set_option maxHeartbeats 2000000 in
theorem implSyndromesC_any (p pw g l c : Int) (hc0 : 0 ≤ c) (hc1 : c ≤ 64) (hv : validB p pw g = true) {w : World} {b : Nat} (hcod : Cod w b p pw g l c) {a : Option Addr} {n cap : Nat} {zs : List Int} (hr : RowAt w a n zs) (hel : ∀ z ∈ zs, (ffOf p pw g).el z) :
    Calls Try.prog 91 #[.pointer (some ⟨b, 0, none⟩), .slice a n cap] w fun e w' => ∃ ad, e = .returned (.slice ad c.toNat c.toNat) ∧ Below w.heap.size w w' ∧ (ad = none → c.toNat = 0) ∧ OwnAt w' w.heap.size ad c.toNat (syn (ffOf p pw g) zs c.toNat) := by
  obtain ⟨C, rfl⟩ : ∃ C : Nat, c = (C : Int) := ⟨c.toNat, by omega⟩
  have hok := Lib.hid (ffOf_ok hv)
  have HR := Lib.hid hr
  have HE := Lib.hid hel
  have HCOD := Lib.hid hcod
  have hl := Lib.hid hr.len
  have hsm := hr.small
  obtain ⟨_, ⟨bc, e0, hcal⟩, e1, e2⟩ := hcod
  have hmk := fun w => run_make_ints w 26 Try.underlying26 (C : Int) (by omega) (by omega)
  simp only [Int.toNat_natCast] at hmk
  clear hr hel hv hcal
  simp only [Int.toNat_natCast]
  go_enter Try.func91, Try.ntmps91
  go_wp2_with fail
  clear hmk e0 e1 e2
  have ho0 := own_zeros w C (by omega)
  rw [show List.replicate C 0 = copyTo (syn (ffOf p pw g) zs C) 0 by unfold copyTo; simp [syn_length]] at ho0
  go_loopw [18] (fun t wr => ∃ k : Nat, k ≤ C ∧ t = .int .i64 k ∧ Hid (Below w.heap.size w wr) ∧ Hid (OwnAt wr w.heap.size (some ⟨w.heap.size, 0, none⟩) C (copyTo (syn (ffOf p pw g) zs C) k)) ∧ w.heap.size < wr.heap.size) (fun t _ => (C - intOf t).toNat)
  case atStart => exact ⟨0, by omega, rfl, below1 _ _, ho0, by simp⟩
  case round =>
    obtain ⟨k, hk, rfl, hbel, hown, hsz⟩ := hrel
    clear ho0
    by_cases hlt : k < C
    · obtain ⟨_, ⟨bc, e0, hcal⟩, e1, e2⟩ := HCOD.out.below hbel.out
      have HP := Lib.hid (power_any hcal ((k : Int) + 1) (by omega))
      have ht : ((k : Int) + 1).toNat = k + 1 := by omega
      rw [ht] at HP
      clear hcal ht
      go_wp2_with fail
      refine HP.out.mono ?_
      rintro e w1 ⟨rfl, q, rfl⟩
      go_wp2_with fail
      have hX := Lib.hid (FF.exp_el hok.out (k + 1))
      have hsyn := Lib.hid (syn_gi (ffOf p pw g) zs (c := C) (j := k) hlt)
      generalize (ffOf p pw g).exp (k + 1) = X at *
      clear e0 e1 e2
      go_loopw [8, 30] (fun o t wq => ∃ i : Nat, i ≤ n ∧ t = .int .i64 i ∧ o = .int .i64 (svTo (ffOf p pw g) zs X i) ∧ Drew wr wq) (fun _ t _ => (n - intOf t).toNat)
      case atStart => exact ⟨0, by omega, rfl, rfl, ⟨q, rfl⟩⟩
      case round =>
        obtain ⟨i, hi, rfl, rfl, hd⟩ := hrel
        have HD := Lib.hid hd
        clear hd
        by_cases h4 : i < n
        · obtain ⟨_, ⟨bc2, e0, hcal⟩, e1, e2⟩ := HCOD.out.below (hbel.out.trans (HD.out.below _))
          have hrow := HR.out.below' (hbel.out.trans (HD.out.below _))
          obtain ⟨b1, o1, rfl, hb1, hcs⟩ := hrow.at' (by omega)
          have hcell := hcs i h4
          have hstep := Lib.hid (show svTo (ffOf p pw g) zs X (i + 1) = (ffOf p pw g).add ((ffOf p pw g).mul (svTo (ffOf p pw g) zs X i) X) (gi zs i) from rfl)
          have hel1 := svTo_el hok.out HE.out X i
          have hel2 := el_gi hok.out HE.out i
          have hel3 := FF.mul_el hok.out (svTo (ffOf p pw g) zs X i) X
          have HM := Lib.hid (fun m => mul_any (hcal.drewN m) _ _ hel1 hX.out)
          have HA := Lib.hid (fun m => add_any (hcal.drewN m) _ _ hel3 hel2)
          clear hcs hrow hcal hel1 hel2 hel3
          generalize svTo (ffOf p pw g) zs X i = v at *
          generalize gi zs i = z at *
          go_wp2_with fail
          go_quiet (first | (go_at_call 98; exact Calls.quiet_of (HM.out _)) | (go_at_call 105; exact Calls.quiet_of_same ((HA.out _).mono fun e w' h => ⟨h.1, h.2.symm⟩)))
          go_wp2_with fail
          go_roundw
          case rel => exact ⟨i + 1, by omega, by go_num, by rw [hstep.out], HD.out.more _⟩
          case measure => simp [intOf]; omega
        · obtain rfl : i = n := by omega
          have howq := HD.out.own hown.out
          obtain ⟨hp, hfz, _⟩ := howq.place hlt
          have ho2 := Lib.hid (show OwnAt (wr.setCell ⟨w.heap.size, k, none⟩ (.int .i64 (svTo (ffOf p pw g) zs X i))) w.heap.size (some ⟨w.heap.size, 0, none⟩) C (copyTo (syn (ffOf p pw g) zs C) (k + 1)) by
            rw [copyTo_set _ _ (by rw [syn_length]; exact hlt), hsyn.out, hl.out]
            exact howq.set hlt _)
          have hbl2 := Lib.hid ((hbel.out.trans (HD.out.below _)).setCell (p := ⟨w.heap.size, k, none⟩) (Nat.le_refl _) (.int .i64 (svTo (ffOf p pw g) zs X i)))
          have hsq := (HD.out.below wr.heap.size).size
          have HS2 := Lib.hid (show w.heap.size < (wr.setCell ⟨w.heap.size, k, none⟩ (.int .i64 (svTo (ffOf p pw g) zs X i))).heap.size by simp [World.setCell]; omega)
          clear howq
          go_wp2_with fail
          go_roundw
          case rel => exact ⟨k + 1, by omega, by go_num, hbl2, ho2, HS2.out⟩
          case measure => simp [intOf]; omega
    · obtain rfl : k = C := by omega
      have hfin := Lib.hid (show OwnAt wr w.heap.size (some ⟨w.heap.size, 0, none⟩) k (syn (ffOf p pw g) zs k) by
        have := hown.out
        rw [copyTo_end _ _ (by rw [syn_length]; omega)] at this
        exact this)
      go_wp2_with fail
      go_ret
      exact ⟨_, rfl, hbel.out, (fun h => by cases h), hfin.out⟩
theorem euc_fok {V : VF} {L c : Nat} (hL : (L : Int) < V.F.size) (hc : c ≤ 64) {word E zs : List Int} (hw : VF.els V word) (hwl : word.length = L) (hE : RisTo 0 ((L : Int) - 1) E E.length) (hz : EucOk V L c (syn V.F word c) E zs) : FOk V L c word E (eucN V zs) := by
  obtain ⟨hp, a, b, u, hei, hb, ha⟩ := hz
  have hzl : zs.length ≤ 66 := by have := hp.len_le hei.dv; have := hei.la; omega
  by_cases h0 : zs = [] ∨ gi zs 0 = 0
  · rw [eucN_no h0]
    refine ⟨(fun z hz => by cases hz), Nat.zero_le _, fun o hd => ?_⟩
    obtain ⟨O, w, hS⟩ := hd.start hL hw hwl hE
    have hdm := hd.dmg
    obtain ⟨k, hk, ek⟩ := hei.done hL hd hS (by omega) hb ha
    have h1 : (VF.ps V zs).c 0 = k := by
      rw [ek, PS.C_mul_c]
      have : (locP V L (errs L word E o)).c 0 = 1 := PS.lam_c_zero _
      rw [this]; grind
    exfalso
    apply hk
    rw [← h1]
    rcases h0 with h | h
    · rw [h, VF.ps_nil]; rfl
    · rw [VF.ps_c]; show VF.of V (gi zs 0) = 0; rw [h]; exact VF.of_zero
  · rw [eucN_yes h0]
    have hpoly : (VF.xp V 0 * (PS.C (VF.of V (V.F.inv (gi zs 0))) * VF.ps V zs)).IsPoly := (xp_poly 0).mul ((PS.isPoly_C _).mul (VF.ps_poly _))
    refine ⟨(VF.lst_isP hpoly).els, ?_, fun o hd => ?_⟩
    · exact Nat.le_trans (VF.lst_len (n := 0 + zs.length) (xpmul_dlt2 (PS.dlt_C_mul _ (VF.ps_dlt zs)) 0)) (by omega)
    obtain ⟨O, w, hS⟩ := hd.start hL hw hwl hE
    have hdm := hd.dmg
    obtain ⟨k, hk, ek⟩ := hei.done hL hd hS (by omega) hb ha
    have h1 : (VF.ps V zs).c 0 = k := by
      rw [ek, PS.C_mul_c]
      have : (locP V L (errs L word E o)).c 0 = 1 := PS.lam_c_zero _
      rw [this]; grind
    have h2 : VF.of V (gi zs 0) = k := by rw [← h1, VF.ps_c]; rfl
    have hz0 : gi zs 0 ≠ 0 := fun h => h0 (.inr h)
    have h3 := VF.of_inv (V := V) (show V.F.el (gi zs 0) from hp.els.getD 0) hz0
    rw [h2] at h3
    congr 1
    rw [xp_zero, ek]
    have : PS.C (VF.of V (V.F.inv (gi zs 0))) * (PS.C k * locP V L (errs L word E o)) = PS.C (k * VF.of V (V.F.inv (gi zs 0))) * locP V L (errs L word E o) := by rw [PS.C_mul]; grind
    have e1 : (1 : PS (El V)) * (PS.C (VF.of V (V.F.inv (gi zs 0))) * (PS.C k * locP V L (errs L word E o))) = PS.C (VF.of V (V.F.inv (gi zs 0))) * (PS.C k * locP V L (errs L word E o)) := by grind
    rw [e1, this, h3, PS.C_one]; grind
end Go.Proofs.Ythbiieflmmnfcaa
