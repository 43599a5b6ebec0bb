/-
  The walk of the law FnJournals.
-/
import Derived.Test.YtmbphpmabopifaaDoorDrawRec
import Derived.Test.YtmbphpmabopifaaDoorCutP
import Derived.Test.YtmbphpmabopifaaDoorRecH
namespace Go.Proofs.YtmbphpmabopifaaDoor
open Go.RowKit
set_option linter.unusedVariables false

set_option maxHeartbeats 4000000 in
set_option maxRecDepth 100000 in
theorem lawFnJournals (s0 : Option Addr) (n0 cap0 : Nat) (z0 : List Int) (w : World) (hr : RowB w s0 n0 z0) (hG : Glob w) :
    Calls Tryd.prog 8 #[.slice s0 n0 cap0] w fun e w' => e = .returned (.bool true) ∧ Below w.heap.size w w' := by
  have HR := Lib.hid hr
  have HG := Lib.hid (fun w' (hb : Below w.heap.size w w') => hG.below hb)
  clear hr hG
  by_cases hbig : (4096 : Int) < (n0 : Int)
  · go_enter Tryd.func8, Tryd.ntmps8
    go_wp2_with fail
    refine (bigL_any w s0 n0 cap0).mono ?_
    rintro e w' ⟨rfl, rfl⟩
    go_wp2_with fail
    go_ret
    exact ⟨rfl, Below.refl _ _⟩
  go_enter Tryd.func8, Tryd.ntmps8
  go_wp2_with fail
  refine (bigL_any w s0 n0 cap0).mono ?_
  rintro e w' ⟨rfl, rfl⟩
  go_wp2_with fail
  refine (DrawJournalOf_any HR.out).mono ?_
  rintro e w1 ⟨v1, L, rfl, ho1, hl1, hb1⟩
  obtain ⟨a1, c1, rfl⟩ := ho1.slice
  have B1 := Lib.hid hb1
  have R1 := Lib.hid (ho1.recs (by omega))
  clear ho1 hb1
  go_wp2_with fail
  refine (implJournalOf_any R1.out (HG.out _ B1.out).tab).mono ?_
  rintro e w2 ⟨rfl, hb2⟩
  have B2 := Lib.hid (B1.out.trans (hb2.mono B1.out.size))
  have R2 := Lib.hid (R1.out.below hb2)
  clear hb2
  go_wp2_with fail
  refine (specJournalOf_any R2.out).mono ?_
  rintro e w3 ⟨rfl, hb3⟩
  have B3 := Lib.hid (B2.out.trans (hb3.mono B2.out.size))
  have R3 := Lib.hid (R2.out.below hb3)
  clear hb3
  have hqs : (recsC L != recsC L) = false := by simp
  by_cases hc : recsC L = 0
  rotate_left
  · have hne : (recsC L != 0) = true := by simp [hc]
    generalize jofR L = T at *
    generalize recsC L = cd at *
    clear hc
    go_wp2_with fail
    go_ret
    exact ⟨rfl, B3.out⟩
  obtain ⟨h300, hv⟩ := recsC_zero hc
  have hT := jofR_ok hc
  have HCUT := Lib.hid (fun c => cut_rec (L := L) hv h300 c)
  have HFULL := Lib.hid (show RecP (jouL L L.length).1 L from ⟨h300, hv, List.prefix_refl _, .inr fun r _ h => by
    have := h.length_le
    simp only [List.length_append, List.length_cons, List.length_nil] at this
    omega⟩)
  have HJT := Lib.hid (show jlS (jouL L L.length).1 = (jouL L L.length).1.length from HFULL.out.jl.symm)
  have hTl := jou_short hv h300 L.length (Nat.le_refl _)
  rw [hc, hT]
  clear hc hqs hT hv
  generalize (jouL L L.length).1 = T at *
  have hszT := str_size T
  have hT2 : T.length ≤ 6300 := by omega
  go_wp2_with fail
  refine (roll_any (HR.out.below' B3.out) _).mono ?_
  rintro e w4 ⟨d, rfl, hd, hb4, hdice⟩
  have B4 := Lib.hid hb4
  have HD := Lib.hid hdice
  clear hb4 hdice
  have hT3 : (0 : Int) < (T.length : Int) + 1 := by omega
  go_wp2_with fail
  refine (below_any HD.out _ (by omega) (by omega)).mono ?_
  rintro e w5 ⟨cz, rfl, hc0, hc1, hdr⟩
  have B5a := B4.out.trans (hdr.below hd B4.out.size)
  have R5 := Lib.hid (R3.out.below B5a)
  have B5 := Lib.hid (B3.out.trans (B5a.mono B3.out.size))
  clear hdr B5a R3 B4 HD
  obtain ⟨c, rfl⟩ := Int.eq_ofNat_of_zero_le hc0
  have hcT : c ≤ T.length := by omega
  have hcT2 : (c : Int) ≤ (T.length : Int) := by omega
  obtain ⟨HRC, hKl⟩ := HCUT.out c
  have HK0 := Lib.hid (show nlC (T.take 0) = 0 from by simp [nlC])
  have HRC := Lib.hid HRC
  clear HCUT
  go_wp2_with fail
  go_loopw [9, 10] (fun tk ti wr => ∃ (m i : Nat), tk = .int .i64 (m : Int) ∧ ti = .int .i64 i ∧ i ≤ c ∧ m ≤ i ∧ Hid (m = nlC (T.take i)) ∧ wr = w5) (fun _ ti _ => c - (intOf ti).toNat)
  case atStart => exact ⟨0, 0, rfl, rfl, by omega, by omega, Lib.hid HK0.out.symm, rfl⟩
  case round =>
    obtain ⟨m, i, rfl, rfl, hi, hm, hnl, rfl⟩ := hrel
    by_cases hlt : i < c
    · have hlt' : (i : Int) < (c : Int) := by omega
      have hiT : i < T.length := by omega
      have hszi : i < (str T).size := by omega
      by_cases hcb : (T[i]'hiT) = (10 : UInt8)
      · have HC2 := Lib.hid (show m + 1 = nlC (T.take (i + 1)) by rw [nlC_hit hiT hcb, hnl.out])
        have hbe : ((((str T)[i]'hszi).toNat : Int) == 10) = true := by
          have e2 : (str T)[i]'hszi = 10 := hcb
          rw [e2]; rfl
        clear hcb hnl
        go_wp2_with fail
        go_roundw
        case rel => exact ⟨m + 1, i + 1, by go_num, by go_num, by omega, by omega, HC2, trivial⟩
        case measure => simp [intOf]; omega
      · have HC2 := Lib.hid (show m = nlC (T.take (i + 1)) by rw [nlC_miss hiT hcb, hnl.out])
        have hbe : ((((str T)[i]'hszi).toNat : Int) == 10) = false := by
          rw [str_get]
          simp only [beq_eq_false_iff_ne, ne_eq]
          exact fun e => hcb (UInt8.toNat_inj.1 (by show T[i].toNat = 10; omega))
        clear hcb hnl
        go_wp2_with fail
        go_roundw
        case rel => exact ⟨m, i + 1, rfl, by go_num, by omega, by omega, HC2, trivial⟩
        case measure => simp [intOf]; omega
    · obtain rfl : i = c := by omega
      have HEX := str_extract T 0 i
      rw [List.drop_zero] at HEX
      have hSl : (T.take i).length = i := by rw [List.length_take]; omega
      have hrec := HRC.out.recL
      have hjle := HRC.out.jle
      rw [← hnl.out] at hrec hKl
      have hsm : (T.take i).length ≤ 20000 := by omega
      have hrl : (rcvL (T.take i)) = L.take m := by rw [rcvL_s hsm, hrec]
      have hml : (L.take m).length = m := by rw [List.length_take]; omega
      have htv := tornV_s hsm
      have hbc := bigC_s hsm
      have hij := Lib.hid (isjV_s hsm)
      rw [hSl] at hjle htv
      have hbig : (T.take i).length ≤ 4611686018427387903 := by omega
      have HREC := Lib.hid (fun w0 (hb0 : Below w.heap.size w w0) => implRecoverJournal_any (T.take i) hbig (HG.out _ hb0))
      have HISJ := Lib.hid (fun w0 (hb0 : Below w.heap.size w w0) => implIsJournal_any (T.take i) hbig (HG.out _ hb0))
      have HISF := Lib.hid (fun w0 (hb0 : Below w.heap.size w w0) => implIsJournal_any T (by omega) (HG.out _ hb0))
      have HT1 := Lib.hid (show isjV T = true by rw [isjV_s (by omega)]; simp [HJT.out])
      have HRL := Lib.hid hrl
      have HML := Lib.hid hml
      have HTV := Lib.hid htv
      have HBC := Lib.hid hbc
      have HSL := Lib.hid hSl
      clear hrec hrl hml htv hbc hSl hsm hbig HRC HFULL hnl HK0
      generalize hSS : T.take i = S at *
      go_wp2_with fail
      refine (HREC.out _ B5.out).mono ?_
      rintro e w6 ⟨⟨v6, rfl, ho6⟩, hb6⟩
      rw [HTV.out, HBC.out]
      rw [HRL.out] at ho6
      obtain ⟨a6, c6, rfl⟩ := ho6.slice
      have hR6 := ho6.recs (by rw [HML.out]; omega)
      rw [HML.out] at hR6 ⊢
      have R6 := Lib.hid hR6
      have R5_6 := Lib.hid (R5.out.below hb6)
      have B6 := Lib.hid (B5.out.trans (hb6.mono B5.out.size))
      clear ho6 hR6 hb6 HREC
      have hmq : ((m : Int) != (m : Int)) = false := by simp
      have htn : ¬ (i : Int) - (jlS S : Int) < 0 := by omega
      generalize hjS : jlS S = jn at *
      go_wp2_with (fail)
      refine (HISF.out _ B6.out).mono ?_
      rintro e w7 ⟨rfl, hb7⟩
      rw [HT1.out]
      have R7 := Lib.hid (R6.out.below hb7)
      have R5_7 := Lib.hid (R5_6.out.below hb7)
      have B7 := Lib.hid (B6.out.trans (hb7.mono B6.out.size))
      clear hb7 R6 R5_6 B6 HISF
      go_wp2_with (fail)
      rename_i wOld _
      go_loopw [14] (fun ti wr => ∃ (j : Nat), ti = .int .i64 j ∧ j ≤ m ∧ Hid (Below w7.heap.size w7 wr)) (fun ti _ => m - (intOf ti).toNat)
      case atStart => exact ⟨0, rfl, by omega, Lib.hid (Below.refl _ _)⟩
      case round =>
        obtain ⟨j, rfl, hj, hbw⟩ := hrel
        by_cases hjm : j < m
        · have hjm' : (j : Int) < (m : Int) := by omega
          obtain ⟨b6, o6, rfl, hb6, hcs⟩ := (R7.out.below hbw.out).at' (by omega)
          obtain ⟨hc0, hc1⟩ := hcs j hjm
          obtain ⟨b1, o1, rfl, hb1, hcs'⟩ := (R5_7.out.below hbw.out).at' (by omega)
          obtain ⟨hd0, hd1⟩ := hcs' j (by omega)
          rw [gr_take hjm] at hc0 hc1
          have hjL : (j : Int) < (L.length : Int) := by omega
          clear hcs hcs'
          generalize gr L j = r at *
          obtain ⟨x, y⟩ := r
          dsimp only at hc0 hc1 hd0 hd1
          have hB' := Lib.hid (fun q => below_drewN hbw.out q)
          go_wp2_with fail
          go_quiet (fail)
          go_wp2_with fail
          go_roundw
          case rel => exact ⟨j + 1, by go_num, by omega, Lib.hid (hB'.out _)⟩
          case measure => simp [intOf]; omega
        · obtain rfl : j = m := by omega
          have B8 := Lib.hid (B7.out.trans (hbw.out.mono B7.out.size))
          clear hbw B7 R7 R5_7
          go_wp2_with fail
          refine (HISJ.out _ B8.out).mono ?_
          rintro e w9 ⟨rfl, hb9⟩
          have B9 := Lib.hid (B8.out.trans (hb9.mono B8.out.size))
          clear hb9 B8 HISJ
          by_cases hji : jn = i
          · have hI : isjV S = true := by rw [hij.out, HSL.out]; simp [hji]
            have h0 : (i : Int) - (jn : Int) = 0 := by omega
            rw [hI]
            go_wp2_with fail
            go_ret
            exact ⟨rfl, B9.out⟩
          · have hI : isjV S = false := by rw [hij.out, HSL.out]; simp [hji]
            have h0 : (((i : Int) - (jn : Int)) == 0) = false := by simp; omega
            rw [hI]
            go_wp2_with fail
            go_ret
            exact ⟨rfl, B9.out⟩
end Go.Proofs.YtmbphpmabopifaaDoor
