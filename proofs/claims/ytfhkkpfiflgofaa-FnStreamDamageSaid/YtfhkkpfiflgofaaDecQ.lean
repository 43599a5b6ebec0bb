/-
  The parts DecB, DecV.
-/
import Derived.Test.YtfhkkpfiflgofaaStrD
import Derived.Test.YtfhkkpfiflgofaaEncR
import Derived.Test.YtfhkkpfiflgofaaOrd
/-
  The parts DecS, WordS, BlkC, DecT.
-/
/-
  The reference's parts of DecodeStream: the code of a stream, marks, indices, words.
-/
namespace Go.Proofs.Ytfhkkpfiflgofaa
open Go.RowKit
set_option linter.unusedVariables false

set_option maxHeartbeats 2000000 in
theorem l07Marks_any (l : Int) (hl0 : 0 ≤ l) (hl1 : l ≤ 5000) {w : World} {a : Option Addr} {n cap : Nat} {zs : List Int} (hr : RowAt w a n zs) :
    Calls Try.prog 97 #[.slice a n cap, .int .i64 l] w fun e w' => e = .returned (.bool (risB 0 (l - 1) zs)) ∧ Below w.heap.size w w' := by
  have HR := Lib.hid hr
  have hl := Lib.hid hr.len
  have hsm := hr.small
  clear hr
  have wl : IntKind.i64.wrap (l - 1) = l - 1 := IntWalk.i64_in _ (by omega)
  go_enter Try.func97, Try.ntmps97
  go_wp2_with fail
  go_loopw [5] (fun t wr => ∃ k : Nat, k ≤ n ∧ t = .int .i64 k ∧ Hid (RisTo 0 (l - 1) zs k) ∧ Hid (Below w.heap.size w wr)) (fun t _ => (n - intOf t).toNat)
  case atStart => exact ⟨0, by omega, rfl, fun j hj => by omega, Lib.hid (Below.refl _ _)⟩
  case round =>
    obtain ⟨k, hk, rfl, hris, hbel⟩ := hrel
    by_cases hlt : k < n
    · obtain ⟨b1, o1, rfl, hb1, hcs⟩ := (HR.out.below' hbel.out).at' (by omega)
      have hcell := hcs k hlt
      have HNO := Lib.hid (risB_no (lo := 0) (hi := l - 1) hl.out hlt)
      have HNX := Lib.hid hris.out.next
      have HIN := Lib.hid (fun W => (l01In_any (gi zs k) 0 (l - 1) W).mono fun e w' h => (⟨h.1, h.2.symm⟩ : _ ∧ w' = W))
      cases hin : inR (gi zs k) 0 (l - 1)
      · have hf := Lib.hid (HNO.out (fun h => by rw [inR_true h.1 h.2.1] at hin; cases hin))
        rw [hin] at HIN
        clear hcs hin
        go_wp2_with fail
        go_quiet ((go_at_call 68; exact Calls.quiet_of_same (HIN.out _)))
        go_wp2_with fail
        go_ret
        exact ⟨ret_bool hf.out.symm, Below.trans hbel.out (Drew.below (drew4 wr _) _)⟩
      · obtain ⟨h1, h2⟩ := inR_iff.1 hin
        rw [hin] at HIN
        by_cases h0 : 0 < k
        · obtain ⟨j, rfl⟩ : ∃ j, k = j + 1 := ⟨k - 1, by omega⟩
          have hcell2 := hcs j (by omega)
          simp only [Nat.add_sub_cancel] at HNO HNX
          have et2 : (0 : Int) < ((j + 1 : Nat) : Int) := by omega
          have wj : IntKind.i64.wrap (j : Int) = (j : Int) := IntWalk.i64_in _ (by omega)
          have hjn : j < n := by omega
          clear hcs hin
          generalize hx : gi zs (j + 1) = x at *
          generalize hy : gi zs j = y at *
          clear hx hy
          by_cases hge : x ≤ y
          · have hf := Lib.hid (HNO.out (fun h => by have := h.2.2 (by omega); omega))
            go_wp2_with fail
            go_quiet ((go_at_call 68; exact Calls.quiet_of_same (HIN.out _)))
            go_wp2_with fail
            go_ret
            exact ⟨ret_bool hf.out.symm, Below.trans hbel.out (Drew.below (drew4 wr _) _)⟩
          · have hs := Lib.hid (HNX.out h1 h2 (fun _ => by omega))
            have hlt3 : y < x := by omega
            go_wp2_with fail
            go_quiet ((go_at_call 68; exact Calls.quiet_of_same (HIN.out _)))
            go_wp2_with fail
            go_roundw
            case rel => exact ⟨j + 1 + 1, by omega, by go_num, hs, Lib.hid (Below.trans hbel.out (Drew.below (drew4 wr _) _))⟩
            case measure => simp [intOf]; omega
        · have hs := Lib.hid (HNX.out h1 h2 (fun h => absurd h h0))
          have hd0 : decide ((0 : Int) < (k : Int)) = false := by simp; omega
          have hd1 : decide (0 < k) = false := by simp; omega
          clear hcs hin h0
          go_wp2_with fail
          go_quiet ((go_at_call 68; exact Calls.quiet_of_same (HIN.out _)))
          go_wp2_with fail
          go_roundw
          case rel => exact ⟨k + 1, by omega, by go_num, hs, Lib.hid (Below.trans hbel.out (Drew.below (drew4 wr _) _))⟩
          case measure => simp [intOf]; omega
    · obtain rfl : k = n := by omega
      have hf := Lib.hid (risB_yes hl.out hris.out)
      go_wp2_with fail
      go_ret
      exact ⟨ret_bool hf.out.symm, hbel.out⟩
end Go.Proofs.Ytfhkkpfiflgofaa
/-
  The reference's words of a stream.
-/
namespace Go.Proofs.Ytfhkkpfiflgofaa
open Go.RowKit
set_option linter.unusedVariables false

end Go.Proofs.Ytfhkkpfiflgofaa
/-
  One block of a stream corrected, in both programs; the implementation's code of a stream.
-/
namespace Go.Proofs.Ytfhkkpfiflgofaa
open Go.RowKit
set_option linter.unusedVariables false

set_option maxHeartbeats 2000000 in
set_option maxRecDepth 20000 in
theorem blkCorrect_any {p pw g : Int} {q r n c b : Nat} {s E : List Int} (hv : validC p pw g ((shN q r n b + c : Nat) : Int) (c : Int) = true) (hb : b < n) (hs : allB (ffOf p pw g) s = true) {w : World} {bd : Nat} (hcod : Cod w bd p pw g ((shN q r n b + c : Nat) : Int) (c : Int))
    {a : Option Addr} {m cap : Nat} (hr : RowAt w a m (wB q r n c s b)) (hca : a = none → cap = 0) {a' : Option Addr} {n' cap' : Nat} (hr' : RowAt w a' n' (eB q r n c E b)) (hcap' : n' ≤ cap') (hca' : a' = none → cap' = 0) :
    Calls Try.prog 146 #[.pointer (some ⟨bd, 0, none⟩), .slice a m cap, .slice a' n' cap', .func (.func 147) #[.pointer (some ⟨bd, 0, none⟩)] #[]] w fun e w' => ∃ v v2, e = .returned (.tuple #[v, v2, .bool (cB p pw g q r n c s E b)]) ∧ Below w.heap.size w w' ∧
      (cB p pw g q r n c s E b = true → OwnL w' w.heap.size v (oB p pw g q r n c s E b) ∧ OwnL w' w.heap.size v2 (dB p pw g q r n c s E b)) := by
  obtain ⟨V, hs2, hz, hyes, hno⟩ := blk_V (E := E) hv hb hs
  have hwl := wB_length q r n c s b
  have hml : m = shN q r n b + c := by rw [← hwl]; exact hr.len.symm
  have hris : RisTo 0 (((shN q r n b + c : Nat) : Int) - 1) (eB q r n c E b) n' := by rw [← hr'.len]; exact eB_ris q r n c E b
  have HRIS := eB_ris q r n c E b
  obtain ⟨_, hc1, hc2, hcl, hl1, hlz⟩ := validC_iff hs2.valid
  simp only [Int.toNat_natCast] at hyes hno
  generalize eB q r n c E b = Eb at *
  generalize wB q r n c s b = W at *
  generalize cB p pw g q r n c s E b = B1 at *
  generalize oB p pw g q r n c s E b = B2 at *
  generalize dB p pw g q r n c s E b = B3 at *
  generalize shN q r n b + c = L at *
  have HSE : VF.els V (syn V.F W c) := fun z hz2 => by
    obtain ⟨j, hj, rfl⟩ := mem_gi hz2
    rw [syn_length] at hj
    rw [syn_gi _ _ hj]
    exact svTo_el V.ok hz _ _
  have HLV : (L : Int) < V.F.size := by rw [hs2.sf.hV]; exact hlz
  have HCO := correct_any hs2 hcod (cap := cap) hr hca hz hml (cap' := cap') hr' hcap' hca' hris 147 callFunc_e (fun W2 hb2 hlim a2 hr2 => by
    simp only [Int.toNat_natCast] at hlim hr2 ⊢
    refine (euclid_any hs2 (hcod.below hb2) (cap := c) hr2 (Nat.le_refl _) HSE rfl (cap' := cap') (hr'.below' hb2) hris hlim).mono ?_
    rintro e W' ⟨v, rfl, hbe, xs, ho, hok⟩
    exact ⟨v, rfl, hbe, _, ho, euc_fok HLV (by omega) hz hwl HRIS hok⟩)
  simp only [Int.toNat_natCast] at HCO
  refine HCO.mono ?_
  rintro e w2 ⟨v1, v2, rfl, hb2, ys, ys2, htw, heq⟩
  obtain ⟨mid, h1, h2, h3, h4⟩ := htw
  cases hf : fixB V L c W Eb with
  | false =>
    have := hno hf
    subst this
    exact ⟨v1, v2, rfl, hb2, fun h => by cases h⟩
  | true =>
    obtain ⟨f0, f1, f2⟩ := hyes hf
    obtain ⟨e1, e2⟩ := heq hf
    subst f0
    refine ⟨v1, v2, rfl, hb2, fun _ => ?_⟩
    rw [f1, f2, ← e2, ← e1]
    exact ⟨h2, h1.lower h3⟩
set_option maxHeartbeats 4000000 in
set_option maxRecDepth 100000 in
theorem streamCode_any (p pw g D C N : Int) (w : World) {a : Option Addr} {m cap : Nat} {zs : List Int} (hr : RowAt w a m zs) :
    Calls Try.prog 93 #[lV p pw g D C N, .slice a m cap] w fun e w' => e = .returned (.int .i64 (scC p pw g D C N zs)) ∧ Below w.heap.size w w' := by
  have HR := Lib.hid hr
  have hlen := Lib.hid hr.len
  have hsm := hr.small
  have HB := Lib.hid (below1 w (.cells #[.int .i64 p, .int .i64 pw, .int .i64 g, .int .i64 D, .int .i64 C, .int .i64 N] LT))
  have L0 := Lib.hid (LB.new w p pw g D C N)
  clear hr
  go_enter Try.func93, Try.ntmps93
  go_wp2_with fail
  refine (implIsLayout_any p pw g D C N _).mono ?_
  rintro e w2 ⟨rfl, hb2⟩
  have B2 := Lib.hid (HB.out.trans (hb2.mono HB.out.size))
  have L2 := Lib.hid (L0.out.below hb2 L0.out.lt)
  clear hb2 HB L0
  cases hlay : layB p pw g D C N with
  | false =>
    have hf0 := Lib.hid (sc_bad (s := zs) hlay)
    clear hlay
    go_wp2_with fail
    go_ret
    exact ⟨by rw [hf0.out]; rfl, B2.out⟩
  | true =>
  obtain ⟨q, r, n, c, hl, htot, hval, hvB⟩ := lay_ok hlay
  have HL := Lib.hid hl
  have HLAY := Lib.hid hlay
  have HVB := Lib.hid hvB
  clear hl htot hval hvB hlay
  have k0 := L2.out.c0
  have k1 := L2.out.c1
  have k2 := L2.out.c2
  go_wp2_with fail
  refine (calc_any p pw g _).mono ?_
  rintro e w3 ⟨vc, rfl, hb3, hcal⟩
  obtain ⟨bc, rfl, hbc, hcal⟩ := hcal HVB.out
  have B3 := Lib.hid (B2.out.trans (hb3.mono B2.out.size))
  have L3 := Lib.hid (L2.out.below hb3 L2.out.lt)
  have HCAL := Lib.hid hcal
  clear hb3 hcal k0 k1 k2
  have k0 := L3.out.c0
  have k1 := L3.out.c1
  have k2 := L3.out.c2
  have k3 := L3.out.c3
  have k4 := L3.out.c4
  have k5 := L3.out.c5
  go_wp2_with fail
  refine (total_any p pw g HL.out _).mono ?_
  rintro e w4 ⟨rfl, hb4⟩
  have B4 := Lib.hid (B3.out.trans (hb4.mono B3.out.size))
  have HCAL4 := Lib.hid (HCAL.out.below hb4)
  clear hb4 k0 k1 k2 k3 k4 k5
  by_cases hn : (m : Int) = D + N * C
  rotate_left
  · have hf0 := Lib.hid (sc_range (s := zs) HLAY.out (fun x => hn (by rw [← hlen.out]; exact x.1)))
    have hn' : ((m : Int) != D + N * C) = true := by simp; omega
    generalize D + N * C = tt at *
    go_wp2_with fail
    go_ret
    exact ⟨by rw [hf0.out]; rfl, B4.out⟩
  have hn' : ((m : Int) != D + N * C) = false := by simp; omega
  have HN := Lib.hid hn
  generalize D + N * C = tt at hn' ⊢
  clear hn
  go_wp2_with fail
  refine (hasAll_any (HCAL4.out) (cap := cap) (HR.out.below' B4.out)).mono ?_
  rintro e w' ⟨rfl, rfl⟩
  cases hal : allB (ffOf p pw g) zs
  · have hf0 := Lib.hid (sc_range (s := zs) HLAY.out (fun x => by rw [hal] at x; cases x.2))
    go_wp2_with fail
    go_ret
    exact ⟨by rw [hf0.out]; rfl, B4.out⟩
  · have hf0 := Lib.hid (sc_ok (s := zs) HLAY.out (by rw [hlen.out]; exact HN.out) hal)
    go_wp2_with fail
    go_ret
    exact ⟨by rw [hf0.out]; rfl, B4.out⟩
end Go.Proofs.Ytfhkkpfiflgofaa
/-
  The reference's DecodeStream.
-/
namespace Go.Proofs.Ytfhkkpfiflgofaa
open Go.RowKit
set_option linter.unusedVariables false

end Go.Proofs.Ytfhkkpfiflgofaa
/-
  The reference's DecodeStream: its walk.
-/
namespace Go.Proofs.Ytfhkkpfiflgofaa
open Go.RowKit
set_option linter.unusedVariables false

theorem tot_num {D C N : Int} {q r n c : Nat} (hl : LN D C N q r n c) : D + N * C = (((ordS q r n c).length : Nat) : Int) := by
  obtain ⟨mm, hmm, hm2, -⟩ := hl.mul
  have hD := hl.hD
  rw [ordS_length q r n c (Nat.le_of_lt hl.rn), hmm]
  have : n * q = q * n := Nat.mul_comm _ _
  omega
theorem ord_small {D C N : Int} {q r n c : Nat} (hl : LN D C N q r n c) (htot : q * n + r + n * c ≤ 1500) : (ordS q r n c).length ≤ 1500 := by
  rw [ordS_length q r n c (Nat.le_of_lt hl.rn)]
  have : n * q = q * n := Nat.mul_comm _ _
  omega
end Go.Proofs.Ytfhkkpfiflgofaa
