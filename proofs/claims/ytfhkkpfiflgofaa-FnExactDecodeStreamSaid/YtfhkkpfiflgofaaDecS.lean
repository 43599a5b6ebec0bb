/-
  The reference's parts of DecodeStream: the code of a stream, marks, indices, words.
-/
import Derived.Test.YtfhkkpfiflgofaaStrmD
import Derived.Test.YtfhkkpfiflgofaaEncT
namespace Go.Proofs.Ytfhkkpfiflgofaa
open Go.RowKit
set_option linter.unusedVariables false

set_option maxHeartbeats 4000000 in
set_option maxRecDepth 100000 in
theorem l07Code_any (p pw g D C N : Int) (w : World) {a : Option Addr} {m cap : Nat} {zs : List Int} (hr : RowAt w a m zs) :
    Calls Try.prog 96 #[lV p pw g D C N, .slice a m cap] w fun e w' => e = .returned (.int .i64 (scC p pw g D C N zs)) ∧ Below w.heap.size w w' := by
  have HR := Lib.hid hr
  have hlen := Lib.hid hr.len
  have hsm := hr.small
  have HB := Lib.hid (below1 w (.cells #[.int .i64 p, .int .i64 pw, .int .i64 g, .int .i64 D, .int .i64 C, .int .i64 N] LT))
  have L0 := Lib.hid (LB.new w p pw g D C N)
  clear hr
  go_enter Try.func96, Try.ntmps96
  go_wp2_with fail
  refine (specIsLayout_any p pw g D C N _).mono ?_
  rintro e w2 ⟨rfl, hb2⟩
  have B2 := Lib.hid (HB.out.trans (hb2.mono HB.out.size))
  have L2 := Lib.hid (L0.out.below hb2 L0.out.lt)
  clear hb2 HB L0
  cases hlay : layB p pw g D C N with
  | false =>
    have hf0 := Lib.hid (sc_bad (s := zs) hlay)
    clear hlay
    go_wp2_with fail
    go_ret
    exact ⟨by rw [hf0.out]; rfl, B2.out⟩
  | true =>
  obtain ⟨q, r, n, c, hl, htot, hval, hvB⟩ := lay_ok hlay
  have HI := Lib.hid (fun W (hb : Below w.heap.size w W) => l02Is_any p pw g (ranged_of hvB) W (cap := cap) (HR.out.below' hb))
  have HL := Lib.hid hl
  have HTOT := Lib.hid htot
  have HLAY := Lib.hid hlay
  have HD := Lib.hid hl.hD
  clear hl htot hval hvB hlay
  have k0 := L2.out.c0
  have k1 := L2.out.c1
  have k2 := L2.out.c2
  have k3 := L2.out.c3
  have k4 := L2.out.c4
  have k5 := L2.out.c5
  go_wp2_with fail
  refine (l07Total_any p pw g HL.out _).mono ?_
  rintro e w3 ⟨rfl, hb3⟩
  have B3 := Lib.hid (B2.out.trans (hb3.mono B2.out.size))
  have L3 := Lib.hid (L2.out.below hb3 L2.out.lt)
  clear hb3 k0 k1 k2 k3 k4 k5
  by_cases hn : (m : Int) = D + N * C
  rotate_left
  · have hf0 := Lib.hid (sc_range (s := zs) HLAY.out (fun x => hn (by rw [← hlen.out]; exact x.1)))
    have hn' : ((m : Int) != D + N * C) = true := by simp; omega
    generalize D + N * C = tt at *
    go_wp2_with fail
    go_ret
    exact ⟨by rw [hf0.out]; rfl, B3.out⟩
  have hn' : ((m : Int) != D + N * C) = false := by simp; omega
  have HN := Lib.hid hn
  generalize D + N * C = tt at hn' ⊢
  clear hn
  have k0 := L3.out.c0
  have k1 := L3.out.c1
  have k2 := L3.out.c2
  go_wp2_with fail
  refine (HI.out _ B3.out).mono ?_
  rintro e w4 ⟨rfl, hb4⟩
  have B4 := Lib.hid (B3.out.trans (hb4.mono B3.out.size))
  clear hb4 k0 k1 k2
  cases hal : allB (ffOf p pw g) zs
  · have hf0 := Lib.hid (sc_range (s := zs) HLAY.out (fun x => by rw [hal] at x; cases x.2))
    go_wp2_with fail
    go_ret
    exact ⟨by rw [hf0.out]; rfl, B4.out⟩
  · have hf0 := Lib.hid (sc_ok (s := zs) HLAY.out (by rw [hlen.out]; exact HN.out) hal)
    go_wp2_with fail
    go_ret
    exact ⟨by rw [hf0.out]; rfl, B4.out⟩
set_option maxHeartbeats 2000000 in
theorem l07Marks_any (l : Int) (hl0 : 0 ≤ l) (hl1 : l ≤ 5000) {w : World} {a : Option Addr} {n cap : Nat} {zs : List Int} (hr : RowAt w a n zs) :
    Calls Try.prog 97 #[.slice a n cap, .int .i64 l] w fun e w' => e = .returned (.bool (risB 0 (l - 1) zs)) ∧ Below w.heap.size w w' := by
  have HR := Lib.hid hr
  have hl := Lib.hid hr.len
  have hsm := hr.small
  clear hr
  have wl : IntKind.i64.wrap (l - 1) = l - 1 := IntWalk.i64_in _ (by omega)
  go_enter Try.func97, Try.ntmps97
  go_wp2_with fail
  go_loopw [5] (fun t wr => ∃ k : Nat, k ≤ n ∧ t = .int .i64 k ∧ Hid (RisTo 0 (l - 1) zs k) ∧ Hid (Below w.heap.size w wr)) (fun t _ => (n - intOf t).toNat)
  case atStart => exact ⟨0, by omega, rfl, fun j hj => by omega, Lib.hid (Below.refl _ _)⟩
  case round =>
    obtain ⟨k, hk, rfl, hris, hbel⟩ := hrel
    by_cases hlt : k < n
    · obtain ⟨b1, o1, rfl, hb1, hcs⟩ := (HR.out.below' hbel.out).at' (by omega)
      have hcell := hcs k hlt
      have HNO := Lib.hid (risB_no (lo := 0) (hi := l - 1) hl.out hlt)
      have HNX := Lib.hid hris.out.next
      have HIN := Lib.hid (fun W => (l01In_any (gi zs k) 0 (l - 1) W).mono fun e w' h => (⟨h.1, h.2.symm⟩ : _ ∧ w' = W))
      cases hin : inR (gi zs k) 0 (l - 1)
      · have hf := Lib.hid (HNO.out (fun h => by rw [inR_true h.1 h.2.1] at hin; cases hin))
        rw [hin] at HIN
        clear hcs hin
        go_wp2_with fail
        go_quiet ((go_at_call 68; exact Calls.quiet_of_same (HIN.out _)))
        go_wp2_with fail
        go_ret
        exact ⟨ret_bool hf.out.symm, Below.trans hbel.out (Drew.below (drew4 wr _) _)⟩
      · obtain ⟨h1, h2⟩ := inR_iff.1 hin
        rw [hin] at HIN
        by_cases h0 : 0 < k
        · obtain ⟨j, rfl⟩ : ∃ j, k = j + 1 := ⟨k - 1, by omega⟩
          have hcell2 := hcs j (by omega)
          simp only [Nat.add_sub_cancel] at HNO HNX
          have et2 : (0 : Int) < ((j + 1 : Nat) : Int) := by omega
          have wj : IntKind.i64.wrap (j : Int) = (j : Int) := IntWalk.i64_in _ (by omega)
          have hjn : j < n := by omega
          clear hcs hin
          generalize hx : gi zs (j + 1) = x at *
          generalize hy : gi zs j = y at *
          clear hx hy
          by_cases hge : x ≤ y
          · have hf := Lib.hid (HNO.out (fun h => by have := h.2.2 (by omega); omega))
            go_wp2_with fail
            go_quiet ((go_at_call 68; exact Calls.quiet_of_same (HIN.out _)))
            go_wp2_with fail
            go_ret
            exact ⟨ret_bool hf.out.symm, Below.trans hbel.out (Drew.below (drew4 wr _) _)⟩
          · have hs := Lib.hid (HNX.out h1 h2 (fun _ => by omega))
            have hlt3 : y < x := by omega
            go_wp2_with fail
            go_quiet ((go_at_call 68; exact Calls.quiet_of_same (HIN.out _)))
            go_wp2_with fail
            go_roundw
            case rel => exact ⟨j + 1 + 1, by omega, by go_num, hs, Lib.hid (Below.trans hbel.out (Drew.below (drew4 wr _) _))⟩
            case measure => simp [intOf]; omega
        · have hs := Lib.hid (HNX.out h1 h2 (fun h => absurd h h0))
          have hd0 : decide ((0 : Int) < (k : Int)) = false := by simp; omega
          have hd1 : decide (0 < k) = false := by simp; omega
          clear hcs hin h0
          go_wp2_with fail
          go_quiet ((go_at_call 68; exact Calls.quiet_of_same (HIN.out _)))
          go_wp2_with fail
          go_roundw
          case rel => exact ⟨k + 1, by omega, by go_num, hs, Lib.hid (Below.trans hbel.out (Drew.below (drew4 wr _) _))⟩
          case measure => simp [intOf]; omega
    · obtain rfl : k = n := by omega
      have hf := Lib.hid (risB_yes hl.out hris.out)
      go_wp2_with fail
      go_ret
      exact ⟨ret_bool hf.out.symm, hbel.out⟩
set_option maxHeartbeats 4000000 in
set_option maxRecDepth 100000 in
theorem l07Spread_any {tot : Nat} (ht : tot ≤ 5000) {w : World} {a : Option Addr} {n cap : Nat} {zs : List Int} (hr : RowAt w a n zs) (hris : RisTo 0 ((tot : Int) - 1) zs n) :
    Calls Try.prog 143 #[.slice a n cap, .int .i64 (tot : Int)] w fun e w' => ∃ v, e = .returned v ∧ Below w.heap.size w w' ∧ OwnL w' w.heap.size v (lostL tot zs) := by
  have HR := Lib.hid hr
  have hl := Lib.hid hr.len
  have hsm := hr.small
  have HRIS := Lib.hid hris
  clear hr hris
  have hmk := fun w => run_make_ints w 26 Try.underlying26 (tot : Int) (by omega) (by omega)
  simp only [Int.toNat_natCast] at hmk
  have O0 := Lib.hid (show OwnL (w.alloc (.cells (madeCells #[.int .i64 0] tot) 2)) w.heap.size (.slice (some ⟨w.heap.size, 0, none⟩) tot tot) (lostL tot (zs.take 0)) by
    rw [List.take_zero, lostL_nil]; exact OwnL.zeros w w.heap.size (Nat.le_refl _) tot (by omega))
  have B0 := Lib.hid (below1 w (.cells (madeCells #[.int .i64 0] tot) 2))
  go_enter Try.func143, Try.ntmps143
  go_wp2_with fail
  clear hmk
  go_loopw [6] (fun t wr => ∃ k : Nat, k ≤ n ∧ t = .int .i64 k ∧ Hid (OwnL wr w.heap.size (.slice (some ⟨w.heap.size, 0, none⟩) tot tot) (lostL tot (zs.take k))) ∧ Hid (Below w.heap.size w wr)) (fun t _ => n - (intOf t).toNat)
  case atStart => exact ⟨0, by omega, rfl, O0, B0⟩
  case round =>
    obtain ⟨k, hk, rfl, ho, hb⟩ := hrel
    clear O0 B0
    by_cases hlt : k < n
    · have hki : (k : Int) < (n : Int) := by omega
      obtain ⟨b1, o1, rfl, hb1, hcs⟩ := (HR.out.below' hb.out).at' (by omega)
      have hcell := hcs k hlt
      obtain ⟨h0, h1, -⟩ := HRIS.out k hlt
      obtain ⟨i, hi⟩ : ∃ i : Nat, gi zs k = (i : Int) := ⟨(gi zs k).toNat, by omega⟩
      have HST := Lib.hid (lostL_step (tot := tot) (k := k) (E := zs) (by rw [hl.out]; exact hlt) h0 (by omega))
      rw [hi] at hcell h1 HST
      rw [Int.toNat_natCast] at HST
      have hil : i < tot := by omega
      have hii : (i : Int) < (tot : Int) := by omega
      obtain ⟨-, -, -, -, hoa⟩ := ho.out.cap
      have ho2 := ho.out.2
      rw [lostL_length] at ho2
      have hpl := (ho2.cellAt i (by omega))
      have hfz := ho2.frozenAt i
      have O2 := Lib.hid (ho.out.set (k := i) (by rw [lostL_length]; exact hil) 1)
      rw [← HST.out] at O2
      have hpl2 : wr.cell? ⟨w.heap.size, i, none⟩ = some (.int .i64 (gi (lostL tot (zs.take k)) i)) := by
        rw [hpl, List.getElem?_map]
        unfold gi; rw [List.getD_eq_getElem?_getD, List.getElem?_eq_getElem (by rw [lostL_length]; exact hil)]; rfl
      have B2 := Lib.hid (hb.out.setCell (p := ⟨w.heap.size, i, none⟩) (Nat.le_refl _) (.int .i64 1))
      clear hcs hpl hi h1 h0 ho hb ho2
      go_wp2_with fail
      go_roundw
      case rel => exact ⟨k + 1, by omega, by go_num, O2, B2⟩
      case measure => simp [intOf]; omega
    · obtain rfl : k = n := by omega
      have hki : ¬ (k : Int) < (k : Int) := by omega
      have OF := Lib.hid (show OwnL wr w.heap.size (.slice (some ⟨w.heap.size, 0, none⟩) tot tot) (lostL tot zs) by have h := ho.out; rw [List.take_of_length_le (by rw [hl.out]; exact Nat.le_refl _)] at h; exact h)
      go_wp2_with fail
      go_ret
      exact ⟨_, rfl, hb.out, OF.out⟩
set_option maxHeartbeats 4000000 in
set_option maxRecDepth 100000 in
theorem l07Indices_any {w : World} {a : Option Addr} {n cap : Nat} {zs : List Int} (hr : RowAt w a n zs) (hn : n ≤ 5000) :
    Calls Try.prog 145 #[.slice a n cap] w fun e w' => ∃ v, e = .returned v ∧ Below w.heap.size w w' ∧ OwnL w' w.heap.size v (filtL (fun e => gi zs e != 0) n) := by
  have HR := Lib.hid hr
  have hsm := hr.small
  clear hr
  have O0 := Lib.hid (show OwnL (w.alloc (.cells #[] 2)) w.heap.size (.slice (some ⟨w.heap.size, 0, none⟩) 0 0) (filtL (fun e => gi zs e != 0) 0) from OwnL.empty w w.heap.size (Nat.le_refl _) _ rfl)
  have B0 := Lib.hid (below1 w (.cells #[] 2))
  go_enter Try.func145, Try.ntmps145
  go_wp2_with fail
  go_loopw [3, 4] (fun v t wr => ∃ k : Nat, k ≤ n ∧ t = .int .i64 k ∧ Hid (OwnL wr w.heap.size v (filtL (fun e => gi zs e != 0) k)) ∧ Hid (Below w.heap.size w wr)) (fun _ t _ => n - (intOf t).toNat)
  case atStart => exact ⟨0, by omega, rfl, O0, B0⟩
  case round =>
    obtain ⟨k, hk, rfl, ho, hb⟩ := hrel
    clear O0 B0
    by_cases hlt : k < n
    · have hki : (k : Int) < (n : Int) := by omega
      obtain ⟨b1, o1, rfl, hb1, hcs⟩ := (HR.out.below' hb.out).at' (by omega)
      have hcell := hcs k hlt
      have hll : (filtL (fun e => gi zs e != 0) k).length ≤ 16777216 := by have := filtL_length (fun e => gi zs e != 0) k; omega
      cases hz : (gi zs k != 0) with
      | true =>
        have HST := Lib.hid (filtL_yes (P := fun e => gi zs e != 0) (k := k) hz)
        generalize gi zs k = z at *
        clear hcs
        go_wp2_with (at_builtin; refine append_one rfl _ _ _ rfl Try.underlying26 (k : Int) ho.out rfl _ rfl rfl hll ?_; intro v2 w2 ho2 hb2)
        rw [← HST.out] at ho2
        have O2 := Lib.hid ho2
        have B2 := Lib.hid (hb.out.trans hb2)
        clear ho2 hb2 ho hb
        go_wp2_with fail
        go_roundw
        case rel => exact ⟨k + 1, by omega, by go_num, O2, B2⟩
        case measure => simp [intOf]; omega
      | false =>
        have HST := Lib.hid (filtL_no (P := fun e => gi zs e != 0) (k := k) hz)
        generalize gi zs k = z at *
        clear hcs
        go_wp2_with fail
        go_roundw
        case rel => exact ⟨k + 1, by omega, by go_num, Lib.hid (by rw [HST.out]; exact ho.out), hb⟩
        case measure => simp [intOf]; omega
    · obtain rfl : k = n := by omega
      have hki : ¬ (k : Int) < (k : Int) := by omega
      go_wp2_with fail
      go_ret
      exact ⟨_, rfl, hb.out, ho.out⟩
end Go.Proofs.Ytfhkkpfiflgofaa
