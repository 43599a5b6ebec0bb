/-
  The walks of the reference's checks of polynomials.
-/
import Derived.Test.YtenlaoadclfmaaaPolys
namespace Go.Proofs.Ytenlaoadclfmaaa
open Go.RowKit
set_option linter.unusedVariables false

theorem l03Is_any (p pw g : Int) (hv : validB p pw g = true) (w : World) {a : Option Addr} {n cap : Nat} {zs : List Int} (hr : RowAt w a n zs) :
    Calls Try.prog 107 #[fV p pw g, .slice a n cap] w fun e w' => e = .returned (.bool (polyB (ffOf p pw g) zs)) ∧ Below w.heap.size w w' := by
  have hR := Lib.hid (ranged_of hv)
  have HR := Lib.hid hr
  have hl := hr.len
  have hsm := hr.small
  clear hr hv
  by_cases h1 : n ≤ 512
  · have hrow1 := HR.out.below' (below1 w (.cells #[.int .i64 p, .int .i64 pw, .int .i64 g] 27))
    cases hall : allB (ffOf p pw g) zs
    · have hf := Lib.hid (polyB_all hall)
      clear hl
      go_enter Try.func107, Try.ntmps107
      go_wp2_with fail
      refine (l02Is_any p pw g hR.out _ hrow1).mono ?_
      rintro e w1 ⟨rfl, hb1⟩
      have HB1 := Lib.hid ((below1 _ _).trans (hb1.mono (by simp)))
      clear hb1
      go_wp2_with fail
      go_ret
      exact ⟨ret_bool hf.out.symm, HB1.out⟩
    · by_cases h0 : n = 0
      · subst h0
        have hf := Lib.hid ((polyB_rest (by omega) hall).trans (tightB_nil hl))
        clear hl
        go_enter Try.func107, Try.ntmps107
        go_wp2_with fail
        refine (l02Is_any p pw g hR.out _ hrow1).mono ?_
        rintro e w1 ⟨rfl, hb1⟩
        have HB1 := Lib.hid ((below1 _ _).trans (hb1.mono (by simp)))
        clear hb1
        go_wp2_with fail
        go_ret
        exact ⟨ret_bool hf.out.symm, HB1.out⟩
      · have hf := Lib.hid ((polyB_rest (by omega) hall).trans (tightB_last hl (by omega)))
        have hn0 : ((n : Int) == 0) = false := by simp; omega
        have ei : ((n : Int) - 1).toNat = n - 1 := by omega
        clear hl
        go_enter Try.func107, Try.ntmps107
        go_wp2_with fail
        refine (l02Is_any p pw g hR.out _ hrow1).mono ?_
        rintro e w1 ⟨rfl, hb1⟩
        have HB1 := Lib.hid ((below1 _ _).trans (hb1.mono (by simp)))
        have hrow2 := HR.out.below' HB1.out
        obtain ⟨b1, o1, rfl, hb1', hcs⟩ := hrow2.at' (by omega)
        have hcell := hcs (n - 1) (by omega)
        clear hb1 hcs hrow1 hrow2
        go_wp2_with fail
        go_ret
        exact ⟨ret_bool hf.out.symm, HB1.out⟩
  · have hf := Lib.hid (polyB_long (F := ffOf p pw g) (show 512 < zs.length by omega))
    clear hl
    go_enter Try.func107, Try.ntmps107
    go_wp2_with fail
    go_ret
    exact ⟨ret_bool hf.out.symm, below1 _ _⟩
set_option maxHeartbeats 400000 in
theorem l03Code_any (p pw g : Int) (w : World) {A : Option Addr} {m cap : Nat} {L : List (List Int)} (hrows : RowsAt w A m L) :
    Calls Try.prog 55 #[fV p pw g, .slice A m cap] w fun e w' => e = .returned (.int .i64 (codeP p pw g L)) ∧ Below w.heap.size w w' := by
  have HROW := Lib.hid hrows
  have hsm := hrows.small
  clear hrows
  go_enter Try.func55, Try.ntmps55
  go_wp2_with fail
  refine (isField_any p pw g _).mono ?_
  rintro e w1 ⟨rfl, hb1⟩
  have hb : Below w.heap.size w w1 := (below1 _ _).trans (hb1.mono (by simp))
  have HB := Lib.hid hb
  have hX1 := Lib.hid ((box_new w p pw g 27).below hb1 (by simp))
  clear hb1 hb
  cases hv : validB p pw g
  · have hf := Lib.hid (show codeP p pw g L = 1 by unfold codeP; rw [hv]; rfl)
    go_wp2_with fail
    go_ret
    exact ⟨ret_int hf.out.symm, HB.out⟩
  · have HV := Lib.hid hv
    have HP1 := Lib.hid (fun (h : polysB (ffOf p pw g) L = false) => (show codeP p pw g L = 1 by unfold codeP; rw [hv, h]; rfl))
    have HP0 := Lib.hid (fun (h : polysB (ffOf p pw g) L = true) => (show codeP p pw g L = 0 by unfold codeP; rw [hv, h]; rfl))
    go_wp2_with fail
    clear hv
    go_loopw [5] (fun t wr => ∃ k : Nat, k ≤ m ∧ Hid (polysB (ffOf p pw g) (L.take k) = true) ∧ t = .int .i64 k ∧ Below w.heap.size w wr ∧ Box wr w.heap.size p pw g) (fun t _ => m - (intOf t).toNat)
    case atStart => exact ⟨0, by omega, rfl, rfl, HB.out, hX1.out⟩
    case round =>
      obtain ⟨k, hk, hall, rfl, hbel, hbox⟩ := hrel
      have hrow := HROW.out.below hbel
      have HB2 := Lib.hid hbel
      have HBX := Lib.hid hbox
      obtain ⟨hlt0, c0, c1, c2⟩ := hbox
      clear hbel
      by_cases hlt : k < m
      · obtain ⟨b', off, rfl, hb', hcs⟩ := hrow.at' (by omega)
        obtain ⟨a, n, cap2, hcell, hrw⟩ := hcs k hlt
        have hlk : k < L.length := by rw [HROW.out.len]; exact hlt
        have hyes := Lib.hid (fun (h : polyB (ffOf p pw g) (L.getD k []) = true) => polysB_snoc hlk hall.out h)
        have hno := Lib.hid (fun (h : polyB (ffOf p pw g) (L.getD k []) = false) => HP1.out (polysB_not hlk h))
        generalize L.getD k [] = zs at *
        have HRW := Lib.hid hrw
        have HIS := Lib.hid (fun W (h : RowAt W a n zs) => l03Is_any p pw g HV.out W (cap := cap2) h)
        clear hcs hrw hrow hlk
        go_wp2_with fail
        go_region_held3 (fun w' => w'.cell? ⟨b', off + k, none⟩ = some (.slice a n cap2) ∧ w'.cell? ⟨w.heap.size, 0, none⟩ = some (.int .i64 p) ∧ w'.cell? ⟨w.heap.size, 1, none⟩ = some (.int .i64 pw) ∧ w'.cell? ⟨w.heap.size, 2, none⟩ = some (.int .i64 g))
          (first | go_keep | (go_split_ands; refine ⟨?_, ?_, ?_, ?_⟩; all_goals (rw [hb3.cell (by simp; omega)]; assumption)))
          (first | (go_at_call 107; refine (HIS.out _ ?hrow).mono ?_; exact HRW.out.below' (Below.refl _ _).drew; rintro e w3 ⟨rfl, hb3⟩))
        have hb3' : Below wr.heap.size wr w3 := (Below.refl _ wr).drew.trans hb3
        have hs := HB2.out.size
        have hB3 := Lib.hid (HB2.out.trans (hb3'.mono hs))
        have hX3 := Lib.hid (HBX.out.below hb3' hlt0)
        clear hb3 hb3' hs
        cases hh : polyB (ffOf p pw g) zs
        · have hf := Lib.hid (hno.out hh)
          simp only [Bool.not_false]
          go_wp2_with fail
          go_ret
          exact ⟨ret_int hf.out.symm, hB3.out⟩
        · have hf := Lib.hid (hyes.out hh)
          simp only [Bool.not_true]
          go_wp2_with fail
          go_roundw
          case rel => exact ⟨k + 1, by omega, hf, by go_num, hB3.out, hX3.out⟩
          case measure => simp [intOf]; omega
      · have e : k = m := by omega
        have hf := Lib.hid (HP0.out (by have := hall.out; rw [List.take_of_length_le (by rw [HROW.out.len]; omega)] at this; exact this))
        clear e hrow
        go_wp2_with fail
        go_ret
        exact ⟨ret_int hf.out.symm, HB2.out⟩
end Go.Proofs.Ytenlaoadclfmaaa
