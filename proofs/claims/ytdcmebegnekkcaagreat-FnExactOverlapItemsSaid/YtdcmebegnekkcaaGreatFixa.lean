/-
  The parts Fixd, Fixe.
-/
import Derived.Test.YtdcmebegnekkcaaGreatFamc
/-
  Fixed cells and the counts of data cells, in the reference.
-/
namespace Go.Proofs.YtdcmebegnekkcaaGreat
open Go.RowKit
set_option linter.unusedVariables false

theorem drewCell {w w' : World} (h : Drew w w') (a : Addr) : w'.cell? a = w.cell? a := by obtain ⟨q, rfl⟩ := h; exact World.cell?_of_block rfl
def absZ (n : Int) : Int := if n < -n then -n else n
/-- A cell of a finder pattern or its border; -1 elsewhere. -/
def finD (r c : Int) : Int := if absZ (r - 3) < absZ (c - 3) then absZ (c - 3) else absZ (r - 3)
def finZ (r c : Int) : Int := if 4 < finD r c then -1 else if finD r c = 2 ∨ finD r c = 4 then 0 else 1
def inBd (n : Int) : Prop := -1000000 ≤ n ∧ n ≤ 1000000
theorem l01Abs_any {n : Int} (h : -10000000 ≤ n ∧ n ≤ 10000000) (w : World) :
    Calls Tryz.prog 90 #[.int .i64 n] w fun e w' => e = .returned (.int .i64 (absZ n)) ∧ w = w' := by
  have hw := (wrp (x := -n) (by omega)).2
  clear h
  go_enter Tryz.func90, Tryz.ntmps90
  go_wp2_with fail
  all_goals
    go_ret
    refine ⟨?_, rfl⟩
    show Ending.returned (Value.int .i64 _) = _
    congr 2
    unfold absZ
    split <;> omega
theorem distance_any {n : Int} (h : -10000000 ≤ n ∧ n ≤ 10000000) (w : World) :
    Calls Tryz.prog 195 #[.int .i64 n] w fun e w' => e = .returned (.int .i64 (absZ n)) ∧ w = w' := by
  have hw := (wrp (x := -n) (by omega)).2
  clear h
  go_enter Tryz.func195, Tryz.ntmps195
  go_wp2_with fail
  all_goals
    go_ret
    refine ⟨?_, rfl⟩
    show Ending.returned (Value.int .i64 _) = _
    congr 2
    unfold absZ
    split <;> omega
theorem l14Finder_any {r c : Int} (hr : inBd r) (hc : inBd c) (w : World) :
    Calls Tryz.prog 89 #[.int .i64 r, .int .i64 c] w fun e w' => e = .returned (.int .i64 (finZ r c)) ∧ w = w' := by
  obtain ⟨r1, r2⟩ := hr
  obtain ⟨c1, c2⟩ := hc
  have hw1 := (wrp (x := r - 3) (by omega)).2
  have hw2 := (wrp (x := c - 3) (by omega)).2
  have A1 := Lib.hid (l01Abs_any (n := r - 3) (by omega))
  have A2 := Lib.hid (l01Abs_any (n := c - 3) (by omega))
  have HF : finZ r c = if 4 < finD r c then -1 else if finD r c = 2 ∨ finD r c = 4 then 0 else 1 := rfl
  have HD : finD r c = if absZ (r - 3) < absZ (c - 3) then absZ (c - 3) else absZ (r - 3) := rfl
  generalize absZ (r - 3) = x at *
  generalize absZ (c - 3) = y at *
  clear r1 r2 c1 c2
  have HFF := Lib.hid HF
  have HDD := Lib.hid HD
  clear HF HD
  go_enter Tryz.func89, Tryz.ntmps89
  go_wp2_with fail
  refine (A1.out _).mono ?_
  rintro e w1 ⟨rfl, rfl⟩
  go_wp2_with fail
  refine (A2.out _).mono ?_
  rintro e w1 ⟨rfl, rfl⟩
  go_wp2_with fail
  all_goals
    go_ret
    refine ⟨?_, rfl⟩
    show Ending.returned (Value.int .i64 _) = _
    congr 2
    have HF := HFF.out
    have HD := HDD.out
    rw [HF]
    try simp only [beq_iff_eq, beq_eq_false_iff_ne, ne_eq] at *
    split at HD <;> rw [HD] <;> split <;> (try split) <;> omega
/-- A fixed cell of the reference; -1 for any other. -/
def fixZ (n r c : Int) : Int :=
  if 0 ≤ finZ r c then finZ r c else if 0 ≤ finZ r (c - (n - 7)) then finZ r (c - (n - 7)) else if 0 ≤ finZ (r - (n - 7)) c then finZ (r - (n - 7)) c
  else if r = 6 ∧ 8 ≤ c ∧ c ≤ n - 9 then 1 - c.tmod 2 else if c = 6 ∧ 8 ≤ r ∧ r ≤ n - 9 then 1 - r.tmod 2 else if r = n - 8 ∧ c = 8 then 1 else -1
theorem fixZ_eq (n r c : Int) : fixZ n r c =
  if 0 ≤ finZ r c then finZ r c else if 0 ≤ finZ r (c - (n - 7)) then finZ r (c - (n - 7)) else if 0 ≤ finZ (r - (n - 7)) c then finZ (r - (n - 7)) c
  else if r = 6 ∧ 8 ≤ c ∧ c ≤ n - 9 then 1 - c.tmod 2 else if c = 6 ∧ 8 ≤ r ∧ r ≤ n - 9 then 1 - r.tmod 2 else if r = n - 8 ∧ c = 8 then 1 else -1 := rfl
set_option maxHeartbeats 4000000 in
set_option maxRecDepth 20000 in
theorem l14Fixed_any {n r c : Int} (hn : 17 ≤ n ∧ n ≤ 41) (hr : 0 ≤ r ∧ r < n) (hc : 0 ≤ c ∧ c < n) (w : World) :
    Calls Tryz.prog 88 #[.int .i64 n, .int .i64 r, .int .i64 c] w fun e w' => e = .returned (.int .i64 (fixZ n r c)) ∧ Below w.heap.size w w' := by
  have hw7 := (wrp (x := n - 7) (by omega)).2
  have hw8 := (wrp (x := n - 8) (by omega)).2
  have hw9 := (wrp (x := n - 9) (by omega)).2
  have hr7 := (wrp (x := r - (n - 7)) (by omega)).2
  have hc7 := (wrp (x := c - (n - 7)) (by omega)).2
  have hr0 := (wrp (x := r) (by omega)).2
  have hc0 := (wrp (x := c) (by omega)).2
  have F0 := Lib.hid (fun (V : World) => (l14Finder_any (r := r) (c := c) (by unfold inBd; omega) (by unfold inBd; omega) V).mono fun e w' h => And.intro h.1 h.2.symm)
  have F1 := Lib.hid (fun (V : World) => (l14Finder_any (r := r) (c := c - (n - 7)) (by unfold inBd; omega) (by unfold inBd; omega) V).mono fun e w' h => And.intro h.1 h.2.symm)
  have F2 := Lib.hid (fun (V : World) => (l14Finder_any (r := r - (n - 7)) (c := c) (by unfold inBd; omega) (by unfold inBd; omega) V).mono fun e w' h => And.intro h.1 h.2.symm)
  have ht1 : r.tmod 2 = r % 2 := Int.tmod_eq_emod_of_nonneg (by omega)
  have ht2 : c.tmod 2 = c % 2 := Int.tmod_eq_emod_of_nonneg (by omega)
  have HZ := fixZ_eq n r c
  generalize finZ r c = x0 at *
  generalize finZ r (c - (n - 7)) = x1 at *
  generalize finZ (r - (n - 7)) c = x2 at *
  have HZZ := Lib.hid HZ
  clear HZ
  generalize fixZ n r c = Z at *
  go_enter Tryz.func88, Tryz.ntmps88
  go_wp2_with fail
  have HB0 := Lib.hid (((((Below.refl w.heap.size w).alloc (Nat.le_refl _) (.cells #[.int .i64 0, .int .i64 0] 2)).alloc (by simp <;> omega) (.cells #[.int .i64 0, .int .i64 (n - 7)] 2)).alloc (by simp <;> omega) (.cells #[.int .i64 (n - 7), .int .i64 0] 2)).alloc (by simp <;> omega) (.cells #[.slice (some { block := w.heap.size, off := 0 }) 2 2, .slice (some { block := w.heap.size + 1, off := 0 }) 2 2, .slice (some { block := w.heap.size + 1 + 1, off := 0 }) 2 2] 25))
  have cs0 : (w.alloc (.cells #[.int .i64 0, .int .i64 0] 2)).heap.size = w.heap.size + 1 := by simp
  obtain ⟨W, hW, hWb, k0, k1, k2, a0, a1, b0, b1, d0, d1⟩ : ∃ W, W = (((((w.alloc (.cells #[.int .i64 0, .int .i64 0] 2)).alloc (.cells #[.int .i64 0, .int .i64 (n - 7)] 2)).alloc (.cells #[.int .i64 (n - 7), .int .i64 0] 2)).alloc (.cells #[.slice (some { block := w.heap.size, off := 0 }) 2 2, .slice (some { block := w.heap.size + 1, off := 0 }) 2 2, .slice (some { block := w.heap.size + 1 + 1, off := 0 }) 2 2] 25)) : World) ∧ Below w.heap.size w W
      ∧ W.cell? ⟨w.heap.size + 1 + 1 + 1, 0, none⟩ = some (.slice (some { block := w.heap.size, off := 0 }) 2 2) ∧ W.cell? ⟨w.heap.size + 1 + 1 + 1, 1, none⟩ = some (.slice (some { block := w.heap.size + 1, off := 0 }) 2 2) ∧ W.cell? ⟨w.heap.size + 1 + 1 + 1, 2, none⟩ = some (.slice (some { block := w.heap.size + 1 + 1, off := 0 }) 2 2)
      ∧ W.cell? ⟨w.heap.size, 0, none⟩ = some (.int .i64 0) ∧ W.cell? ⟨w.heap.size, 1, none⟩ = some (.int .i64 0) ∧ W.cell? ⟨w.heap.size + 1, 0, none⟩ = some (.int .i64 0) ∧ W.cell? ⟨w.heap.size + 1, 1, none⟩ = some (.int .i64 (n - 7)) ∧ W.cell? ⟨w.heap.size + 1 + 1, 0, none⟩ = some (.int .i64 (n - 7)) ∧ W.cell? ⟨w.heap.size + 1 + 1, 1, none⟩ = some (.int .i64 0) := by
    refine ⟨_, rfl, HB0.out, ?_⟩
    refine ⟨?_, ?_, ?_, ?_, ?_, ?_, ?_, ?_, ?_⟩ <;> simp [go_sem]
  rw [← hW]
  have HBW := Lib.hid hWb
  clear hW hWb HB0
  generalize hh0 : w.heap.size = h0 at *
  have HK := Lib.hid (And.intro k0 (And.intro k1 (And.intro k2 (And.intro a0 (And.intro a1 (And.intro b0 (And.intro b1 (And.intro d0 d1))))))))
  clear k0 k1 k2 a0 a1 b0 b1 d0 d1
  go_loopw [8, 9] (fun ti _ wr => ∃ i : Nat, i ≤ 3 ∧ ti = .int .i64 (i : Int) ∧ Hid (Drew W wr) ∧ Hid ((0 < i → x0 < 0) ∧ (1 < i → x1 < 0) ∧ (2 < i → x2 < 0))) (fun ti _ _ => 3 - (intOf ti).toNat)
  case atStart => exact ⟨0, by omega, rfl, Lib.hid ⟨0, rfl⟩, Lib.hid ⟨by omega, by omega, by omega⟩⟩
  case round =>
    obtain ⟨i, hi, rfl, hD0, HX⟩ := hrel
    have hD : Hid (Drew W wr) := Lib.hid hD0.out
    clear hD0
    rcases (show i = 0 ∨ i = 1 ∨ i = 2 ∨ i = 3 by omega) with rfl | rfl | rfl | rfl
    · have hk := drewCell hD.out
      obtain ⟨k0, k1, k2, a0, a1, b0, b1, d0, d1⟩ := HK.out
      have G0 := (hk _).trans k0
      have G1 := (hk _).trans a0
      have G2 := (hk _).trans a1
      clear hk k0 k1 k2 a0 a1 b0 b1 d0 d1
      by_cases hz : 0 ≤ x0
      · go_wp2_with fail
        go_quiet (first | (go_at_call 89; exact Calls.quiet_of_same (F0.out _)))
        go_wp2_with fail
        have HXX := HX.out
        go_ret
        refine ⟨?_, hh0 ▸ (HBW.out.trans (Drew.below hD.out _)).trans (Drew.below (drew4 _ _) _)⟩
        rw [HZZ.out, if_pos hz]; rfl
      · go_wp2_with fail
        go_quiet (first | (go_at_call 89; exact Calls.quiet_of_same (F0.out _)))
        go_wp2_with fail
        have HXX := HX.out
        go_roundw
        case rel => exact ⟨1, by omega, by go_num, Lib.hid (Drew.trans hD.out (drew4 _ _)), Lib.hid ⟨by have := HXX; omega, by have := HXX; omega, by have := HXX; omega⟩⟩
        case measure => simp [intOf]
    · have hk := drewCell hD.out
      obtain ⟨k0, k1, k2, a0, a1, b0, b1, d0, d1⟩ := HK.out
      have G0 := (hk _).trans k1
      have G1 := (hk _).trans b0
      have G2 := (hk _).trans b1
      clear hk k0 k1 k2 a0 a1 b0 b1 d0 d1
      by_cases hz : 0 ≤ x1
      · go_wp2_with fail
        go_quiet (first | (go_at_call 89; exact Calls.quiet_of_same (F1.out _)))
        go_wp2_with fail
        have HXX := HX.out
        go_ret
        refine ⟨?_, hh0 ▸ (HBW.out.trans (Drew.below hD.out _)).trans (Drew.below (drew4 _ _) _)⟩
        have g0 := HXX.1 (by omega)
        rw [HZZ.out, if_neg (show ¬ 0 ≤ x0 by omega), if_pos hz]; rfl
      · go_wp2_with fail
        go_quiet (first | (go_at_call 89; exact Calls.quiet_of_same (F1.out _)))
        go_wp2_with fail
        have HXX := HX.out
        go_roundw
        case rel => exact ⟨2, by omega, by go_num, Lib.hid (Drew.trans hD.out (drew4 _ _)), Lib.hid ⟨by have := HXX; omega, by have := HXX; omega, by have := HXX; omega⟩⟩
        case measure => simp [intOf]
    · have hk := drewCell hD.out
      obtain ⟨k0, k1, k2, a0, a1, b0, b1, d0, d1⟩ := HK.out
      have G0 := (hk _).trans k2
      have G1 := (hk _).trans d0
      have G2 := (hk _).trans d1
      clear hk k0 k1 k2 a0 a1 b0 b1 d0 d1
      by_cases hz : 0 ≤ x2
      · go_wp2_with fail
        go_quiet (first | (go_at_call 89; exact Calls.quiet_of_same (F2.out _)))
        go_wp2_with fail
        have HXX := HX.out
        go_ret
        refine ⟨?_, hh0 ▸ (HBW.out.trans (Drew.below hD.out _)).trans (Drew.below (drew4 _ _) _)⟩
        have g0 := HXX.1 (by omega)
        have g1 := HXX.2.1 (by omega)
        rw [HZZ.out, if_neg (show ¬ 0 ≤ x0 by omega), if_neg (show ¬ 0 ≤ x1 by omega), if_pos hz]; rfl
      · go_wp2_with fail
        go_quiet (first | (go_at_call 89; exact Calls.quiet_of_same (F2.out _)))
        go_wp2_with fail
        have HXX := HX.out
        go_roundw
        case rel => exact ⟨3, by omega, by go_num, Lib.hid (Drew.trans hD.out (drew4 _ _)), Lib.hid ⟨by have := HXX; omega, by have := HXX; omega, by have := HXX; omega⟩⟩
        case measure => simp [intOf]
    · have hx := HX.out
      have e0 := hx.1 (by omega)
      have e1 := hx.2.1 (by omega)
      have e2 := hx.2.2 (by omega)
      have HZ2 := HZZ.out
      rw [if_neg (show ¬ 0 ≤ x0 by omega), if_neg (show ¬ 0 ≤ x1 by omega), if_neg (show ¬ 0 ≤ x2 by omega)] at HZ2
      have HZ3 := Lib.hid HZ2
      clear hx HZ2
      have HB8 := Lib.hid (hh0 ▸ HBW.out.trans (Drew.below hD.out _) : Below w.heap.size w wr)
      have mr : IntKind.i64.wrap (1 - r % 2) = 1 - r % 2 := (wrp (by omega)).2
      have mc : IntKind.i64.wrap (1 - c % 2) = 1 - c % 2 := (wrp (by omega)).2
      have mr2 : IntKind.i64.wrap (r % 2) = r % 2 := (wrp (by omega)).2
      have mc2 : IntKind.i64.wrap (c % 2) = c % 2 := (wrp (by omega)).2
      have hn8 : ((6 : Int) == n - 8) = false := by simp; omega
      have hr0' : 0 ≤ r := hr.1
      have hc0' : 0 ≤ c := hc.1
      by_cases hr6 : r = 6
      · subst hr6
        by_cases hI : 8 ≤ c ∧ c ≤ n - 9
        · have ZV := Lib.hid (show Z = 1 - c % 2 by rw [HZ3.out]; rw [if_pos ⟨rfl, hI.1, hI.2⟩, ht2])
          have I1 := Lib.hid (fun (V : World) => (by have := l01In_any c 8 (n - 9) V; rw [inR_true hI.1 hI.2] at this; exact this : Calls Tryz.prog 31 #[.int .i64 c, .int .i64 8, .int .i64 (n - 9)] V fun e w' => e = .returned (.bool true) ∧ V = w'))
          clear hI
          clear hn hr hc ht1 ht2
          go_wp2_with fail
          refine (I1.out _).mono ?_
          rintro e w5 ⟨rfl, rfl⟩
          go_wp2_with fail
          go_ret
          refine ⟨?_, HB8.out⟩
          rw [ZV.out]; rfl
        · by_cases hc6 : c = 6
          · subst hc6
            have ZV := Lib.hid (show Z = -1 by rw [HZ3.out]; rw [if_neg (by omega), if_neg (by omega), if_neg (by omega)])
            have I1 := Lib.hid (fun (V : World) => (by have := l01In_any 6 8 (n - 9) V; rw [inR_false hI] at this; exact this : Calls Tryz.prog 31 #[.int .i64 6, .int .i64 8, .int .i64 (n - 9)] V fun e w' => e = .returned (.bool false) ∧ V = w'))
            clear hI
            clear hn hr hc ht1 ht2
            go_wp2_with fail
            refine (I1.out _).mono ?_
            rintro e w5 ⟨rfl, rfl⟩
            go_wp2_with fail
            refine (I1.out _).mono ?_
            rintro e w5 ⟨rfl, rfl⟩
            go_wp2_with fail
            go_ret
            refine ⟨?_, HB8.out⟩
            rw [ZV.out]; rfl
          · have hb6 : (c == 6) = false := by simp; omega
            have ZV := Lib.hid (show Z = -1 by rw [HZ3.out]; rw [if_neg (by omega), if_neg (by omega), if_neg (by omega)])
            have I1 := Lib.hid (fun (V : World) => (by have := l01In_any c 8 (n - 9) V; rw [inR_false hI] at this; exact this : Calls Tryz.prog 31 #[.int .i64 c, .int .i64 8, .int .i64 (n - 9)] V fun e w' => e = .returned (.bool false) ∧ V = w'))
            clear hI hc6
            clear hn hr hc ht1 ht2
            go_wp2_with fail
            refine (I1.out _).mono ?_
            rintro e w5 ⟨rfl, rfl⟩
            go_wp2_with fail
            go_ret
            refine ⟨?_, HB8.out⟩
            rw [ZV.out]; rfl
      · have hb6 : (r == 6) = false := by simp; omega
        by_cases hc6 : c = 6
        · subst hc6
          by_cases hI : 8 ≤ r ∧ r ≤ n - 9
          · have ZV := Lib.hid (show Z = 1 - r % 2 by rw [HZ3.out]; rw [if_neg (by omega), if_pos ⟨rfl, hI.1, hI.2⟩, ht1])
            have I1 := Lib.hid (fun (V : World) => (by have := l01In_any r 8 (n - 9) V; rw [inR_true hI.1 hI.2] at this; exact this : Calls Tryz.prog 31 #[.int .i64 r, .int .i64 8, .int .i64 (n - 9)] V fun e w' => e = .returned (.bool true) ∧ V = w'))
            clear hI hr6
            clear hn hr hc ht1 ht2
            go_wp2_with fail
            refine (I1.out _).mono ?_
            rintro e w5 ⟨rfl, rfl⟩
            go_wp2_with fail
            go_ret
            refine ⟨?_, HB8.out⟩
            rw [ZV.out]; rfl
          · by_cases h8 : r = n - 8
            · have hb8 : (r == n - 8) = true := by simp; omega
              have ZV := Lib.hid (show Z = -1 by rw [HZ3.out]; rw [if_neg (by omega), if_neg (by omega), if_neg (by omega)])
              have I1 := Lib.hid (fun (V : World) => (by have := l01In_any r 8 (n - 9) V; rw [inR_false hI] at this; exact this : Calls Tryz.prog 31 #[.int .i64 r, .int .i64 8, .int .i64 (n - 9)] V fun e w' => e = .returned (.bool false) ∧ V = w'))
              clear hI hr6 h8
              clear hn hr hc ht1 ht2
              go_wp2_with fail
              refine (I1.out _).mono ?_
              rintro e w5 ⟨rfl, rfl⟩
              go_wp2_with fail
              go_ret
              refine ⟨?_, HB8.out⟩
              rw [ZV.out]; rfl
            · have hb8 : (r == n - 8) = false := by simp; omega
              have ZV := Lib.hid (show Z = -1 by rw [HZ3.out]; rw [if_neg (by omega), if_neg (by omega), if_neg (by omega)])
              have I1 := Lib.hid (fun (V : World) => (by have := l01In_any r 8 (n - 9) V; rw [inR_false hI] at this; exact this : Calls Tryz.prog 31 #[.int .i64 r, .int .i64 8, .int .i64 (n - 9)] V fun e w' => e = .returned (.bool false) ∧ V = w'))
              clear hI hr6 h8
              clear hn hr hc ht1 ht2
              go_wp2_with fail
              refine (I1.out _).mono ?_
              rintro e w5 ⟨rfl, rfl⟩
              go_wp2_with fail
              go_ret
              refine ⟨?_, HB8.out⟩
              rw [ZV.out]; rfl
        · have hb7 : (c == 6) = false := by simp; omega
          by_cases h8 : r = n - 8
          · have hb8 : (r == n - 8) = true := by simp; omega
            by_cases h9 : c = 8
            · have hb9 : (c == 8) = true := by simp; omega
              have ZV := Lib.hid (show Z = 1 by rw [HZ3.out]; rw [if_neg (by omega), if_neg (by omega), if_pos ⟨h8, h9⟩])
              clear hr6 hc6 h8 h9
              clear hn hr hc ht1 ht2
              go_wp2_with fail
              go_ret
              refine ⟨?_, HB8.out⟩
              rw [ZV.out]; rfl
            · have hb9 : (c == 8) = false := by simp; omega
              have ZV := Lib.hid (show Z = -1 by rw [HZ3.out]; rw [if_neg (by omega), if_neg (by omega), if_neg (by omega)])
              clear hr6 hc6 h8 h9
              clear hn hr hc ht1 ht2
              go_wp2_with fail
              go_ret
              refine ⟨?_, HB8.out⟩
              rw [ZV.out]; rfl
          · have hb8 : (r == n - 8) = false := by simp; omega
            have ZV := Lib.hid (show Z = -1 by rw [HZ3.out]; rw [if_neg (by omega), if_neg (by omega), if_neg (by omega)])
            clear hr6 hc6 h8
            clear hn hr hc ht1 ht2
            go_wp2_with fail
            go_ret
            refine ⟨?_, HB8.out⟩
            rw [ZV.out]; rfl
end Go.Proofs.YtdcmebegnekkcaaGreat
/-
  The grid of fixed cells and the count of data cells, in the reference.
-/
namespace Go.Proofs.YtdcmebegnekkcaaGreat
open Go.RowKit
set_option linter.unusedVariables false

abbrev GrT : TypeId := 142
/-- The cells of the grid with fixed cells, as far as k. -/
def gridL (n : Nat) (k : Nat) : List Int := (List.range k).map fun i => fixZ (n : Int) ((i / n : Nat) : Int) ((i % n : Nat) : Int)
theorem gridL_len (n k : Nat) : (gridL n k).length = k := by simp [gridL]
theorem gridL_step {n r c : Nat} (hc : c < n) : gridL n (r * n + c) ++ [fixZ (n : Int) (r : Int) (c : Int)] = gridL n (r * n + (c + 1)) := by
  have h1 : (r * n + c) / n = r := by rw [Nat.add_comm, Nat.add_mul_div_right _ _ (by omega), Nat.div_eq_of_lt hc]; omega
  have h2 : (r * n + c) % n = c := by rw [Nat.add_comm, Nat.add_mul_mod_self_right, Nat.mod_eq_of_lt hc]
  show _ = (List.range (r * n + c + 1)).map _
  rw [List.range_succ, List.map_append]
  simp only [List.map_cons, List.map_nil, h1, h2]
  rfl
set_option maxHeartbeats 4000000 in
theorem l14Grid_any {n : Nat} (h1 : 17 ≤ n) (h2 : n ≤ 41) (w : World) :
    Calls Tryz.prog 87 #[.int .i64 (n : Int)] w fun e w' => Below w.heap.size w w' ∧ ∃ v, OwnL w' w.heap.size v (gridL n (n * n)) ∧ e = .returned (.agg #[.int .i64 (n : Int), .int .i64 (n : Int), v]) := by
  have HN := Lib.hid (And.intro h1 h2)
  have hn41 : (n : Int) ≤ 41 := by omega
  have HRES := Lib.hid (show Tryz.f87.results = #[.cell 2 GrT] by kernel_rfl)
  clear h1 h2
  go_enter Tryz.func87, Tryz.ntmps87
  go_wp2_with fail
  have T0 := Lib.hid ((Tf.mkd w #[.int .i64 0, .int .i64 0, .slice none 0 0] GrT).below (Below.alloc (Below.refl (w.heap.size + 1) _) (by simp) (.cells #[] 2)) (by omega))
  have O0 := Lib.hid (OwnL.empty (w.alloc (.cells #[.int .i64 0, .int .i64 0, .slice none 0 0] GrT)) (w.heap.size + 1) (by simp) (w.heap.size + 1) (by simp))
  have B0 := Lib.hid (((Below.refl w.heap.size w).alloc (Nat.le_refl _) (.cells #[.int .i64 0, .int .i64 0, .slice none 0 0] GrT)).alloc (by simp) (.cells #[] 2))
  have HL := Lib.hid (gridL_len n)
  go_loopw [3, 4] (fun v t wr => ∃ r : Nat, r ≤ n ∧ t = .int .i64 (r : Int) ∧ Hid (OwnL wr (w.heap.size + 1) v (gridL n (r * n))) ∧ Hid (Tf wr w.heap.size 3 GrT fun i => (#[.int .i64 0, .int .i64 0, .slice none 0 0] : Array Value)[i]!) ∧ Hid (Below w.heap.size w wr)) (fun _ t _ => n - (intOf t).toNat)
  case atStart => exact ⟨0, by omega, rfl, by rw [Nat.zero_mul]; exact O0, T0, B0⟩
  case round =>
    obtain ⟨r, hr, rfl, HO, HT, HB⟩ := hrel
    by_cases hlt : r < n
    · have hlt2 : (r : Int) < (n : Int) := by omega
      go_wp2_with fail
      go_loopw [3, 5] (fun v t ws => ∃ c : Nat, c ≤ n ∧ t = .int .i64 (c : Int) ∧ Hid (OwnL ws (w.heap.size + 1) v (gridL n (r * n + c))) ∧ Hid (Tf ws w.heap.size 3 GrT fun i => (#[.int .i64 0, .int .i64 0, .slice none 0 0] : Array Value)[i]!) ∧ Hid (Below w.heap.size w ws)) (fun _ t _ => n - (intOf t).toNat)
      case atStart => exact ⟨0, by omega, rfl, HO, HT, HB⟩
      case round =>
        obtain ⟨c, hc, rfl, HO2, HT2, HB2⟩ := hrel
        by_cases hlc : c < n
        · have hlc2 : (c : Int) < (n : Int) := by omega
          have hll : (gridL n (r * n + c)).length ≤ 16777216 := by
            rw [HL.out]
            have := Nat.mul_le_mul (show r ≤ 41 by have := HN.out; omega) (show n ≤ 41 by exact HN.out.2)
            have := HN.out
            omega
          have HF := Lib.hid (l14Fixed_any (n := (n : Int)) (r := (r : Int)) (c := (c : Int)) (by have := HN.out; omega) (by omega) (by omega))
          generalize hx : fixZ (n : Int) (r : Int) (c : Int) = x at HF
          have HX := Lib.hid hx
          clear hx
          go_wp2_with fail
          refine (HF.out _).mono ?_
          rintro e w5 ⟨rfl, hb5⟩
          have HT5 := Lib.hid (HT2.out.below hb5 HT2.out.lt)
          have HB5 := Lib.hid (HB2.out.trans (hb5.mono HB2.out.size))
          have O5 := Lib.hid (HO2.out.below hb5)
          clear hb5
          go_wp2_with (at_builtin; refine append_one rfl _ _ _ rfl Tryz.underlying25 x O5.out rfl _ rfl rfl hll ?_; intro v' w7 hown7 hb7)
          have H7 := Lib.hid (And.intro hown7 hb7)
          go_roundw
          case rel => exact ⟨c + 1, by omega, by go_num, Lib.hid (by rw [← gridL_step (by omega), HX.out]; exact H7.out.1), Lib.hid (HT5.out.below H7.out.2 (by omega)), Lib.hid (HB5.out.trans (H7.out.2.mono (by omega)))⟩
          case measure => simp [intOf]; omega
        · obtain rfl : c = n := by omega
          go_wp2_with fail
          go_roundw
          case rel => exact ⟨r + 1, by omega, by go_num, by rw [Nat.add_mul, Nat.one_mul]; exact HO2, HT2, HB2⟩
          case measure => simp [intOf]; omega
    · obtain rfl : r = n := by omega
      have HOO := HO.out
      obtain ⟨av, cap, rfl, -, -, -⟩ := HOO.cap
      have HO3 := Lib.hid HOO
      clear HOO HO
      generalize (gridL r (r * r)).length = L at *
      have c0 : wr.cell? ⟨w.heap.size, 0, none⟩ = some (.int .i64 0) := HT.out.cell (i := 0) (by omega)
      have c1 : wr.cell? ⟨w.heap.size, 1, none⟩ = some (.int .i64 0) := HT.out.cell (i := 1) (by omega)
      have c2 : wr.cell? ⟨w.heap.size, 2, none⟩ = some (.slice none 0 0) := HT.out.cell (i := 2) (by omega)
      have f0 := HT.out.fz 0
      have f1 := HT.out.fz 1
      have f2 := HT.out.fz 2
      have TS := Lib.hid (tf_obj (((HT.out.set 0 (.int .i64 (r : Int))).set 1 (.int .i64 (r : Int))).set 2 (.slice av L cap)) [.int .i64 (r : Int), .int .i64 (r : Int), .slice av L cap] rfl (fun i hi => by
        rcases (show i = 0 ∨ i = 1 ∨ i = 2 by omega) with rfl | rfl | rfl <;> rfl))
      have hne : ∀ k, (Value.slice av L cap).ownBlock = some k → k ≠ w.heap.size := fun k hk => by have := (HO3.out.2.lt k hk).1; omega
      have OS := Lib.hid ((((HO3.out.other (j := 0) (x := .int .i64 (r : Int)) hne).other (j := 1) (x := .int .i64 (r : Int)) hne).other (j := 2) (x := .slice av L cap) hne).lower (show w.heap.size ≤ w.heap.size + 1 by omega))
      have BS := Lib.hid (((HB.out.setCell (p := ⟨w.heap.size, 0, none⟩) (Nat.le_refl _) (.int .i64 (r : Int))).setCell (p := ⟨w.heap.size, 1, none⟩) (Nat.le_refl _) (.int .i64 (r : Int))).setCell (p := ⟨w.heap.size, 2, none⟩) (Nat.le_refl _) (.slice av L cap))
      clear hne
      go_wp2_with fail
      exact ret_cell1 HRES.out Tryz.underlying142 rfl (by kernel_rfl) rfl rfl TS.out ⟨BS.out, _, OS.out, rfl⟩
/-- How many of the first k numbers are negative. -/
def negN (L : List Int) (k : Nat) : Nat := (L.take k).countP fun x => decide (x < 0)
theorem negN_step (L : List Int) {k : Nat} (hk : k < L.length) : negN L (k + 1) = negN L k + (if gi L k < 0 then 1 else 0) := by
  unfold negN
  have e : gi L k = L[k] := by unfold gi; rw [List.getD_eq_getElem?_getD, List.getElem?_eq_getElem hk]; rfl
  rw [List.take_add_one, List.getElem?_eq_getElem hk, List.countP_append, e]
  simp [List.countP_cons]
theorem negN_le (L : List Int) (k : Nat) : negN L k ≤ L.length := Nat.le_trans List.countP_le_length (by simp; omega)
/-- The number of data cells, as the reference counts them. -/
def cntS (n : Nat) : Int := -30 + (negN (gridL n (n * n)) (n * n) : Int)
set_option maxHeartbeats 4000000 in
theorem l14Count_any {n : Nat} (h1 : 17 ≤ n) (h2 : n ≤ 41) (w : World) :
    Calls Tryz.prog 83 #[.int .i64 (n : Int)] w fun e w' => Below w.heap.size w w' ∧ e = .returned (.int .i64 (cntS n)) := by
  have HC := Lib.hid (l14Grid_any h1 h2)
  have hm : n * n ≤ 1681 := Nat.mul_le_mul h2 h2
  have hp : 0 < n * n := Nat.mul_pos (by omega) (by omega)
  have HE := Lib.hid (show cntS n = -30 + (negN (gridL n (n * n)) (n * n) : Int) from rfl)
  have hl := gridL_len n (n * n)
  generalize gridL n (n * n) = zs at *
  generalize n * n = m at *
  generalize cntS n = C at *
  clear h1 h2
  go_enter Tryz.func83, Tryz.ntmps83
  go_wp2_with fail
  refine (HC.out _).mono ?_
  rintro e w1 ⟨hb1, v, hO, rfl⟩
  obtain ⟨g, cap, cur, rfl, hg1, hg2, hg3, hg4, hO2⟩ := hO.form (by omega)
  rw [hl] at hO2 ⊢
  have HO := Lib.hid hO2
  have T1 := Lib.hid (Tf.mkd w1 #[.int .i64 (n : Int), .int .i64 (n : Int), .slice (some ⟨g, 0, none⟩) m cap] GrT)
  have B1 := Lib.hid (hb1.alloc hb1.size (.cells #[.int .i64 (n : Int), .int .i64 (n : Int), .slice (some ⟨g, 0, none⟩) m cap] GrT))
  have HG := Lib.hid (And.intro hg2 hl)
  clear hb1 hO hO2 hg1 hg2 hg3 hg4 hl
  go_wp2_with fail
  have HOW := Lib.hid (HO.out.below (Below.alloc (Below.refl w1.heap.size w1) (Nat.le_refl _) (.cells #[.int .i64 (n : Int), .int .i64 (n : Int), .slice (some ⟨g, 0, none⟩) m cap] GrT)))
  have k2 := T1.out.cell (i := 2) (by simp)
  have k2' : (w1.alloc (.cells #[.int .i64 (n : Int), .int .i64 (n : Int), .slice (some ⟨g, 0, none⟩) m cap] GrT)).cell? ⟨w1.heap.size, 2, none⟩ = some (.slice (some ⟨g, 0, none⟩) m cap) := k2
  have K2 := Lib.hid k2'
  clear k2 k2'
  generalize hW : w1.alloc (.cells #[.int .i64 (n : Int), .int .i64 (n : Int), .slice (some ⟨g, 0, none⟩) m cap] GrT) = W at *
  have hW2 := Lib.hid hW
  clear hW T1
  go_loopw [4, 5] (fun o t wr => ∃ i : Nat, i ≤ m ∧ t = .int .i64 (i : Int) ∧ o = .int .i64 (-30 + (negN zs i : Int)) ∧ wr = W) (fun _ t _ => m - (intOf t).toNat)
  case atStart => exact ⟨0, by omega, rfl, rfl, rfl⟩
  case round =>
    obtain ⟨i, hi, rfl, rfl, rfl⟩ := hrel
    by_cases hlt : i < m
    · have c2 := K2.out
      have hl2 : (i : Int) < (m : Int) := by omega
      have hc := (HOW.out.place hlt).1
      have hs := negN_step zs (show i < zs.length by have := HG.out.2; omega)
      have hle := negN_le zs i
      have hle2 : negN zs i ≤ 1681 := by have := HG.out.2; omega
      have hs2 : ((negN zs (i + 1) : Nat) : Int) = (negN zs i : Int) + (if gi zs i < 0 then 1 else 0) := by rw [hs]; split <;> simp
      have HS := Lib.hid hs2
      clear hs hs2 hle
      have hw := (wrp (x := -30 + (negN zs i : Int) + 1) (by omega))
      generalize gi zs i = x at *
      have hw1 := hw.1
      have hw2 := hw.2
      clear hw
      by_cases hx : x < 0
      · have hs3 := HS.out
        rw [if_pos hx] at hs3
        have HS3 := Lib.hid hs3
        clear hs3
        go_wp2_with fail
        go_roundw
        case rel => exact ⟨i + 1, by omega, by go_num, by rw [HS3.out, Int.add_assoc], trivial⟩
        case measure => simp [intOf]; omega
      · have hs3 := HS.out
        rw [if_neg hx] at hs3
        have HS3 := Lib.hid hs3
        clear hs3
        go_wp2_with fail
        go_roundw
        case rel => exact ⟨i + 1, by omega, by go_num, by rw [HS3.out, Int.add_zero], trivial⟩
        case measure => simp [intOf]; omega
    · obtain rfl : i = m := by omega
      have c2 := K2.out
      go_wp2_with fail
      go_ret
      exact ⟨B1.out, by rw [HE.out]; rfl⟩
end Go.Proofs.YtdcmebegnekkcaaGreat
