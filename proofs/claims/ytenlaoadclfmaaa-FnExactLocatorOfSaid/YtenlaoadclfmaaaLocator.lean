/-
  The walks of locators, of lists of indices, and of the two LocatorOf.
-/
import Derived.Test.YtenlaoadclfmaaaGenOf
namespace Go.Proofs.Ytenlaoadclfmaaa
open Go.RowKit
set_option linter.unusedVariables false

/-- The first m numbers rise, within bounds. -/
def RisTo (lo hi : Int) (zs : List Int) (m : Nat) : Prop := ∀ k, k < m → lo ≤ gi zs k ∧ gi zs k ≤ hi ∧ (0 < k → gi zs (k - 1) < gi zs k)
open Classical in
noncomputable def risB (lo hi : Int) (zs : List Int) : Bool := decide (RisTo lo hi zs zs.length)
theorem RisTo.next {lo hi : Int} {zs : List Int} {k : Nat} (h : RisTo lo hi zs k) (h1 : lo ≤ gi zs k) (h2 : gi zs k ≤ hi) (h3 : 0 < k → gi zs (k - 1) < gi zs k) : RisTo lo hi zs (k + 1) := fun j hj => by
  by_cases e : j = k
  · subst e; exact ⟨h1, h2, h3⟩
  · exact h j (by omega)
theorem risB_no {lo hi : Int} {zs : List Int} {n k : Nat} (hl : zs.length = n) (hk : k < n) (h : ¬ (lo ≤ gi zs k ∧ gi zs k ≤ hi ∧ (0 < k → gi zs (k - 1) < gi zs k))) : risB lo hi zs = false := by
  unfold risB; simp only [decide_eq_false_iff_not]; exact fun hr => h (hr k (by omega))
theorem risB_yes {lo hi : Int} {zs : List Int} {n : Nat} (hl : zs.length = n) (h : RisTo lo hi zs n) : risB lo hi zs = true := by
  unfold risB; simp only [decide_eq_true_eq]; rw [hl]; exact h
theorem risB_iff {lo hi : Int} {zs : List Int} (h : risB lo hi zs = true) : RisTo lo hi zs zs.length := by unfold risB at h; simpa using h
theorem ris_ge {lo hi : Int} {zs : List Int} {m : Nat} (h : RisTo lo hi zs m) : ∀ k, k < m → lo + k ≤ gi zs k := by
  intro k
  induction k with
  | zero => intro hk; have := (h 0 hk).1; omega
  | succ k ih => intro hk; have h1 := ih (by omega); have h2 := (h (k + 1) hk).2.2 (by omega); simp only [Nat.add_sub_cancel] at h2; omega
theorem ris_len {lo hi : Int} {zs : List Int} (h : RisTo lo hi zs zs.length) (h0 : lo ≤ hi + 1) : (zs.length : Int) ≤ hi - lo + 1 := by
  by_cases hn : zs.length = 0
  · omega
  · have h1 := ris_ge h (zs.length - 1) (by omega)
    have h2 := (h (zs.length - 1) (by omega)).2.1
    omega
set_option maxHeartbeats 1000000 in
theorem rises_any (lo hi : Int) {w : World} {a : Option Addr} {n cap : Nat} {zs : List Int} (hr : RowAt w a n zs) :
    Calls Try.prog 125 #[.slice a n cap, .int .i64 lo, .int .i64 hi] w fun e w' => e = .returned (.bool (risB lo hi zs)) ∧ w = w' := by
  have HR := Lib.hid hr
  have hl := Lib.hid hr.len
  have hsm := hr.small
  clear hr
  go_enter Try.func125, Try.ntmps125
  go_wp2_with fail
  go_loop [11] (fun t => ∃ k : Nat, k ≤ n ∧ t = .int .i64 k ∧ Hid (RisTo lo hi zs k)) (fun t => (n - intOf t).toNat)
  case atStart => exact ⟨0, by omega, rfl, fun j hj => by omega⟩
  case round =>
    obtain ⟨k, hk, rfl, hris⟩ := hrel
    by_cases hlt : k < n
    · obtain ⟨b1, o1, rfl, hb1, hcs⟩ := HR.out.at' (by omega)
      have hcell := hcs k hlt
      have HNO := Lib.hid (risB_no (lo := lo) (hi := hi) hl.out hlt)
      have HNX := Lib.hid hris.out.next
      cases hin : inR (gi zs k) lo hi
      · have hf := Lib.hid (HNO.out (fun h => by rw [inR_true h.1 h.2.1] at hin; cases hin))
        clear hcs
        go_wp2_with fail
        refine (inRange_any _ _ _ _).mono ?_
        rintro e w2 ⟨rfl, rfl⟩
        rw [hin]
        go_wp2_with fail
        go_ret
        exact ⟨ret_bool hf.out.symm, rfl⟩
      · obtain ⟨h1, h2⟩ := inR_iff.1 hin
        by_cases h0 : 0 < k
        · obtain ⟨j, rfl⟩ : ∃ j, k = j + 1 := ⟨k - 1, by omega⟩
          have hcell2 := hcs j (by omega)
          simp only [Nat.add_sub_cancel] at HNO HNX
          have et : ((j + 1 : Nat) : Int) - 1 = (j : Int) := by omega
          have et2 : (0 : Int) < ((j + 1 : Nat) : Int) := by omega
          have hjn : j < n := by omega
          clear hcs
          generalize hx : gi zs (j + 1) = x at *
          generalize hy : gi zs j = y at *
          clear hx hy
          by_cases hge : x ≤ y
          · have hf := Lib.hid (HNO.out (fun h => by have := h.2.2 (by omega); omega))
            go_wp2_with fail
            refine (inRange_any _ _ _ _).mono ?_
            rintro e w2 ⟨rfl, rfl⟩
            rw [hin]
            go_wp2_with fail
            go_ret
            exact ⟨ret_bool hf.out.symm, rfl⟩
          · have hs := Lib.hid (HNX.out h1 h2 (fun _ => by omega))
            have hlt3 : y < x := by omega
            go_wp2_with fail
            refine (inRange_any _ _ _ _).mono ?_
            rintro e w2 ⟨rfl, rfl⟩
            rw [hin]
            go_wp2_with fail
            go_round
            case rel => exact ⟨j + 1 + 1, by omega, by go_num, hs⟩
            case measure => simp [intOf]; omega
        · have hs := Lib.hid (HNX.out h1 h2 (fun h => absurd h h0))
          clear hcs
          go_wp2_with fail
          refine (inRange_any _ _ _ _).mono ?_
          rintro e w2 ⟨rfl, rfl⟩
          rw [hin]
          go_wp2_with fail
          go_round
          case rel => exact ⟨k + 1, by omega, by go_num, hs⟩
          case measure => simp [intOf]; omega
    · obtain rfl : k = n := by omega
      have hf := Lib.hid (risB_yes hl.out hris.out)
      go_wp2_with fail
      go_ret
      exact ⟨ret_bool hf.out.symm, rfl⟩
theorem isIndices_any {p pw g l c : Int} {w : World} {b : Nat} (hcod : Cod w b p pw g l c) (hl0 : 0 ≤ l) (hl1 : l ≤ 255) {a : Option Addr} {n cap : Nat} {zs : List Int} (hr : RowAt w a n zs) :
    Calls Try.prog 92 #[.pointer (some ⟨b, 0, none⟩), .slice a n cap] w fun e w' => e = .returned (.bool (risB 0 (l - 1) zs)) ∧ w = w' := by
  have HR := Lib.hid (rises_any 0 (l - 1) (cap := cap) hr)
  have hc := hcod.len
  clear hr hcod
  go_enter Try.func92, Try.ntmps92
  go_wp2_with fail
  refine HR.out.mono ?_
  rintro e w2 ⟨rfl, rfl⟩
  go_wp2_with fail
  go_ret
  exact ⟨rfl, rfl⟩
set_option maxHeartbeats 2000000 in
theorem l05Indices_any (p pw g l c : Int) (hl0 : 0 ≤ l) (hl1 : l ≤ 255) {w : World} {a : Option Addr} {n cap : Nat} {zs : List Int} (hr : RowAt w a n zs) :
    Calls Try.prog 90 #[cV p pw g l c, .slice a n cap] w fun e w' => e = .returned (.bool (risB 0 (l - 1) zs)) ∧ Below w.heap.size w w' := by
  have HR := Lib.hid hr
  have hl := Lib.hid hr.len
  have hsm := hr.small
  clear hr
  have wl : IntKind.i64.wrap (l - 1) = l - 1 := IntWalk.i64_in _ (by omega)
  go_enter Try.func90, Try.ntmps90
  go_wp2_with fail
  go_loopw [5] (fun t wr => ∃ k : Nat, k ≤ n ∧ t = .int .i64 k ∧ Hid (RisTo 0 (l - 1) zs k) ∧ Hid (Below w.heap.size w wr) ∧ Hid (BoxC wr w.heap.size p pw g l c)) (fun t _ => (n - intOf t).toNat)
  case atStart => exact ⟨0, by omega, rfl, fun j hj => by omega, Lib.hid (below1 _ _), Lib.hid (boxC_new _ _ _ _ _ _ _)⟩
  case round =>
    obtain ⟨k, hk, rfl, hris, hbel, hbox⟩ := hrel
    obtain ⟨hlx, c0, c1, c2, c3, c4⟩ := hbox.out
    clear c0 c1 c2 c4
    by_cases hlt : k < n
    · obtain ⟨b1, o1, rfl, hb1, hcs⟩ := (HR.out.below' hbel.out).at' (by omega)
      have hcell := hcs k hlt
      have HNO := Lib.hid (risB_no (lo := 0) (hi := l - 1) hl.out hlt)
      have HNX := Lib.hid hris.out.next
      have HIN := Lib.hid (fun W => (l01In_any (gi zs k) 0 (l - 1) W).mono fun e w' h => (⟨h.1, h.2.symm⟩ : _ ∧ w' = W))
      cases hin : inR (gi zs k) 0 (l - 1)
      · have hf := Lib.hid (HNO.out (fun h => by rw [inR_true h.1 h.2.1] at hin; cases hin))
        rw [hin] at HIN
        clear hcs hin
        go_wp2_with fail
        go_quiet ((go_at_call 84; exact Calls.quiet_of_same (HIN.out _)))
        go_wp2_with fail
        go_ret
        exact ⟨ret_bool hf.out.symm, Below.trans hbel.out (Drew.below (drew4 wr _) _)⟩
      · obtain ⟨h1, h2⟩ := inR_iff.1 hin
        rw [hin] at HIN
        by_cases h0 : 0 < k
        · obtain ⟨j, rfl⟩ : ∃ j, k = j + 1 := ⟨k - 1, by omega⟩
          have hcell2 := hcs j (by omega)
          simp only [Nat.add_sub_cancel] at HNO HNX
          have et2 : (0 : Int) < ((j + 1 : Nat) : Int) := by omega
          have wj : IntKind.i64.wrap (j : Int) = (j : Int) := IntWalk.i64_in _ (by omega)
          have hjn : j < n := by omega
          clear hcs hin
          generalize hx : gi zs (j + 1) = x at *
          generalize hy : gi zs j = y at *
          clear hx hy
          by_cases hge : x ≤ y
          · have hf := Lib.hid (HNO.out (fun h => by have := h.2.2 (by omega); omega))
            go_wp2_with fail
            go_quiet ((go_at_call 84; exact Calls.quiet_of_same (HIN.out _)))
            go_wp2_with fail
            go_ret
            exact ⟨ret_bool hf.out.symm, Below.trans hbel.out (Drew.below (drew4 wr _) _)⟩
          · have hs := Lib.hid (HNX.out h1 h2 (fun _ => by omega))
            have hlt3 : y < x := by omega
            go_wp2_with fail
            go_quiet ((go_at_call 84; exact Calls.quiet_of_same (HIN.out _)))
            go_wp2_with fail
            go_roundw
            case rel => exact ⟨j + 1 + 1, by omega, by go_num, hs, Lib.hid (Below.trans hbel.out (Drew.below (drew4 wr _) _)), Lib.hid (hbox.out.below (Drew.below (drew4 wr _) wr.heap.size) hlx)⟩
            case measure => simp [intOf]; omega
        · have hs := Lib.hid (HNX.out h1 h2 (fun h => absurd h h0))
          have hd0 : decide ((0 : Int) < (k : Int)) = false := by simp; omega
          have hd1 : decide (0 < k) = false := by simp; omega
          clear hcs hin h0
          go_wp2_with fail
          go_quiet ((go_at_call 84; exact Calls.quiet_of_same (HIN.out _)))
          go_wp2_with fail
          go_roundw
          case rel => exact ⟨k + 1, by omega, by go_num, hs, Lib.hid (Below.trans hbel.out (Drew.below (drew4 wr _) _)), Lib.hid (hbox.out.below (Drew.below (drew4 wr _) wr.heap.size) hlx)⟩
          case measure => simp [intOf]; omega
    · obtain rfl : k = n := by omega
      have hf := Lib.hid (risB_yes hl.out hris.out)
      go_wp2_with fail
      go_ret
      exact ⟨ret_bool hf.out.symm, hbel.out⟩
/-- The locator of an index. -/
def locI (F : FF) (l i : Int) : Int := F.exp (l - 1 - i).toNat
theorem locator_any {V : VF} {p pw g l c : Int} (hs : SF V p pw g) {w : World} {b : Nat} (hcod : Cod w b p pw g l c) (hl1 : l ≤ 255) (i : Int) (hi0 : 0 ≤ i) (hi1 : i ≤ l - 1) :
    Calls Try.prog 126 #[.pointer (some ⟨b, 0, none⟩), .int .i64 i] w fun e w' => e = .returned (.int .i64 (locI V.F l i)) ∧ ∃ q, w' = w.drewN q := by
  obtain ⟨bc, hc0, hcal⟩ := hcod.calV hs
  have hc1 := hcod.len
  have HP := Lib.hid (fun m => power_any (hcal.drewN m) (l - 1 - i) (by omega))
  have w1 : IntKind.i64.wrap (l - 1) = l - 1 := IntWalk.i64_in _ (by omega)
  have w2 : IntKind.i64.wrap (l - 1 - i) = l - 1 - i := IntWalk.i64_in _ (by omega)
  clear hcal hcod
  go_enter Try.func126, Try.ntmps126
  go_wp2_with fail
  go_quiet ((go_at_call 115; exact Calls.quiet_of (HP.out _)))
  go_wp2_with fail
  go_ret
  exact ⟨rfl, _, rfl⟩
set_option maxHeartbeats 1000000 in
theorem l05Locator_any {V : VF} {p pw g l c : Int} (hs : SF V p pw g) (hl1 : l ≤ 255) (i : Int) (hi0 : 0 ≤ i) (hi1 : i ≤ l - 1) (w : World) :
    Calls Try.prog 124 #[cV p pw g l c, .int .i64 i] w fun e w' => e = .returned (.int .i64 (locI V.F l i)) ∧ Below w.heap.size w w' := by
  have hx := boxC_new w p pw g l c CT
  obtain ⟨hlx, c0, c1, c2, c3, c4⟩ := hx
  have HG := Lib.hid (fun W => hs.gen W)
  have HP := Lib.hid (fun W => hs.pow (V.F.exp 1) (l - 1 - i).toNat (FF.exp_el V.ok 1) (by omega) W)
  rw [FF.pow_exp V.ok, Nat.one_mul] at HP
  rw [show (((l - 1 - i).toNat : Nat) : Int) = l - 1 - i by omega] at HP
  have w1 : IntKind.i64.wrap (l - 1) = l - 1 := IntWalk.i64_in _ (by omega)
  have w2 : IntKind.i64.wrap (l - 1 - i) = l - 1 - i := IntWalk.i64_in _ (by omega)
  go_enter Try.func124, Try.ntmps124
  go_wp2_with fail
  go_region_held3 (fun w' => w'.cell? ⟨w.heap.size, 0, none⟩ = some (.int .i64 p) ∧ w'.cell? ⟨w.heap.size, 1, none⟩ = some (.int .i64 pw) ∧ w'.cell? ⟨w.heap.size, 2, none⟩ = some (.int .i64 g) ∧ w'.cell? ⟨w.heap.size, 3, none⟩ = some (.int .i64 l))
    (first | go_keep | ((try (dsimp only)); go_split_ands; (repeat' apply And.intro); all_goals (first | go_keep | exact keep_cell hbP (by assumption) | exact keep_cell hbG (by assumption))))
    (first | (go_at_call 111; refine (HG.out _).mono ?_; rintro e w5 ⟨rfl, hbG⟩) | (go_at_call 118; refine (HP.out _).mono ?_; rintro e w6 ⟨rfl, hbP⟩))
  have HB := Lib.hid (Below.more (Below.more (Below.trans (below1 w _) (Drew.below (drew1 _) _)) (Nat.le_refl _) hbG) (Nat.le_refl _) hbP)
  go_wp2_with fail
  go_ret
  exact ⟨rfl, HB.out⟩
end Go.Proofs.Ytenlaoadclfmaaa
