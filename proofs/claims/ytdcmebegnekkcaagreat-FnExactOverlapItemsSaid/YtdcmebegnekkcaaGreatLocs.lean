/-
  The parts Locator, LocPoly.
-/
import Derived.Test.YtdcmebegnekkcaaGreatGens
/-
  The walks of locators, of lists of indices, and of the two LocatorOf.
-/
namespace Go.Proofs.YtdcmebegnekkcaaGreat
open Go.RowKit
set_option linter.unusedVariables false

/-- The first m numbers rise, within bounds. -/
def RisTo (lo hi : Int) (zs : List Int) (m : Nat) : Prop := ∀ k, k < m → lo ≤ gi zs k ∧ gi zs k ≤ hi ∧ (0 < k → gi zs (k - 1) < gi zs k)
open Classical in
noncomputable def risB (lo hi : Int) (zs : List Int) : Bool := decide (RisTo lo hi zs zs.length)
theorem RisTo.next {lo hi : Int} {zs : List Int} {k : Nat} (h : RisTo lo hi zs k) (h1 : lo ≤ gi zs k) (h2 : gi zs k ≤ hi) (h3 : 0 < k → gi zs (k - 1) < gi zs k) : RisTo lo hi zs (k + 1) := fun j hj => by
  by_cases e : j = k
  · subst e; exact ⟨h1, h2, h3⟩
  · exact h j (by omega)
theorem risB_no {lo hi : Int} {zs : List Int} {n k : Nat} (hl : zs.length = n) (hk : k < n) (h : ¬ (lo ≤ gi zs k ∧ gi zs k ≤ hi ∧ (0 < k → gi zs (k - 1) < gi zs k))) : risB lo hi zs = false := by
  unfold risB; simp only [decide_eq_false_iff_not]; exact fun hr => h (hr k (by omega))
theorem risB_yes {lo hi : Int} {zs : List Int} {n : Nat} (hl : zs.length = n) (h : RisTo lo hi zs n) : risB lo hi zs = true := by
  unfold risB; simp only [decide_eq_true_eq]; rw [hl]; exact h
set_option maxHeartbeats 1000000 in
theorem rises_any (lo hi : Int) {w : World} {a : Option Addr} {n cap : Nat} {zs : List Int} (hr : RowAt w a n zs) :
    Calls Tryz.prog 134 #[.slice a n cap, .int .i64 lo, .int .i64 hi] w fun e w' => e = .returned (.bool (risB lo hi zs)) ∧ w = w' := by
  have HR := Lib.hid hr
  have hl := Lib.hid hr.len
  have hsm := hr.small
  clear hr
  go_enter Tryz.func134, Tryz.ntmps134
  go_wp2_with fail
  go_loop [11] (fun t => ∃ k : Nat, k ≤ n ∧ t = .int .i64 k ∧ Hid (RisTo lo hi zs k)) (fun t => (n - intOf t).toNat)
  case atStart => exact ⟨0, by omega, rfl, fun j hj => by omega⟩
  case round =>
    obtain ⟨k, hk, rfl, hris⟩ := hrel
    by_cases hlt : k < n
    · obtain ⟨b1, o1, rfl, hb1, hcs⟩ := HR.out.at' (by omega)
      have hcell := hcs k hlt
      have HNO := Lib.hid (risB_no (lo := lo) (hi := hi) hl.out hlt)
      have HNX := Lib.hid hris.out.next
      cases hin : inR (gi zs k) lo hi
      · have hf := Lib.hid (HNO.out (fun h => by rw [inR_true h.1 h.2.1] at hin; cases hin))
        clear hcs
        go_wp2_with fail
        refine (inRange_any _ _ _ _).mono ?_
        rintro e w2 ⟨rfl, rfl⟩
        rw [hin]
        go_wp2_with fail
        go_ret
        exact ⟨ret_bool hf.out.symm, rfl⟩
      · obtain ⟨h1, h2⟩ := inR_iff.1 hin
        by_cases h0 : 0 < k
        · obtain ⟨j, rfl⟩ : ∃ j, k = j + 1 := ⟨k - 1, by omega⟩
          have hcell2 := hcs j (by omega)
          simp only [Nat.add_sub_cancel] at HNO HNX
          have et : ((j + 1 : Nat) : Int) - 1 = (j : Int) := by omega
          have et2 : (0 : Int) < ((j + 1 : Nat) : Int) := by omega
          have hjn : j < n := by omega
          clear hcs
          generalize hx : gi zs (j + 1) = x at *
          generalize hy : gi zs j = y at *
          clear hx hy
          by_cases hge : x ≤ y
          · have hf := Lib.hid (HNO.out (fun h => by have := h.2.2 (by omega); omega))
            go_wp2_with fail
            refine (inRange_any _ _ _ _).mono ?_
            rintro e w2 ⟨rfl, rfl⟩
            rw [hin]
            go_wp2_with fail
            go_ret
            exact ⟨ret_bool hf.out.symm, rfl⟩
          · have hs := Lib.hid (HNX.out h1 h2 (fun _ => by omega))
            have hlt3 : y < x := by omega
            go_wp2_with fail
            refine (inRange_any _ _ _ _).mono ?_
            rintro e w2 ⟨rfl, rfl⟩
            rw [hin]
            go_wp2_with fail
            go_round
            case rel => exact ⟨j + 1 + 1, by omega, by go_num, hs⟩
            case measure => simp [intOf]; omega
        · have hs := Lib.hid (HNX.out h1 h2 (fun h => absurd h h0))
          clear hcs
          go_wp2_with fail
          refine (inRange_any _ _ _ _).mono ?_
          rintro e w2 ⟨rfl, rfl⟩
          rw [hin]
          go_wp2_with fail
          go_round
          case rel => exact ⟨k + 1, by omega, by go_num, hs⟩
          case measure => simp [intOf]; omega
    · obtain rfl : k = n := by omega
      have hf := Lib.hid (risB_yes hl.out hris.out)
      go_wp2_with fail
      go_ret
      exact ⟨ret_bool hf.out.symm, rfl⟩
/-- The locator of an index. -/
def locI (F : FF) (l i : Int) : Int := F.exp (l - 1 - i).toNat
end Go.Proofs.YtdcmebegnekkcaaGreat
/-
  The walks of locator polynomials, and of the two LocatorOf.
-/
namespace Go.Proofs.YtdcmebegnekkcaaGreat
open Go.RowKit
set_option linter.unusedVariables false

/-- The locator polynomial of indices. -/
noncomputable def locP (V : VF) (l : Int) (zs : List Int) : PS (El V) := PS.lam (zs.map fun i => VF.of V (locI V.F l i))
noncomputable def locC (p pw g l c : Int) (zs : List Int) : Int := if validC p pw g l c = true then (if risB 0 (l - 1) zs = true then 0 else 5) else 1
noncomputable def locR (p pw g l c : Int) (zs : List Int) : List Int := if risB 0 (l - 1) zs = true then onC p pw g l c (fun V => VF.lst V (locP V l zs)) else []
end Go.Proofs.YtdcmebegnekkcaaGreat
