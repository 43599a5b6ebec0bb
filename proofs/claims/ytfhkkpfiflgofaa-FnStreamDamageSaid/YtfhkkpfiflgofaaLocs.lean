/-
  The parts Locator, LocPoly.
-/
import Derived.Test.YtfhkkpfiflgofaaGens
/-
  The walks of locators, of lists of indices, and of the two LocatorOf.
-/
namespace Go.Proofs.Ytfhkkpfiflgofaa
open Go.RowKit
set_option linter.unusedVariables false

/-- The first m numbers rise, within bounds. -/
def RisTo (lo hi : Int) (zs : List Int) (m : Nat) : Prop := ∀ k, k < m → lo ≤ gi zs k ∧ gi zs k ≤ hi ∧ (0 < k → gi zs (k - 1) < gi zs k)
open Classical in
noncomputable def risB (lo hi : Int) (zs : List Int) : Bool := decide (RisTo lo hi zs zs.length)
theorem RisTo.next {lo hi : Int} {zs : List Int} {k : Nat} (h : RisTo lo hi zs k) (h1 : lo ≤ gi zs k) (h2 : gi zs k ≤ hi) (h3 : 0 < k → gi zs (k - 1) < gi zs k) : RisTo lo hi zs (k + 1) := fun j hj => by
  by_cases e : j = k
  · subst e; exact ⟨h1, h2, h3⟩
  · exact h j (by omega)
theorem risB_no {lo hi : Int} {zs : List Int} {n k : Nat} (hl : zs.length = n) (hk : k < n) (h : ¬ (lo ≤ gi zs k ∧ gi zs k ≤ hi ∧ (0 < k → gi zs (k - 1) < gi zs k))) : risB lo hi zs = false := by
  unfold risB; simp only [decide_eq_false_iff_not]; exact fun hr => h (hr k (by omega))
theorem risB_yes {lo hi : Int} {zs : List Int} {n : Nat} (hl : zs.length = n) (h : RisTo lo hi zs n) : risB lo hi zs = true := by
  unfold risB; simp only [decide_eq_true_eq]; rw [hl]; exact h
theorem risB_iff {lo hi : Int} {zs : List Int} (h : risB lo hi zs = true) : RisTo lo hi zs zs.length := by unfold risB at h; simpa using h
theorem ris_ge {lo hi : Int} {zs : List Int} {m : Nat} (h : RisTo lo hi zs m) : ∀ k, k < m → lo + k ≤ gi zs k := by
  intro k
  induction k with
  | zero => intro hk; have := (h 0 hk).1; omega
  | succ k ih => intro hk; have h1 := ih (by omega); have h2 := (h (k + 1) hk).2.2 (by omega); simp only [Nat.add_sub_cancel] at h2; omega
theorem ris_len {lo hi : Int} {zs : List Int} (h : RisTo lo hi zs zs.length) (h0 : lo ≤ hi + 1) : (zs.length : Int) ≤ hi - lo + 1 := by
  by_cases hn : zs.length = 0
  · omega
  · have h1 := ris_ge h (zs.length - 1) (by omega)
    have h2 := (h (zs.length - 1) (by omega)).2.1
    omega
set_option maxHeartbeats 1000000 in
theorem rises_any (lo hi : Int) {w : World} {a : Option Addr} {n cap : Nat} {zs : List Int} (hr : RowAt w a n zs) :
    Calls Try.prog 100 #[.slice a n cap, .int .i64 lo, .int .i64 hi] w fun e w' => e = .returned (.bool (risB lo hi zs)) ∧ w = w' := by
  have HR := Lib.hid hr
  have hl := Lib.hid hr.len
  have hsm := hr.small
  clear hr
  go_enter Try.func100, Try.ntmps100
  go_wp2_with fail
  go_loop [11] (fun t => ∃ k : Nat, k ≤ n ∧ t = .int .i64 k ∧ Hid (RisTo lo hi zs k)) (fun t => (n - intOf t).toNat)
  case atStart => exact ⟨0, by omega, rfl, fun j hj => by omega⟩
  case round =>
    obtain ⟨k, hk, rfl, hris⟩ := hrel
    by_cases hlt : k < n
    · obtain ⟨b1, o1, rfl, hb1, hcs⟩ := HR.out.at' (by omega)
      have hcell := hcs k hlt
      have HNO := Lib.hid (risB_no (lo := lo) (hi := hi) hl.out hlt)
      have HNX := Lib.hid hris.out.next
      cases hin : inR (gi zs k) lo hi
      · have hf := Lib.hid (HNO.out (fun h => by rw [inR_true h.1 h.2.1] at hin; cases hin))
        clear hcs
        go_wp2_with fail
        refine (inRange_any _ _ _ _).mono ?_
        rintro e w2 ⟨rfl, rfl⟩
        rw [hin]
        go_wp2_with fail
        go_ret
        exact ⟨ret_bool hf.out.symm, rfl⟩
      · obtain ⟨h1, h2⟩ := inR_iff.1 hin
        by_cases h0 : 0 < k
        · obtain ⟨j, rfl⟩ : ∃ j, k = j + 1 := ⟨k - 1, by omega⟩
          have hcell2 := hcs j (by omega)
          simp only [Nat.add_sub_cancel] at HNO HNX
          have et : ((j + 1 : Nat) : Int) - 1 = (j : Int) := by omega
          have et2 : (0 : Int) < ((j + 1 : Nat) : Int) := by omega
          have hjn : j < n := by omega
          clear hcs
          generalize hx : gi zs (j + 1) = x at *
          generalize hy : gi zs j = y at *
          clear hx hy
          by_cases hge : x ≤ y
          · have hf := Lib.hid (HNO.out (fun h => by have := h.2.2 (by omega); omega))
            go_wp2_with fail
            refine (inRange_any _ _ _ _).mono ?_
            rintro e w2 ⟨rfl, rfl⟩
            rw [hin]
            go_wp2_with fail
            go_ret
            exact ⟨ret_bool hf.out.symm, rfl⟩
          · have hs := Lib.hid (HNX.out h1 h2 (fun _ => by omega))
            have hlt3 : y < x := by omega
            go_wp2_with fail
            refine (inRange_any _ _ _ _).mono ?_
            rintro e w2 ⟨rfl, rfl⟩
            rw [hin]
            go_wp2_with fail
            go_round
            case rel => exact ⟨j + 1 + 1, by omega, by go_num, hs⟩
            case measure => simp [intOf]; omega
        · have hs := Lib.hid (HNX.out h1 h2 (fun h => absurd h h0))
          clear hcs
          go_wp2_with fail
          refine (inRange_any _ _ _ _).mono ?_
          rintro e w2 ⟨rfl, rfl⟩
          rw [hin]
          go_wp2_with fail
          go_round
          case rel => exact ⟨k + 1, by omega, by go_num, hs⟩
          case measure => simp [intOf]; omega
    · obtain rfl : k = n := by omega
      have hf := Lib.hid (risB_yes hl.out hris.out)
      go_wp2_with fail
      go_ret
      exact ⟨ret_bool hf.out.symm, rfl⟩
/-- The locator of an index. -/
def locI (F : FF) (l i : Int) : Int := F.exp (l - 1 - i).toNat
theorem locator_any {V : VF} {p pw g l c : Int} (hs : SF V p pw g) {w : World} {b : Nat} (hcod : Cod w b p pw g l c) (hl1 : l ≤ 255) (i : Int) (hi0 : 0 ≤ i) (hi1 : i ≤ l - 1) :
    Calls Try.prog 167 #[.pointer (some ⟨b, 0, none⟩), .int .i64 i] w fun e w' => e = .returned (.int .i64 (locI V.F l i)) ∧ ∃ q, w' = w.drewN q := by
  obtain ⟨bc, hc0, hcal⟩ := hcod.calV hs
  have hc1 := hcod.len
  have HP := Lib.hid (fun m => power_any (hcal.drewN m) (l - 1 - i) (by omega))
  have w1 : IntKind.i64.wrap (l - 1) = l - 1 := IntWalk.i64_in _ (by omega)
  have w2 : IntKind.i64.wrap (l - 1 - i) = l - 1 - i := IntWalk.i64_in _ (by omega)
  clear hcal hcod
  go_enter Try.func167, Try.ntmps167
  go_wp2_with fail
  go_quiet ((go_at_call 131; exact Calls.quiet_of (HP.out _)))
  go_wp2_with fail
  go_ret
  exact ⟨rfl, _, rfl⟩
end Go.Proofs.Ytfhkkpfiflgofaa
/-
  The walks of locator polynomials, and of the two LocatorOf.
-/
namespace Go.Proofs.Ytfhkkpfiflgofaa
open Go.RowKit
set_option linter.unusedVariables false

/-- The locator polynomial of indices. -/
noncomputable def locP (V : VF) (l : Int) (zs : List Int) : PS (El V) := PS.lam (zs.map fun i => VF.of V (locI V.F l i))
theorem locI_el (V : VF) (l i : Int) : V.F.el (locI V.F l i) := FF.exp_el V.ok _
theorem locP_poly (V : VF) (l : Int) (zs : List Int) : (locP V l zs).IsPoly := PS.isPoly_lam _
theorem locP_len (V : VF) (l : Int) (zs : List Int) : (VF.lst V (locP V l zs)).length ≤ zs.length + 1 := by
  have := VF.lst_len (V := V) (PS.dlt_lam (zs.map fun i => VF.of V (locI V.F l i)))
  rw [List.length_map] at this; exact this
theorem locP_next (V : VF) (l : Int) (zs : List Int) (k : Nat) (hk : k < zs.length) :
    VF.lst V (VF.ps V (VF.lst V (locP V l (zs.take k))) * VF.ps V [1, V.F.neg (locI V.F l (gi zs k))]) = VF.lst V (locP V l (zs.take (k + 1))) := by
  rw [VF.lst_eq (locP_poly V l _), ps_lin1 V (locI_el V l _), VF.take_succ_getD zs k hk]
  unfold locP
  rw [List.map_append, PS.lam_append]
  congr 1
  show _ = _ * (PS.lf _ * 1)
  have : ∀ x : PS (El V), x * 1 = x := fun x => by grind
  rw [this]; rfl
theorem locP_nil (V : VF) (l : Int) : VF.lst V (locP V l []) = [1] := lst_one V
set_option maxHeartbeats 2000000 in
theorem locatorPoly_any {V : VF} {p pw g l c : Int} (hs : SF V p pw g) {w : World} {b : Nat} (hcod : Cod w b p pw g l c) (hl1 : l ≤ 255) {a : Option Addr} {n cap : Nat} {zs : List Int} (hr : RowAt w a n zs) (hn : n ≤ 255) (hris : RisTo 0 (l - 1) zs n) :
    Calls Try.prog 168 #[.pointer (some ⟨b, 0, none⟩), .slice a n cap] w fun e w' => ∃ v, e = .returned v ∧ Below w.heap.size w w' ∧ OwnL w' w.heap.size v (VF.lst V (locP V l zs)) := by
  have HCOD := Lib.hid hcod
  have HR := Lib.hid hr
  have hlen := Lib.hid hr.len
  have HRIS := Lib.hid hris
  clear hcod hr hris
  have HO0 := Lib.hid (show OwnL (w.alloc (.cells #[.int .i64 1] 2)) w.heap.size (.slice (some ⟨w.heap.size, 0, none⟩) 1 1) (VF.lst V (locP V l (zs.take 0))) by
    rw [List.take_zero, locP_nil]; exact OwnL.lit1 _ _ (Nat.le_refl _) _ rfl _ rfl)
  go_enter Try.func168, Try.ntmps168
  go_wp2_with fail
  go_loopw [5, 11] (fun o t wr => ∃ (k la ca : Nat) (aa : Option Addr), k ≤ n ∧ o = .slice aa la ca ∧ t = .int .i64 k ∧ Hid ((VF.lst V (locP V l (zs.take k))).length = la) ∧ Hid (OwnL wr w.heap.size (.slice aa la ca) (VF.lst V (locP V l (zs.take k)))) ∧ Hid (Below w.heap.size w wr)) (fun _ t _ => (n - intOf t).toNat)
  case atStart => exact ⟨0, 1, 1, _, by omega, rfl, rfl, Lib.hid (by rw [List.take_zero, locP_nil]; rfl), HO0, Lib.hid (below1 _ _)⟩
  case round =>
    obtain ⟨k, la, ca, aa, hk, rfl, rfl, hla, ho, hbel⟩ := hrel
    clear HO0
    by_cases hlt : k < n
    · obtain ⟨b1, o1, rfl, hb1, hcs⟩ := (HR.out.below' hbel.out).at' (by omega)
      have hcell := hcs k hlt
      have hcod := HCOD.out.below hbel.out
      obtain ⟨bc, hc0, hcal⟩ := hcod.calV hs
      have HCAL := Lib.hid hcal
      have HCD := Lib.hid hcod
      obtain ⟨hi0, hi1, _⟩ := HRIS.out k hlt
      have HP := Lib.hid (fun W (hb : Below wr.heap.size wr W) => locator_any hs (HCD.out.below hb) hl1 (gi zs k) hi0 hi1)
      have hr2 := locI_el V l (gi zs k)
      have HN := Lib.hid (fun W (hd : Drew wr W) => neg_any (hd.cal HCAL.out) (locI V.F l (gi zs k)) hr2)
      have HNX := Lib.hid (locP_next V l zs k (by rw [hlen.out]; exact hlt))
      have hlm : (VF.lst V (locP V l (zs.take k))).length ≤ 4096 := by have := locP_len V l (zs.take k); rw [List.length_take] at this; omega
      have hels := (VF.lst_isP (locP_poly V l (zs.take k))).els
      have he2 := els_lin1 (V := V) hr2
      obtain ⟨_, _, ea, -, hra⟩ := ho.out.shape
      simp only [Value.slice.injEq] at ea
      obtain ⟨rfl, -, -⟩ := ea
      rw [hla.out] at hra hlm
      have HRA := Lib.hid hra.row
      have HT := Lib.hid (fun W (hd : Drew wr W) => times_any (V := V) (cap := ca) (cap' := 2) ((hd.cal HCAL.out).below (below1 W (.cells #[.int .i64 1, .int .i64 (V.F.neg (locI V.F l (gi zs k)))] 2))) ((hd.row HRA.out).below' (below1 W (.cells #[.int .i64 1, .int .i64 (V.F.neg (locI V.F l (gi zs k)))] 2))) hlm (row_two W 1 (V.F.neg (locI V.F l (gi zs k))) 2 _ rfl) (by omega) hels he2)
      rw [HNX.out] at HT
      clear hra hels he2 hlm hcal hcod hcs hi0 hi1
      generalize locI V.F l (gi zs k) = r2 at *
      generalize V.F.neg r2 = m at *
      generalize gi zs k = z at *
      go_wp2_with fail
      go_region_held3 (fun w' => w'.cell? ⟨b, 0, none⟩ = some (.pointer (some ⟨bc, 0, none⟩)))
        (first | go_keep | ((try (dsimp only)); (first | go_keep | exact keep_cell hbT (by assumption) | exact keep_cell (hd3.below _) (by assumption))))
        (first | (go_at_call 167; refine (HP.out _ (Drew.below (drew1 wr) _)).mono ?_; rintro e w3 ⟨rfl, hd3⟩; have hd3 : Drew wr w3 := Drew.trans (drew1 wr) hd3) | (go_at_call 117; refine (HN.out _ hd3).mono ?_; rintro e w4 ⟨rfl, rfl⟩) | (go_at_call 154; refine (HT.out _ hd3).mono ?_; rintro e w5 ⟨v, rfl, hbT, hoT⟩))
      have hb4 := Below.more (((hd3.below wr.heap.size).trans ((below1 w3 (.cells #[.int .i64 1, .int .i64 m] 2)).mono (hd3.below wr.heap.size).size))) (Nat.le_refl _) hbT
      have hs5 : w.heap.size ≤ (w3.alloc (.cells #[.int .i64 1, .int .i64 m] 2)).heap.size := by have h1 := (hd3.below wr.heap.size).size; have h2 := hbel.out.size; simp; omega
      have HB5 := Lib.hid (hbel.out.trans (hb4.mono hbel.out.size))
      obtain ⟨a5, c5, rfl, -, -, -⟩ := hoT.cap
      have HO5 := Lib.hid (hoT.lower hs5)
      clear hd3 hbT hoT hb4 hs5
      go_wp2_with fail
      go_roundw
      case rel => exact ⟨k + 1, _, _, _, by omega, rfl, by go_num, Lib.hid rfl, HO5, HB5⟩
      case measure => simp [intOf]; omega
    · obtain rfl : k = n := by omega
      have hfin := Lib.hid (show zs.take k = zs by rw [List.take_of_length_le (by rw [hlen.out]; omega)])
      rw [hfin.out] at ho
      go_wp2_with fail
      go_ret
      exact ⟨_, rfl, hbel.out, ho.out⟩
noncomputable def locC (p pw g l c : Int) (zs : List Int) : Int := if validC p pw g l c = true then (if risB 0 (l - 1) zs = true then 0 else 5) else 1
noncomputable def locR (p pw g l c : Int) (zs : List Int) : List Int := if risB 0 (l - 1) zs = true then onC p pw g l c (fun V => VF.lst V (locP V l zs)) else []
end Go.Proofs.Ytfhkkpfiflgofaa
