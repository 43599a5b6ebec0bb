/-
  The parts Fixf, Fixg, Fixh.
-/
import Derived.Test.YtdcmebegnekkcaaGreatFixa
/-
  The kinds of fixed cells, in the program.
-/
namespace Go.Proofs.YtdcmebegnekkcaaGreat
open Go.RowKit
set_option linter.unusedVariables false

abbrev PlT : TypeId := 222
def midZ (n x : Int) : Int := if n / 2 < x then n - 4 else 3
def plV (r c : Int) : Value := .agg #[.int .i64 r, .int .i64 c]
theorem heap_al2 (w : World) (a b c : Obj) : (((w.alloc a).alloc b).alloc c).heap[w.heap.size + 1]? = some b := by
  have h1 : (w.alloc a).heap.size = w.heap.size + 1 := by simp
  have h2 := heap_new (w.alloc a) b
  rw [h1] at h2
  have h3 := (Below.alloc (B := w.heap.size + 1 + 1) (Below.refl _ ((w.alloc a).alloc b)) (by simp) c).block (w.heap.size + 1) (by omega)
  exact h3.trans h2
theorem below_al3 (w : World) (a b c : Obj) : Below w.heap.size w (((w.alloc a).alloc b).alloc c) := (((Below.refl _ w).alloc (Nat.le_refl _) a).alloc (by simp) b).alloc (by simp <;> omega) c
set_option maxHeartbeats 1000000 in
theorem middle_any {n r c : Int} (hn : 17 ≤ n ∧ n ≤ 41) (w : World) :
    Calls Tryz.prog 194 #[.int .i64 n, plV r c] w fun e w' => e = .returned (plV (midZ n r) (midZ n c)) ∧ Below w.heap.size w w' := by
  have hw4 := (wrp (x := n - 4) (by omega)).2
  have hq : n.tdiv 2 = n / 2 := Int.tdiv_eq_ediv_of_nonneg (by omega)
  have hq2 := (wrp (x := n / 2) (by omega)).2
  have HR : midZ n r = if n / 2 < r then n - 4 else 3 := rfl
  have HC : midZ n c = if n / 2 < c then n - 4 else 3 := rfl
  have HRES := Lib.hid (show Tryz.f194.results = #[.cell 4 PlT] by kernel_rfl)
  generalize midZ n r = a at *
  generalize midZ n c = b at *
  have HRR := Lib.hid HR
  have HCC := Lib.hid HC
  clear HR HC hn
  unfold plV
  go_enter Tryz.func194, Tryz.ntmps194
  by_cases h1 : n / 2 < r
  · by_cases h2 : n / 2 < c
    · go_wp2_with fail
      refine ret_cell1 HRES.out Tryz.underlying222 rfl (by kernel_rfl) rfl rfl (heap_al2 _ _ _ _) ⟨?_, below_al3 _ _ _ _⟩
      rw [HRR.out, HCC.out, if_pos h1, if_pos h2]
    · go_wp2_with fail
      refine ret_cell1 HRES.out Tryz.underlying222 rfl (by kernel_rfl) rfl rfl (heap_al2 _ _ _ _) ⟨?_, below_al3 _ _ _ _⟩
      rw [HRR.out, HCC.out, if_pos h1, if_neg (Int.not_lt.2 h2)]
  · by_cases h2 : n / 2 < c
    · go_wp2_with fail
      refine ret_cell1 HRES.out Tryz.underlying222 rfl (by kernel_rfl) rfl rfl (heap_al2 _ _ _ _) ⟨?_, below_al3 _ _ _ _⟩
      rw [HRR.out, HCC.out, if_neg (Int.not_lt.2 h1), if_pos h2]
    · go_wp2_with fail
      refine ret_cell1 HRES.out Tryz.underlying222 rfl (by kernel_rfl) rfl rfl (heap_al2 _ _ _ _) ⟨?_, below_al3 _ _ _ _⟩
      rw [HRR.out, HCC.out, if_neg (Int.not_lt.2 h1), if_neg (Int.not_lt.2 h2)]
theorem finder_any {r c : Int} (hr : -1000000 ≤ r ∧ r ≤ 1000000) (hc : -1000000 ≤ c ∧ c ≤ 1000000) (w : World) :
    Calls Tryz.prog 197 #[.int .i64 r, .int .i64 c] w fun e w' => (∃ x, 0 ≤ x ∧ e = .returned (.int .i64 x)) ∧ w = w' := by
  have A1 := Lib.hid (distance_any (n := r) (by omega))
  have A2 := Lib.hid (distance_any (n := c) (by omega))
  clear hr hc
  go_enter Tryz.func197, Tryz.ntmps197
  go_wp2_with fail
  refine (A1.out _).mono ?_
  rintro e w1 ⟨rfl, rfl⟩
  go_wp2_with fail
  refine (A2.out _).mono ?_
  rintro e w1 ⟨rfl, rfl⟩
  go_wp2_with fail
  all_goals
    go_ret
    exact ⟨⟨_, by omega, rfl⟩, rfl⟩
/-- Near a corner's finder pattern. -/
def maxZ (a b : Int) : Int := if a < b then b else a
def in1 (n r c : Int) : Bool := (midZ n r == 3 || midZ n c == 3) && decide (maxZ (absZ (r - midZ n r)) (absZ (c - midZ n c)) ≤ 4)
set_option maxHeartbeats 4000000 in
theorem pat1_any {n r c : Int} (hn : 17 ≤ n ∧ n ≤ 41) (hr : 0 ≤ r ∧ r < n) (hc : 0 ≤ c ∧ c < n) (w : World) :
    Calls Tryz.prog 193 #[.int .i64 n, plV r c] w fun e w' => e = .returned (.bool (in1 n r c)) ∧ Below w.heap.size w w' := by
  have HM := Lib.hid (middle_any (r := r) (c := c) hn)
  have ha : 3 ≤ midZ n r ∧ midZ n r ≤ 41 := by unfold midZ; split <;> omega
  have hb : 3 ≤ midZ n c ∧ midZ n c ≤ 41 := by unfold midZ; split <;> omega
  have HI := Lib.hid (show in1 n r c = ((midZ n r == 3 || midZ n c == 3) && decide (maxZ (absZ (r - midZ n r)) (absZ (c - midZ n c)) ≤ 4)) from rfl)
  generalize in1 n r c = I at *
  generalize midZ n r = a at *
  generalize midZ n c = b at *
  have hwa := (wrp (x := r - a) (by omega)).2
  have hwb := (wrp (x := c - b) (by omega)).2
  have D1 := Lib.hid (fun (V : World) => (distance_any (n := r - a) (by omega) V).mono fun e w' h => And.intro h.1 h.2.symm)
  have D2 := Lib.hid (fun (V : World) => (distance_any (n := c - b) (by omega) V).mono fun e w' h => And.intro h.1 h.2.symm)
  generalize absZ (r - a) = x at *
  generalize absZ (c - b) = y at *
  obtain ⟨p, hp⟩ : ∃ p, p = r - a := ⟨_, rfl⟩
  obtain ⟨q, hq⟩ : ∃ q, q = c - b := ⟨_, rfl⟩
  have hwa2 : IntKind.i64.wrap (r - a) = p := hwa.trans hp.symm
  have hwb2 : IntKind.i64.wrap (c - b) = q := hwb.trans hq.symm
  rw [← hp] at D1
  rw [← hq] at D2
  clear hwa hwb hp hq
  clear hn hr hc ha hb
  unfold plV at HM ⊢
  go_enter Tryz.func193, Tryz.ntmps193
  go_wp2_with fail
  refine (HM.out _).mono ?_
  rintro e w1 ⟨rfl, hb1⟩
  have hsz : w.heap.size + 1 ≤ w1.heap.size := by have := hb1.size; simpa using this
  have T0 := Lib.hid (((Tf.mkd w #[.int .i64 r, .int .i64 c] PlT).below hb1 (by simp)).below (Below.alloc (Below.refl w1.heap.size w1) (Nat.le_refl _) (.cells #[.int .i64 a, .int .i64 b] PlT)) (by omega))
  have T1 := Lib.hid (Tf.mkd w1 #[.int .i64 a, .int .i64 b] PlT)
  have B1 := Lib.hid ((((Below.refl _ w).alloc (Nat.le_refl _) (.cells #[.int .i64 r, .int .i64 c] PlT)).trans (hb1.mono (by simp))).alloc (by omega) (.cells #[.int .i64 a, .int .i64 b] PlT))
  clear hb1
  go_wp2_with fail
  have k0 : (w1.alloc (.cells #[.int .i64 a, .int .i64 b] PlT)).cell? ⟨w.heap.size, 0, none⟩ = some (.int .i64 r) := T0.out.cell (i := 0) (by simp)
  have k1 : (w1.alloc (.cells #[.int .i64 a, .int .i64 b] PlT)).cell? ⟨w.heap.size, 1, none⟩ = some (.int .i64 c) := T0.out.cell (i := 1) (by simp)
  have k2 : (w1.alloc (.cells #[.int .i64 a, .int .i64 b] PlT)).cell? ⟨w1.heap.size, 0, none⟩ = some (.int .i64 a) := T1.out.cell (i := 0) (by simp)
  have k3 : (w1.alloc (.cells #[.int .i64 a, .int .i64 b] PlT)).cell? ⟨w1.heap.size, 1, none⟩ = some (.int .i64 b) := T1.out.cell (i := 1) (by simp)
  generalize w1.alloc (.cells #[.int .i64 a, .int .i64 b] PlT) = W at *
  generalize w1.heap.size = h1 at *
  clear hsz T0 T1
  by_cases ha : a = 3
  · have ha2 : (a == 3) = true := by simp [ha]
    clear ha
    go_wp2_with fail
    refine wp_region_S (S := (fun w' => w'.cell? ⟨w.heap.size, 0, none⟩ = some (.int .i64 r) ∧ w'.cell? ⟨w.heap.size, 1, none⟩ = some (.int .i64 c) ∧ w'.cell? ⟨h1, 0, none⟩ = some (.int .i64 a) ∧ w'.cell? ⟨h1, 1, none⟩ = some (.int .i64 b))) 25 rfl (by kernel_rfl) ?_ (fun hHeld => ?_)
    · first | (exact ⟨k0, k1, k2, k3⟩) | ((try dsimp only); exact ⟨k0, k1, k2, k3⟩)
    refine wpAnyH_take (i := 0) (oi := _) (v := ?_) rfl (by kernel_rfl) (by kernel_rfl) (by kernel_rfl) (fun _ _ _ h => h) (Or.inl ⟨by kernel_rfl, ?_⟩) hHeld ?_
    rotate_left
    · intro w0 hSw; (try dsimp only at hSw); go_simp; (try with_reducible rfl)
    (try dsimp only [Act.put, List.setIfInBounds_toArray, List.set_cons_zero, List.set_cons_succ])
    refine wpAnyH_take (i := 1) (oi := _) (v := ?_) rfl (by kernel_rfl) (by kernel_rfl) (by kernel_rfl) (fun _ _ _ h => h) (Or.inl ⟨by kernel_rfl, ?_⟩) hHeld ?_
    rotate_left
    · intro w0 hSw; (try dsimp only at hSw); go_simp; (try with_reducible rfl)
    (try dsimp only [Act.put, List.setIfInBounds_toArray, List.set_cons_zero, List.set_cons_succ])
    refine wpAnyH_take (i := 2) (oi := _) (v := ?_) rfl (by kernel_rfl) (by kernel_rfl) (by kernel_rfl) (fun _ _ _ h => h) (Or.inl ⟨by kernel_rfl, ?_⟩) hHeld ?_
    rotate_left
    · intro w0 hSw; (try dsimp only at hSw); go_simp; (try with_reducible rfl)
    (try dsimp only [Act.put, List.setIfInBounds_toArray, List.set_cons_zero, List.set_cons_succ])
    refine wpAnyH_take (i := 3) (oi := _) (v := .bool true) rfl (by kernel_rfl) (by kernel_rfl) (by kernel_rfl) (fun _ _ _ h => h) (Or.inl ⟨by kernel_rfl, ?_⟩) hHeld ?_
    · intro w0 hSw; (try dsimp only at hSw); go_simp <;> (first | done | rfl | simp_all)
    (try dsimp only [Act.put, List.setIfInBounds_toArray, List.set_cons_zero, List.set_cons_succ])
    refine wpAnyH_take (i := 4) (oi := _) (v := undef) rfl (by kernel_rfl) (by kernel_rfl) (by kernel_rfl) (fun _ _ _ h => h) (Or.inr ⟨by kernel_rfl, rfl⟩) hHeld ?_
    (try dsimp only [Act.put, List.setIfInBounds_toArray, List.set_cons_zero, List.set_cons_succ])
    refine wpAnyH_take (i := 5) (oi := _) (v := undef) rfl (by kernel_rfl) (by kernel_rfl) (by kernel_rfl) (fun _ _ _ h => h) (Or.inr ⟨by kernel_rfl, rfl⟩) hHeld ?_
    (try dsimp only [Act.put, List.setIfInBounds_toArray, List.set_cons_zero, List.set_cons_succ])
    refine wpAnyH_take (i := 6) (oi := _) (v := undef) rfl (by kernel_rfl) (by kernel_rfl) (by kernel_rfl) (fun _ _ _ h => h) (Or.inr ⟨by kernel_rfl, rfl⟩) hHeld ?_
    (try dsimp only [Act.put, List.setIfInBounds_toArray, List.set_cons_zero, List.set_cons_succ])
    refine wpAnyH_take (i := 7) (oi := _) (v := ?_) rfl (by kernel_rfl) (by kernel_rfl) (by kernel_rfl) (fun _ _ _ h => h) (Or.inl ⟨by kernel_rfl, ?_⟩) hHeld ?_
    rotate_left
    · intro w0 hSw; (try dsimp only at hSw); go_simp; (try with_reducible rfl)
    (try dsimp only [Act.put, List.setIfInBounds_toArray, List.set_cons_zero, List.set_cons_succ])
    refine wpAnyH_take (i := 8) (oi := _) (v := .bool true) rfl (by kernel_rfl) (by kernel_rfl) (by kernel_rfl) (fun _ _ _ h => h) (Or.inl ⟨by kernel_rfl, ?_⟩) hHeld ?_
    · intro w0 hSw; (try dsimp only at hSw); go_simp <;> (first | done | rfl | simp_all)
    (try dsimp only [Act.put, List.setIfInBounds_toArray, List.set_cons_zero, List.set_cons_succ])
    refine wpAnyH_take (i := 9) (oi := _) (v := ?_) rfl (by kernel_rfl) (by kernel_rfl) (by kernel_rfl) (fun _ _ _ h => h) (Or.inl ⟨by kernel_rfl, ?_⟩) hHeld ?_
    rotate_left
    · intro w0 hSw; (try dsimp only at hSw); go_simp; (try with_reducible rfl)
    (try dsimp only [Act.put, List.setIfInBounds_toArray, List.set_cons_zero, List.set_cons_succ])
    refine wpAnyH_take (i := 10) (oi := _) (v := ?_) rfl (by kernel_rfl) (by kernel_rfl) (by kernel_rfl) (fun _ _ _ h => h) (Or.inl ⟨by kernel_rfl, ?_⟩) hHeld ?_
    rotate_left
    · intro w0 hSw; (try dsimp only at hSw); go_simp; (try with_reducible rfl)
    (try dsimp only [Act.put, List.setIfInBounds_toArray, List.set_cons_zero, List.set_cons_succ])
    refine wpAnyH_take (i := 11) (oi := _) (v := ?_) rfl (by kernel_rfl) (by kernel_rfl) (by kernel_rfl) (fun _ _ _ h => h) (Or.inl ⟨by kernel_rfl, ?_⟩) hHeld ?_
    rotate_left
    · intro w0 hSw; (try dsimp only at hSw); go_simp; (try with_reducible rfl)
    (try dsimp only [Act.put, List.setIfInBounds_toArray, List.set_cons_zero, List.set_cons_succ])
    refine wpAnyH_take (i := 12) (oi := _) (v := ?_) rfl (by kernel_rfl) (by kernel_rfl) (by kernel_rfl) (fun _ _ _ h => h) (Or.inl ⟨by kernel_rfl, ?_⟩) hHeld ?_
    rotate_left
    · intro w0 hSw; (try dsimp only at hSw); go_simp; (try with_reducible rfl)
    (try dsimp only [Act.put, List.setIfInBounds_toArray, List.set_cons_zero, List.set_cons_succ])
    refine wpAnyH_take (i := 13) (oi := _) (v := ?_) rfl (by kernel_rfl) (by kernel_rfl) (by kernel_rfl) (fun _ _ _ h => h) (Or.inl ⟨by kernel_rfl, ?_⟩) hHeld ?_
    rotate_left
    · intro w0 hSw; (try dsimp only at hSw); go_simp; (try with_reducible rfl)
    (try dsimp only [Act.put, List.setIfInBounds_toArray, List.set_cons_zero, List.set_cons_succ])
    refine wpAnyH_take (i := 15) (oi := _) (v := ?_) rfl (by kernel_rfl) (by kernel_rfl) (by kernel_rfl) (fun _ _ _ h => h) (Or.inl ⟨by kernel_rfl, ?_⟩) hHeld ?_
    rotate_left
    · intro w0 hSw; (try dsimp only at hSw); go_simp; (try with_reducible rfl)
    (try dsimp only [Act.put, List.setIfInBounds_toArray, List.set_cons_zero, List.set_cons_succ])
    refine wpAnyH_take (i := 16) (oi := _) (v := ?_) rfl (by kernel_rfl) (by kernel_rfl) (by kernel_rfl) (fun _ _ _ h => h) (Or.inl ⟨by kernel_rfl, ?_⟩) hHeld ?_
    rotate_left
    · intro w0 hSw; (try dsimp only at hSw); go_simp; (try with_reducible rfl)
    (try dsimp only [Act.put, List.setIfInBounds_toArray, List.set_cons_zero, List.set_cons_succ])
    refine wpAnyH_take (i := 17) (oi := _) (v := ?_) rfl (by kernel_rfl) (by kernel_rfl) (by kernel_rfl) (fun _ _ _ h => h) (Or.inl ⟨by kernel_rfl, ?_⟩) hHeld ?_
    rotate_left
    · intro w0 hSw; (try dsimp only at hSw); go_simp; (try with_reducible rfl)
    (try dsimp only [Act.put, List.setIfInBounds_toArray, List.set_cons_zero, List.set_cons_succ])
    refine wpAnyH_take (i := 18) (oi := _) (v := ?_) rfl (by kernel_rfl) (by kernel_rfl) (by kernel_rfl) (fun _ _ _ h => h) (Or.inl ⟨by kernel_rfl, ?_⟩) hHeld ?_
    rotate_left
    · intro w0 hSw; (try dsimp only at hSw); go_simp; (try with_reducible rfl)
    (try dsimp only [Act.put, List.setIfInBounds_toArray, List.set_cons_zero, List.set_cons_succ])
    refine wpAnyH_take (i := 19) (oi := _) (v := ?_) rfl (by kernel_rfl) (by kernel_rfl) (by kernel_rfl) (fun _ _ _ h => h) (Or.inl ⟨by kernel_rfl, ?_⟩) hHeld ?_
    rotate_left
    · intro w0 hSw; (try dsimp only at hSw); go_simp; (try with_reducible rfl)
    (try dsimp only [Act.put, List.setIfInBounds_toArray, List.set_cons_zero, List.set_cons_succ])
    refine wpAnyH_ready (rs := [14]) (by kernel_rfl) (by simp) ?_
    refine AllReadyH.cons (o := _) rfl (fun K hK => ?_) AllReadyH.nil
    go_simp
    refine (D1.out _).mono ?_
    rintro e w5 ⟨rfl, rfl⟩
    go_simp
    refine hK.out _ _ ?_ (fun hHeld => ?_)
    · first | (exact hHeld) | ((try dsimp only); exact hHeld)
    clear hK K
    (try dsimp only [Act.put, List.setIfInBounds_toArray, List.set_cons_zero, List.set_cons_succ])
    refine wpAnyH_ready (rs := [20]) (by kernel_rfl) (by simp) ?_
    refine AllReadyH.cons (o := _) rfl (fun K hK => ?_) AllReadyH.nil
    go_simp
    refine (D2.out _).mono ?_
    rintro e w5 ⟨rfl, rfl⟩
    go_simp
    refine hK.out _ _ ?_ (fun hHeld => ?_)
    · first | (exact hHeld) | ((try dsimp only); exact hHeld)
    clear hK K
    (try dsimp only [Act.put, List.setIfInBounds_toArray, List.set_cons_zero, List.set_cons_succ])
    refine wpAnyH_take (i := 21) (oi := _) (v := ?_) rfl (by kernel_rfl) (by kernel_rfl) (by kernel_rfl) (fun _ _ _ h => h) (Or.inl ⟨by kernel_rfl, ?_⟩) hHeld ?_
    rotate_left
    · intro w0 hSw; (try dsimp only at hSw); go_simp; (try with_reducible rfl)
    (try dsimp only [Act.put, List.setIfInBounds_toArray, List.set_cons_zero, List.set_cons_succ])
    refine wpAnyH_take (i := 22) (oi := _) (v := ?_) rfl (by kernel_rfl) (by kernel_rfl) (by kernel_rfl) (fun _ _ _ h => h) (Or.inl ⟨by kernel_rfl, ?_⟩) hHeld ?_
    rotate_left
    · intro w0 hSw; (try dsimp only at hSw); go_simp; (try with_reducible rfl)
    (try dsimp only [Act.put, List.setIfInBounds_toArray, List.set_cons_zero, List.set_cons_succ])
    refine wpAnyH_take (i := 23) (oi := _) (v := ?_) rfl (by kernel_rfl) (by kernel_rfl) (by kernel_rfl) (fun _ _ _ h => h) (Or.inl ⟨by kernel_rfl, ?_⟩) hHeld ?_
    rotate_left
    · intro w0 hSw; (try dsimp only at hSw); go_simp; (try with_reducible rfl)
    (try dsimp only [Act.put, List.setIfInBounds_toArray, List.set_cons_zero, List.set_cons_succ])
    refine wpAnyH_take (i := 24) (oi := _) (v := ?_) rfl (by kernel_rfl) (by kernel_rfl) (by kernel_rfl) (fun _ _ _ h => h) (Or.inl ⟨by kernel_rfl, ?_⟩) hHeld ?_
    rotate_left
    · intro w0 hSw; (try dsimp only at hSw); go_simp; (try with_reducible rfl)
    (try dsimp only [Act.put, List.setIfInBounds_toArray, List.set_cons_zero, List.set_cons_succ])
    refine wpAnyH_done (by kernel_rfl) ?_ _
    go_simp
    go_wp2_with fail
    all_goals
      go_ret
      refine ⟨?_, B1.out.trans ((drew1 W).below _)⟩
      show Ending.returned (Value.bool _) = _
      rw [HI.out, ha2]
      simp only [maxZ]
      split <;> first | rfl | omega
  · have ha2 : (a == 3) = false := by simp [ha]
    clear ha
    by_cases hb : b = 3
    · have hb2 : (b == 3) = true := by simp [hb]
      clear hb
      go_wp2_with fail
      refine wp_region_S (S := (fun w' => w'.cell? ⟨w.heap.size, 0, none⟩ = some (.int .i64 r) ∧ w'.cell? ⟨w.heap.size, 1, none⟩ = some (.int .i64 c) ∧ w'.cell? ⟨h1, 0, none⟩ = some (.int .i64 a) ∧ w'.cell? ⟨h1, 1, none⟩ = some (.int .i64 b))) 25 rfl (by kernel_rfl) ?_ (fun hHeld => ?_)
      · first | (exact ⟨k0, k1, k2, k3⟩) | ((try dsimp only); exact ⟨k0, k1, k2, k3⟩)
      refine wpAnyH_take (i := 0) (oi := _) (v := ?_) rfl (by kernel_rfl) (by kernel_rfl) (by kernel_rfl) (fun _ _ _ h => h) (Or.inl ⟨by kernel_rfl, ?_⟩) hHeld ?_
      rotate_left
      · intro w0 hSw; (try dsimp only at hSw); go_simp; (try with_reducible rfl)
      (try dsimp only [Act.put, List.setIfInBounds_toArray, List.set_cons_zero, List.set_cons_succ])
      refine wpAnyH_take (i := 1) (oi := _) (v := ?_) rfl (by kernel_rfl) (by kernel_rfl) (by kernel_rfl) (fun _ _ _ h => h) (Or.inl ⟨by kernel_rfl, ?_⟩) hHeld ?_
      rotate_left
      · intro w0 hSw; (try dsimp only at hSw); go_simp; (try with_reducible rfl)
      (try dsimp only [Act.put, List.setIfInBounds_toArray, List.set_cons_zero, List.set_cons_succ])
      refine wpAnyH_take (i := 2) (oi := _) (v := ?_) rfl (by kernel_rfl) (by kernel_rfl) (by kernel_rfl) (fun _ _ _ h => h) (Or.inl ⟨by kernel_rfl, ?_⟩) hHeld ?_
      rotate_left
      · intro w0 hSw; (try dsimp only at hSw); go_simp; (try with_reducible rfl)
      (try dsimp only [Act.put, List.setIfInBounds_toArray, List.set_cons_zero, List.set_cons_succ])
      refine wpAnyH_take (i := 3) (oi := _) (v := .bool false) rfl (by kernel_rfl) (by kernel_rfl) (by kernel_rfl) (fun _ _ _ h => h) (Or.inl ⟨by kernel_rfl, ?_⟩) hHeld ?_
      · intro w0 hSw; (try dsimp only at hSw); go_simp <;> (first | done | rfl | simp_all)
      (try dsimp only [Act.put, List.setIfInBounds_toArray, List.set_cons_zero, List.set_cons_succ])
      refine wpAnyH_take (i := 4) (oi := _) (v := ?_) rfl (by kernel_rfl) (by kernel_rfl) (by kernel_rfl) (fun _ _ _ h => h) (Or.inl ⟨by kernel_rfl, ?_⟩) hHeld ?_
      rotate_left
      · intro w0 hSw; (try dsimp only at hSw); go_simp; (try with_reducible rfl)
      (try dsimp only [Act.put, List.setIfInBounds_toArray, List.set_cons_zero, List.set_cons_succ])
      refine wpAnyH_take (i := 5) (oi := _) (v := ?_) rfl (by kernel_rfl) (by kernel_rfl) (by kernel_rfl) (fun _ _ _ h => h) (Or.inl ⟨by kernel_rfl, ?_⟩) hHeld ?_
      rotate_left
      · intro w0 hSw; (try dsimp only at hSw); go_simp; (try with_reducible rfl)
      (try dsimp only [Act.put, List.setIfInBounds_toArray, List.set_cons_zero, List.set_cons_succ])
      refine wpAnyH_take (i := 6) (oi := _) (v := ?_) rfl (by kernel_rfl) (by kernel_rfl) (by kernel_rfl) (fun _ _ _ h => h) (Or.inl ⟨by kernel_rfl, ?_⟩) hHeld ?_
      rotate_left
      · intro w0 hSw; (try dsimp only at hSw); go_simp; (try with_reducible rfl)
      (try dsimp only [Act.put, List.setIfInBounds_toArray, List.set_cons_zero, List.set_cons_succ])
      refine wpAnyH_take (i := 7) (oi := _) (v := ?_) rfl (by kernel_rfl) (by kernel_rfl) (by kernel_rfl) (fun _ _ _ h => h) (Or.inl ⟨by kernel_rfl, ?_⟩) hHeld ?_
      rotate_left
      · intro w0 hSw; (try dsimp only at hSw); go_simp; (try with_reducible rfl)
      (try dsimp only [Act.put, List.setIfInBounds_toArray, List.set_cons_zero, List.set_cons_succ])
      refine wpAnyH_take (i := 8) (oi := _) (v := .bool true) rfl (by kernel_rfl) (by kernel_rfl) (by kernel_rfl) (fun _ _ _ h => h) (Or.inl ⟨by kernel_rfl, ?_⟩) hHeld ?_
      · intro w0 hSw; (try dsimp only at hSw); go_simp <;> (first | done | rfl | simp_all)
      (try dsimp only [Act.put, List.setIfInBounds_toArray, List.set_cons_zero, List.set_cons_succ])
      refine wpAnyH_take (i := 9) (oi := _) (v := ?_) rfl (by kernel_rfl) (by kernel_rfl) (by kernel_rfl) (fun _ _ _ h => h) (Or.inl ⟨by kernel_rfl, ?_⟩) hHeld ?_
      rotate_left
      · intro w0 hSw; (try dsimp only at hSw); go_simp; (try with_reducible rfl)
      (try dsimp only [Act.put, List.setIfInBounds_toArray, List.set_cons_zero, List.set_cons_succ])
      refine wpAnyH_take (i := 10) (oi := _) (v := ?_) rfl (by kernel_rfl) (by kernel_rfl) (by kernel_rfl) (fun _ _ _ h => h) (Or.inl ⟨by kernel_rfl, ?_⟩) hHeld ?_
      rotate_left
      · intro w0 hSw; (try dsimp only at hSw); go_simp; (try with_reducible rfl)
      (try dsimp only [Act.put, List.setIfInBounds_toArray, List.set_cons_zero, List.set_cons_succ])
      refine wpAnyH_take (i := 11) (oi := _) (v := ?_) rfl (by kernel_rfl) (by kernel_rfl) (by kernel_rfl) (fun _ _ _ h => h) (Or.inl ⟨by kernel_rfl, ?_⟩) hHeld ?_
      rotate_left
      · intro w0 hSw; (try dsimp only at hSw); go_simp; (try with_reducible rfl)
      (try dsimp only [Act.put, List.setIfInBounds_toArray, List.set_cons_zero, List.set_cons_succ])
      refine wpAnyH_take (i := 12) (oi := _) (v := ?_) rfl (by kernel_rfl) (by kernel_rfl) (by kernel_rfl) (fun _ _ _ h => h) (Or.inl ⟨by kernel_rfl, ?_⟩) hHeld ?_
      rotate_left
      · intro w0 hSw; (try dsimp only at hSw); go_simp; (try with_reducible rfl)
      (try dsimp only [Act.put, List.setIfInBounds_toArray, List.set_cons_zero, List.set_cons_succ])
      refine wpAnyH_take (i := 13) (oi := _) (v := ?_) rfl (by kernel_rfl) (by kernel_rfl) (by kernel_rfl) (fun _ _ _ h => h) (Or.inl ⟨by kernel_rfl, ?_⟩) hHeld ?_
      rotate_left
      · intro w0 hSw; (try dsimp only at hSw); go_simp; (try with_reducible rfl)
      (try dsimp only [Act.put, List.setIfInBounds_toArray, List.set_cons_zero, List.set_cons_succ])
      refine wpAnyH_take (i := 15) (oi := _) (v := ?_) rfl (by kernel_rfl) (by kernel_rfl) (by kernel_rfl) (fun _ _ _ h => h) (Or.inl ⟨by kernel_rfl, ?_⟩) hHeld ?_
      rotate_left
      · intro w0 hSw; (try dsimp only at hSw); go_simp; (try with_reducible rfl)
      (try dsimp only [Act.put, List.setIfInBounds_toArray, List.set_cons_zero, List.set_cons_succ])
      refine wpAnyH_take (i := 16) (oi := _) (v := ?_) rfl (by kernel_rfl) (by kernel_rfl) (by kernel_rfl) (fun _ _ _ h => h) (Or.inl ⟨by kernel_rfl, ?_⟩) hHeld ?_
      rotate_left
      · intro w0 hSw; (try dsimp only at hSw); go_simp; (try with_reducible rfl)
      (try dsimp only [Act.put, List.setIfInBounds_toArray, List.set_cons_zero, List.set_cons_succ])
      refine wpAnyH_take (i := 17) (oi := _) (v := ?_) rfl (by kernel_rfl) (by kernel_rfl) (by kernel_rfl) (fun _ _ _ h => h) (Or.inl ⟨by kernel_rfl, ?_⟩) hHeld ?_
      rotate_left
      · intro w0 hSw; (try dsimp only at hSw); go_simp; (try with_reducible rfl)
      (try dsimp only [Act.put, List.setIfInBounds_toArray, List.set_cons_zero, List.set_cons_succ])
      refine wpAnyH_take (i := 18) (oi := _) (v := ?_) rfl (by kernel_rfl) (by kernel_rfl) (by kernel_rfl) (fun _ _ _ h => h) (Or.inl ⟨by kernel_rfl, ?_⟩) hHeld ?_
      rotate_left
      · intro w0 hSw; (try dsimp only at hSw); go_simp; (try with_reducible rfl)
      (try dsimp only [Act.put, List.setIfInBounds_toArray, List.set_cons_zero, List.set_cons_succ])
      refine wpAnyH_take (i := 19) (oi := _) (v := ?_) rfl (by kernel_rfl) (by kernel_rfl) (by kernel_rfl) (fun _ _ _ h => h) (Or.inl ⟨by kernel_rfl, ?_⟩) hHeld ?_
      rotate_left
      · intro w0 hSw; (try dsimp only at hSw); go_simp; (try with_reducible rfl)
      (try dsimp only [Act.put, List.setIfInBounds_toArray, List.set_cons_zero, List.set_cons_succ])
      refine wpAnyH_ready (rs := [14]) (by kernel_rfl) (by simp) ?_
      refine AllReadyH.cons (o := _) rfl (fun K hK => ?_) AllReadyH.nil
      go_simp
      refine (D1.out _).mono ?_
      rintro e w5 ⟨rfl, rfl⟩
      go_simp
      refine hK.out _ _ ?_ (fun hHeld => ?_)
      · first | (exact hHeld) | ((try dsimp only); exact hHeld)
      clear hK K
      (try dsimp only [Act.put, List.setIfInBounds_toArray, List.set_cons_zero, List.set_cons_succ])
      refine wpAnyH_ready (rs := [20]) (by kernel_rfl) (by simp) ?_
      refine AllReadyH.cons (o := _) rfl (fun K hK => ?_) AllReadyH.nil
      go_simp
      refine (D2.out _).mono ?_
      rintro e w5 ⟨rfl, rfl⟩
      go_simp
      refine hK.out _ _ ?_ (fun hHeld => ?_)
      · first | (exact hHeld) | ((try dsimp only); exact hHeld)
      clear hK K
      (try dsimp only [Act.put, List.setIfInBounds_toArray, List.set_cons_zero, List.set_cons_succ])
      refine wpAnyH_take (i := 21) (oi := _) (v := ?_) rfl (by kernel_rfl) (by kernel_rfl) (by kernel_rfl) (fun _ _ _ h => h) (Or.inl ⟨by kernel_rfl, ?_⟩) hHeld ?_
      rotate_left
      · intro w0 hSw; (try dsimp only at hSw); go_simp; (try with_reducible rfl)
      (try dsimp only [Act.put, List.setIfInBounds_toArray, List.set_cons_zero, List.set_cons_succ])
      refine wpAnyH_take (i := 22) (oi := _) (v := ?_) rfl (by kernel_rfl) (by kernel_rfl) (by kernel_rfl) (fun _ _ _ h => h) (Or.inl ⟨by kernel_rfl, ?_⟩) hHeld ?_
      rotate_left
      · intro w0 hSw; (try dsimp only at hSw); go_simp; (try with_reducible rfl)
      (try dsimp only [Act.put, List.setIfInBounds_toArray, List.set_cons_zero, List.set_cons_succ])
      refine wpAnyH_take (i := 23) (oi := _) (v := ?_) rfl (by kernel_rfl) (by kernel_rfl) (by kernel_rfl) (fun _ _ _ h => h) (Or.inl ⟨by kernel_rfl, ?_⟩) hHeld ?_
      rotate_left
      · intro w0 hSw; (try dsimp only at hSw); go_simp; (try with_reducible rfl)
      (try dsimp only [Act.put, List.setIfInBounds_toArray, List.set_cons_zero, List.set_cons_succ])
      refine wpAnyH_take (i := 24) (oi := _) (v := ?_) rfl (by kernel_rfl) (by kernel_rfl) (by kernel_rfl) (fun _ _ _ h => h) (Or.inl ⟨by kernel_rfl, ?_⟩) hHeld ?_
      rotate_left
      · intro w0 hSw; (try dsimp only at hSw); go_simp; (try with_reducible rfl)
      (try dsimp only [Act.put, List.setIfInBounds_toArray, List.set_cons_zero, List.set_cons_succ])
      refine wpAnyH_done (by kernel_rfl) ?_ _
      go_simp
      go_wp2_with fail
      all_goals
        go_ret
        refine ⟨?_, B1.out.trans ((drew1 W).below _)⟩
        show Ending.returned (Value.bool _) = _
        rw [HI.out, ha2, hb2]
        simp only [maxZ]
        split <;> first | rfl | omega
    · have hb2 : (b == 3) = false := by simp [hb]
      clear hb
      go_wp2_with fail
      refine wp_region_S (S := (fun w' => w'.cell? ⟨w.heap.size, 0, none⟩ = some (.int .i64 r) ∧ w'.cell? ⟨w.heap.size, 1, none⟩ = some (.int .i64 c) ∧ w'.cell? ⟨h1, 0, none⟩ = some (.int .i64 a) ∧ w'.cell? ⟨h1, 1, none⟩ = some (.int .i64 b))) 25 rfl (by kernel_rfl) ?_ (fun hHeld => ?_)
      · first | (exact ⟨k0, k1, k2, k3⟩) | ((try dsimp only); exact ⟨k0, k1, k2, k3⟩)
      refine wpAnyH_take (i := 0) (oi := _) (v := ?_) rfl (by kernel_rfl) (by kernel_rfl) (by kernel_rfl) (fun _ _ _ h => h) (Or.inl ⟨by kernel_rfl, ?_⟩) hHeld ?_
      rotate_left
      · intro w0 hSw; (try dsimp only at hSw); go_simp; (try with_reducible rfl)
      (try dsimp only [Act.put, List.setIfInBounds_toArray, List.set_cons_zero, List.set_cons_succ])
      refine wpAnyH_take (i := 1) (oi := _) (v := ?_) rfl (by kernel_rfl) (by kernel_rfl) (by kernel_rfl) (fun _ _ _ h => h) (Or.inl ⟨by kernel_rfl, ?_⟩) hHeld ?_
      rotate_left
      · intro w0 hSw; (try dsimp only at hSw); go_simp; (try with_reducible rfl)
      (try dsimp only [Act.put, List.setIfInBounds_toArray, List.set_cons_zero, List.set_cons_succ])
      refine wpAnyH_take (i := 2) (oi := _) (v := ?_) rfl (by kernel_rfl) (by kernel_rfl) (by kernel_rfl) (fun _ _ _ h => h) (Or.inl ⟨by kernel_rfl, ?_⟩) hHeld ?_
      rotate_left
      · intro w0 hSw; (try dsimp only at hSw); go_simp; (try with_reducible rfl)
      (try dsimp only [Act.put, List.setIfInBounds_toArray, List.set_cons_zero, List.set_cons_succ])
      refine wpAnyH_take (i := 3) (oi := _) (v := .bool false) rfl (by kernel_rfl) (by kernel_rfl) (by kernel_rfl) (fun _ _ _ h => h) (Or.inl ⟨by kernel_rfl, ?_⟩) hHeld ?_
      · intro w0 hSw; (try dsimp only at hSw); go_simp <;> (first | done | rfl | simp_all)
      (try dsimp only [Act.put, List.setIfInBounds_toArray, List.set_cons_zero, List.set_cons_succ])
      refine wpAnyH_take (i := 4) (oi := _) (v := ?_) rfl (by kernel_rfl) (by kernel_rfl) (by kernel_rfl) (fun _ _ _ h => h) (Or.inl ⟨by kernel_rfl, ?_⟩) hHeld ?_
      rotate_left
      · intro w0 hSw; (try dsimp only at hSw); go_simp; (try with_reducible rfl)
      (try dsimp only [Act.put, List.setIfInBounds_toArray, List.set_cons_zero, List.set_cons_succ])
      refine wpAnyH_take (i := 5) (oi := _) (v := ?_) rfl (by kernel_rfl) (by kernel_rfl) (by kernel_rfl) (fun _ _ _ h => h) (Or.inl ⟨by kernel_rfl, ?_⟩) hHeld ?_
      rotate_left
      · intro w0 hSw; (try dsimp only at hSw); go_simp; (try with_reducible rfl)
      (try dsimp only [Act.put, List.setIfInBounds_toArray, List.set_cons_zero, List.set_cons_succ])
      refine wpAnyH_take (i := 6) (oi := _) (v := ?_) rfl (by kernel_rfl) (by kernel_rfl) (by kernel_rfl) (fun _ _ _ h => h) (Or.inl ⟨by kernel_rfl, ?_⟩) hHeld ?_
      rotate_left
      · intro w0 hSw; (try dsimp only at hSw); go_simp; (try with_reducible rfl)
      (try dsimp only [Act.put, List.setIfInBounds_toArray, List.set_cons_zero, List.set_cons_succ])
      refine wpAnyH_take (i := 7) (oi := _) (v := ?_) rfl (by kernel_rfl) (by kernel_rfl) (by kernel_rfl) (fun _ _ _ h => h) (Or.inl ⟨by kernel_rfl, ?_⟩) hHeld ?_
      rotate_left
      · intro w0 hSw; (try dsimp only at hSw); go_simp; (try with_reducible rfl)
      (try dsimp only [Act.put, List.setIfInBounds_toArray, List.set_cons_zero, List.set_cons_succ])
      refine wpAnyH_take (i := 8) (oi := _) (v := .bool false) rfl (by kernel_rfl) (by kernel_rfl) (by kernel_rfl) (fun _ _ _ h => h) (Or.inl ⟨by kernel_rfl, ?_⟩) hHeld ?_
      · intro w0 hSw; (try dsimp only at hSw); go_simp <;> (first | done | rfl | simp_all)
      (try dsimp only [Act.put, List.setIfInBounds_toArray, List.set_cons_zero, List.set_cons_succ])
      refine wpAnyH_take (i := 9) (oi := _) (v := undef) rfl (by kernel_rfl) (by kernel_rfl) (by kernel_rfl) (fun _ _ _ h => h) (Or.inr ⟨by kernel_rfl, rfl⟩) hHeld ?_
      (try dsimp only [Act.put, List.setIfInBounds_toArray, List.set_cons_zero, List.set_cons_succ])
      refine wpAnyH_take (i := 10) (oi := _) (v := undef) rfl (by kernel_rfl) (by kernel_rfl) (by kernel_rfl) (fun _ _ _ h => h) (Or.inr ⟨by kernel_rfl, rfl⟩) hHeld ?_
      (try dsimp only [Act.put, List.setIfInBounds_toArray, List.set_cons_zero, List.set_cons_succ])
      refine wpAnyH_take (i := 11) (oi := _) (v := undef) rfl (by kernel_rfl) (by kernel_rfl) (by kernel_rfl) (fun _ _ _ h => h) (Or.inr ⟨by kernel_rfl, rfl⟩) hHeld ?_
      (try dsimp only [Act.put, List.setIfInBounds_toArray, List.set_cons_zero, List.set_cons_succ])
      refine wpAnyH_take (i := 12) (oi := _) (v := undef) rfl (by kernel_rfl) (by kernel_rfl) (by kernel_rfl) (fun _ _ _ h => h) (Or.inr ⟨by kernel_rfl, rfl⟩) hHeld ?_
      (try dsimp only [Act.put, List.setIfInBounds_toArray, List.set_cons_zero, List.set_cons_succ])
      refine wpAnyH_take (i := 13) (oi := _) (v := undef) rfl (by kernel_rfl) (by kernel_rfl) (by kernel_rfl) (fun _ _ _ h => h) (Or.inr ⟨by kernel_rfl, rfl⟩) hHeld ?_
      (try dsimp only [Act.put, List.setIfInBounds_toArray, List.set_cons_zero, List.set_cons_succ])
      refine wpAnyH_take (i := 14) (oi := _) (v := undef) rfl (by kernel_rfl) (by kernel_rfl) (by kernel_rfl) (fun _ _ _ h => h) (Or.inr ⟨by kernel_rfl, rfl⟩) hHeld ?_
      (try dsimp only [Act.put, List.setIfInBounds_toArray, List.set_cons_zero, List.set_cons_succ])
      refine wpAnyH_take (i := 15) (oi := _) (v := undef) rfl (by kernel_rfl) (by kernel_rfl) (by kernel_rfl) (fun _ _ _ h => h) (Or.inr ⟨by kernel_rfl, rfl⟩) hHeld ?_
      (try dsimp only [Act.put, List.setIfInBounds_toArray, List.set_cons_zero, List.set_cons_succ])
      refine wpAnyH_take (i := 16) (oi := _) (v := undef) rfl (by kernel_rfl) (by kernel_rfl) (by kernel_rfl) (fun _ _ _ h => h) (Or.inr ⟨by kernel_rfl, rfl⟩) hHeld ?_
      (try dsimp only [Act.put, List.setIfInBounds_toArray, List.set_cons_zero, List.set_cons_succ])
      refine wpAnyH_take (i := 17) (oi := _) (v := undef) rfl (by kernel_rfl) (by kernel_rfl) (by kernel_rfl) (fun _ _ _ h => h) (Or.inr ⟨by kernel_rfl, rfl⟩) hHeld ?_
      (try dsimp only [Act.put, List.setIfInBounds_toArray, List.set_cons_zero, List.set_cons_succ])
      refine wpAnyH_take (i := 18) (oi := _) (v := undef) rfl (by kernel_rfl) (by kernel_rfl) (by kernel_rfl) (fun _ _ _ h => h) (Or.inr ⟨by kernel_rfl, rfl⟩) hHeld ?_
      (try dsimp only [Act.put, List.setIfInBounds_toArray, List.set_cons_zero, List.set_cons_succ])
      refine wpAnyH_take (i := 19) (oi := _) (v := undef) rfl (by kernel_rfl) (by kernel_rfl) (by kernel_rfl) (fun _ _ _ h => h) (Or.inr ⟨by kernel_rfl, rfl⟩) hHeld ?_
      (try dsimp only [Act.put, List.setIfInBounds_toArray, List.set_cons_zero, List.set_cons_succ])
      refine wpAnyH_take (i := 20) (oi := _) (v := undef) rfl (by kernel_rfl) (by kernel_rfl) (by kernel_rfl) (fun _ _ _ h => h) (Or.inr ⟨by kernel_rfl, rfl⟩) hHeld ?_
      (try dsimp only [Act.put, List.setIfInBounds_toArray, List.set_cons_zero, List.set_cons_succ])
      refine wpAnyH_take (i := 21) (oi := _) (v := undef) rfl (by kernel_rfl) (by kernel_rfl) (by kernel_rfl) (fun _ _ _ h => h) (Or.inr ⟨by kernel_rfl, rfl⟩) hHeld ?_
      (try dsimp only [Act.put, List.setIfInBounds_toArray, List.set_cons_zero, List.set_cons_succ])
      refine wpAnyH_take (i := 22) (oi := _) (v := undef) rfl (by kernel_rfl) (by kernel_rfl) (by kernel_rfl) (fun _ _ _ h => h) (Or.inr ⟨by kernel_rfl, rfl⟩) hHeld ?_
      (try dsimp only [Act.put, List.setIfInBounds_toArray, List.set_cons_zero, List.set_cons_succ])
      refine wpAnyH_take (i := 23) (oi := _) (v := ?_) rfl (by kernel_rfl) (by kernel_rfl) (by kernel_rfl) (fun _ _ _ h => h) (Or.inl ⟨by kernel_rfl, ?_⟩) hHeld ?_
      rotate_left
      · intro w0 hSw; (try dsimp only at hSw); go_simp; (try with_reducible rfl)
      (try dsimp only [Act.put, List.setIfInBounds_toArray, List.set_cons_zero, List.set_cons_succ])
      refine wpAnyH_take (i := 24) (oi := _) (v := ?_) rfl (by kernel_rfl) (by kernel_rfl) (by kernel_rfl) (fun _ _ _ h => h) (Or.inl ⟨by kernel_rfl, ?_⟩) hHeld ?_
      rotate_left
      · intro w0 hSw; (try dsimp only at hSw); go_simp; (try with_reducible rfl)
      (try dsimp only [Act.put, List.setIfInBounds_toArray, List.set_cons_zero, List.set_cons_succ])
      refine wpAnyH_done (by kernel_rfl) ?_ _
      go_simp
      go_wp2_with fail
      all_goals
        go_ret
        refine ⟨?_, B1.out.trans ((drew1 W).below _)⟩
        show Ending.returned (Value.bool _) = _
        rw [HI.out, ha2, hb2]
        rfl
end Go.Proofs.YtdcmebegnekkcaaGreat
/-
  The other kinds of fixed cells, the blank grid and its cells, in the program.
-/
namespace Go.Proofs.YtdcmebegnekkcaaGreat
open Go.RowKit
set_option linter.unusedVariables false

theorem below_al1 (w : World) (a : Obj) : Below w.heap.size w (w.alloc a) := (Below.refl _ w).alloc (Nat.le_refl _) a
theorem pat2_any {n r c : Int} (hn : 17 ≤ n ∧ n ≤ 41) (hr : 0 ≤ r ∧ r < n) (hc : 0 ≤ c ∧ c < n) (w : World) :
    Calls Tryz.prog 196 #[.int .i64 n, plV r c] w fun e w' => (∃ x, 0 ≤ x ∧ e = .returned (.int .i64 x)) ∧ Below w.heap.size w w' := by
  have HM := Lib.hid (middle_any (r := r) (c := c) hn)
  have ha : 3 ≤ midZ n r ∧ midZ n r ≤ 41 := by unfold midZ; split <;> omega
  have hb : 3 ≤ midZ n c ∧ midZ n c ≤ 41 := by unfold midZ; split <;> omega
  generalize midZ n r = a at *
  generalize midZ n c = b at *
  have hwa := (wrp (x := r - a) (by omega)).2
  have hwb := (wrp (x := c - b) (by omega)).2
  have HF := Lib.hid (finder_any (r := r - a) (c := c - b) (by omega) (by omega))
  clear hn hr hc ha hb
  unfold plV at HM ⊢
  go_enter Tryz.func196, Tryz.ntmps196
  go_wp2_with fail
  refine (HM.out _).mono ?_
  rintro e w1 ⟨rfl, hb1⟩
  have hsz : w.heap.size + 1 ≤ w1.heap.size := by have := hb1.size; simpa using this
  have T0 := Lib.hid (((Tf.mkd w #[.int .i64 r, .int .i64 c] PlT).below hb1 (by simp)).below (Below.alloc (Below.refl w1.heap.size w1) (Nat.le_refl _) (.cells #[.int .i64 a, .int .i64 b] PlT)) (by omega))
  have T1 := Lib.hid (Tf.mkd w1 #[.int .i64 a, .int .i64 b] PlT)
  have B1 := Lib.hid ((((Below.refl _ w).alloc (Nat.le_refl _) (.cells #[.int .i64 r, .int .i64 c] PlT)).trans (hb1.mono (by simp))).alloc (by omega) (.cells #[.int .i64 a, .int .i64 b] PlT))
  clear hb1
  have k0 : (w1.alloc (.cells #[.int .i64 a, .int .i64 b] PlT)).cell? ⟨w.heap.size, 0, none⟩ = some (.int .i64 r) := T0.out.cell (i := 0) (by simp)
  have k1 : (w1.alloc (.cells #[.int .i64 a, .int .i64 b] PlT)).cell? ⟨w.heap.size, 1, none⟩ = some (.int .i64 c) := T0.out.cell (i := 1) (by simp)
  have k2 : (w1.alloc (.cells #[.int .i64 a, .int .i64 b] PlT)).cell? ⟨w1.heap.size, 0, none⟩ = some (.int .i64 a) := T1.out.cell (i := 0) (by simp)
  have k3 : (w1.alloc (.cells #[.int .i64 a, .int .i64 b] PlT)).cell? ⟨w1.heap.size, 1, none⟩ = some (.int .i64 b) := T1.out.cell (i := 1) (by simp)
  clear hsz T0 T1
  go_wp2_with fail
  refine (HF.out _).mono ?_
  rintro e w5 ⟨⟨x, hx, rfl⟩, rfl⟩
  have HX := Lib.hid hx
  clear hx
  go_wp2_with fail
  go_ret
  exact ⟨⟨x, HX.out, rfl⟩, B1.out⟩
theorem pat3_any {n r c : Int} (hn : 17 ≤ n ∧ n ≤ 41) (hr : 0 ≤ r ∧ r < n) (hc : 0 ≤ c ∧ c < n) (w : World) :
    Calls Tryz.prog 198 #[.int .i64 n, plV r c] w fun e w' => e = .returned (.bool (r == 6 && inR c 8 (n - 9))) ∧ Below w.heap.size w w' := by
  have hw9 := (wrp (x := n - 9) (by omega)).2
  have HI := Lib.hid (inRange_any c 8 (n - 9))
  have B1 := Lib.hid (below_al1 w (.cells #[.int .i64 r, .int .i64 c] PlT))
  clear hn hr hc
  unfold plV
  by_cases h6 : r = 6
  · subst h6
    generalize inR c 8 (n - 9) = I at *
    go_enter Tryz.func198, Tryz.ntmps198
    go_wp2_with fail
    refine (HI.out _).mono ?_
    rintro e w5 ⟨rfl, rfl⟩
    go_wp2_with fail
    all_goals
      go_ret
      exact ⟨by simp, B1.out⟩
  · have h62 : (r == 6) = false := by simp [h6]
    clear h6
    go_enter Tryz.func198, Tryz.ntmps198
    go_wp2_with fail
    go_ret
    exact ⟨by rw [h62]; rfl, B1.out⟩
theorem pat5_any {n r c : Int} (hn : 17 ≤ n ∧ n ≤ 41) (hr : 0 ≤ r ∧ r < n) (hc : 0 ≤ c ∧ c < n) (w : World) :
    Calls Tryz.prog 200 #[.int .i64 n, plV r c] w fun e w' => e = .returned (.bool (c == 6 && inR r 8 (n - 9))) ∧ Below w.heap.size w w' := by
  have hw9 := (wrp (x := n - 9) (by omega)).2
  have HI := Lib.hid (inRange_any r 8 (n - 9))
  have B1 := Lib.hid (below_al1 w (.cells #[.int .i64 r, .int .i64 c] PlT))
  clear hn hr hc
  unfold plV
  by_cases h6 : c = 6
  · subst h6
    generalize inR r 8 (n - 9) = I at *
    go_enter Tryz.func200, Tryz.ntmps200
    go_wp2_with fail
    refine (HI.out _).mono ?_
    rintro e w5 ⟨rfl, rfl⟩
    go_wp2_with fail
    all_goals
      go_ret
      exact ⟨by simp, B1.out⟩
  · have h62 : (c == 6) = false := by simp [h6]
    clear h6
    go_enter Tryz.func200, Tryz.ntmps200
    go_wp2_with fail
    go_ret
    exact ⟨by rw [h62]; rfl, B1.out⟩
theorem pat4_any {n r c : Int} (hn : 17 ≤ n ∧ n ≤ 41) (hr : 0 ≤ r ∧ r < n) (hc : 0 ≤ c ∧ c < n) (w : World) :
    Calls Tryz.prog 199 #[.int .i64 n, plV r c] w fun e w' => (∃ x, 0 ≤ x ∧ e = .returned (.int .i64 x)) ∧ Below w.heap.size w w' := by
  have hm : c.tmod 2 = c % 2 := Int.tmod_eq_emod_of_nonneg (by omega)
  have hw1 := (wrp (x := c % 2) (by omega)).2
  have hw2 := (wrp (x := 1 - c % 2) (by omega)).2
  have B1 := Lib.hid (below_al1 w (.cells #[.int .i64 r, .int .i64 c] PlT))
  have hx : 0 ≤ 1 - c % 2 := by omega
  have HX := Lib.hid hx
  clear hn hx
  unfold plV
  go_enter Tryz.func199, Tryz.ntmps199
  go_wp2_with fail
  go_ret
  exact ⟨⟨_, HX.out, rfl⟩, B1.out⟩
theorem pat6_any {n r c : Int} (hn : 17 ≤ n ∧ n ≤ 41) (hr : 0 ≤ r ∧ r < n) (hc : 0 ≤ c ∧ c < n) (w : World) :
    Calls Tryz.prog 201 #[.int .i64 n, plV r c] w fun e w' => (∃ x, 0 ≤ x ∧ e = .returned (.int .i64 x)) ∧ Below w.heap.size w w' := by
  have hm : r.tmod 2 = r % 2 := Int.tmod_eq_emod_of_nonneg (by omega)
  have hw1 := (wrp (x := r % 2) (by omega)).2
  have hw2 := (wrp (x := 1 - r % 2) (by omega)).2
  have B1 := Lib.hid (below_al1 w (.cells #[.int .i64 r, .int .i64 c] PlT))
  have hx : 0 ≤ 1 - r % 2 := by omega
  have HX := Lib.hid hx
  clear hn hx
  unfold plV
  go_enter Tryz.func201, Tryz.ntmps201
  go_wp2_with fail
  go_ret
  exact ⟨⟨_, HX.out, rfl⟩, B1.out⟩
theorem pat7_any {n r c : Int} (hn : 17 ≤ n ∧ n ≤ 41) (w : World) :
    Calls Tryz.prog 202 #[.int .i64 n, plV r c] w fun e w' => e = .returned (.bool (r == n - 8 && c == 8)) ∧ Below w.heap.size w w' := by
  have hw8 := (wrp (x := n - 8) (by omega)).2
  have B1 := Lib.hid (below_al1 w (.cells #[.int .i64 r, .int .i64 c] PlT))
  clear hn
  unfold plV
  go_enter Tryz.func202, Tryz.ntmps202
  go_wp2_with fail
  all_goals
    go_ret
    refine ⟨?_, below_al1 _ _⟩
    show Ending.returned (Value.bool _) = _
    simp [*]
theorem pat8_any {n r c : Int} (w : World) :
    Calls Tryz.prog 203 #[.int .i64 n, plV r c] w fun e w' => (∃ x, 0 ≤ x ∧ e = .returned (.int .i64 x)) ∧ Below w.heap.size w w' := by
  have B1 := Lib.hid (below_al1 w (.cells #[.int .i64 r, .int .i64 c] PlT))
  unfold plV
  go_enter Tryz.func203, Tryz.ntmps203
  go_wp2_with fail
  go_ret
  exact ⟨⟨1, by omega, rfl⟩, B1.out⟩
end Go.Proofs.YtdcmebegnekkcaaGreat
/-
  The fixed cells of a matrix size, in the program.
-/
namespace Go.Proofs.YtdcmebegnekkcaaGreat
open Go.RowKit
set_option linter.unusedVariables false

set_option maxHeartbeats 1000000 in
theorem gridSet_any {n r c : Nat} {x : Int} (hn : n ≤ 41) (hr : r < n) (hc : c < n) {w : World} {B G cap : Nat} {zs : List Int} (hO : OwnL w B (.slice (some ⟨G, 0, none⟩) (n * n) cap) zs) (hz : zs.length = n * n) :
    Calls Tryz.prog 185 #[.agg #[.int .i64 (n : Int), .int .i64 (n : Int), .slice (some ⟨G, 0, none⟩) (n * n) cap], plV (r : Int) (c : Int), .int .i64 x] w fun e w' => e = .returned (.tuple #[]) ∧ OwnL w' B (.slice (some ⟨G, 0, none⟩) (n * n) cap) (zs.set (r * n + c) x) ∧ Dr G w w' := by
  unfold plV
  have hm : r * n + c < n * n := by
    have := Nat.mul_le_mul_right n (show r + 1 ≤ n by omega)
    rw [Nat.add_mul] at this; omega
  have hm2 : n * n ≤ 1681 := Nat.mul_le_mul hn hn
  have e1 : (r : Int) * (n : Int) = ((r * n : Nat) : Int) := by push_cast; rfl
  have hrn : r * n ≤ 1681 := by omega
  have hw1 := (wrp (x := ((r * n : Nat) : Int)) (by omega)).2
  have hw2 := (wrp (x := ((r * n : Nat) : Int) + (c : Int)) (by omega)).2
  have e2 : ((r * n : Nat) : Int) + (c : Int) = ((r * n + c : Nat) : Int) := by push_cast; rfl
  generalize hk : r * n + c = k at *
  generalize r * n = rn at *
  generalize n * n = m at *
  have hO2 := hO.below ((below_al1 w (.cells #[.int .i64 (n : Int), .int .i64 (n : Int), .slice (some ⟨G, 0, none⟩) m cap] GrT)).alloc (by simp) (.cells #[.int .i64 (r : Int), .int .i64 (c : Int)] PlT))
  have hD2 : Dr G w ((w.alloc (.cells #[.int .i64 (n : Int), .int .i64 (n : Int), .slice (some ⟨G, 0, none⟩) m cap] GrT)).alloc (.cells #[.int .i64 (r : Int), .int .i64 (c : Int)] PlT)) := ((Dr.refl G w).alloc _).alloc _
  obtain ⟨g, cp, cur, he, -, -, -, -, hat⟩ := hO2.form (by omega)
  simp only [Value.slice.injEq, Option.some.injEq, Addr.mk.injEq, and_true] at he
  obtain ⟨rfl, -, rfl⟩ := he
  obtain ⟨kc, kf, -⟩ := hat.place (i := k) (by omega)
  have OS := Lib.hid (hO2.set (show k < zs.length by omega) x)
  have DS := Lib.hid (hD2.trans (Dr.set G k _ (.int .i64 x)))
  clear hO hO2 hat hD2
  go_enter Tryz.func185, Tryz.ntmps185
  go_wp2_with fail
  refine bodyPost_end (by simp [results]) rfl ⟨rfl, OS.out, DS.out⟩
/-- What a blank grid is. -/
def BlkE (n : Nat) (w w' : World) (e : Ending) : Prop :=
  ∃ G zs, e = .returned (.agg #[.int .i64 (n : Int), .int .i64 (n : Int), .slice (some ⟨G, 0, none⟩) (n * n) (n * n)]) ∧ OwnL w' w.heap.size (.slice (some ⟨G, 0, none⟩) (n * n) (n * n)) zs ∧ zs.length = n * n ∧ ∀ j, j < n * n → gi zs j = -1
set_option maxHeartbeats 4000000 in
theorem blank_any {m0 : Nat} (h1 : 1 ≤ m0) (h2 : m0 ≤ 41) (w : World) :
    Calls Tryz.prog 183 #[.int .i64 (m0 : Int), .int .i64 (m0 : Int), .int .i64 (-1)] w fun e w' => Below w.heap.size w w' ∧ BlkE m0 w w' e := by
  have hm2 : m0 * m0 ≤ 1681 := Nat.mul_le_mul h2 h2
  have hm0 : 0 < m0 * m0 := Nat.mul_pos h1 h1
  have e1 : (m0 : Int) * (m0 : Int) = ((m0 * m0 : Nat) : Int) := by push_cast; rfl
  unfold BlkE
  have HRES := Lib.hid (show Tryz.f183.results = #[.cell 6 GrT] by kernel_rfl)
  generalize m0 * m0 = m at *
  have hw := (wrp (x := ((m : Nat) : Int)) (by omega))
  have hwa := hw.1
  have hwb := hw.2
  clear hw h1 h2
  have hmk := fun w => run_make_ints w 25 Tryz.underlying25 ((m : Nat) : Int) (by omega) (by omega)
  simp only [Int.toNat_natCast] at hmk
  go_enter Tryz.func183, Tryz.ntmps183
  go_wp2_with fail
  have ha : (w.alloc (.cells #[.int .i64 0, .int .i64 0, .slice none 0 0] GrT)).heap.size = w.heap.size + 1 := by simp
  have hb : ((w.alloc (.cells #[.int .i64 0, .int .i64 0, .slice none 0 0] GrT)).alloc (.cells (madeCells #[.int .i64 0] m) 2)).heap.size = w.heap.size + 1 + 1 := by simp
  have O1 := OwnL.zeros (w.alloc (.cells #[.int .i64 0, .int .i64 0, .slice none 0 0] GrT)) (w.heap.size + 1) (by omega) m (by omega)
  rw [ha] at O1
  have O2 := O1.below ((Below.refl _ _).alloc (Nat.le_refl _) (.cells #[.int .i64 (m0 : Int), .int .i64 (m0 : Int), .slice (some ⟨w.heap.size + 1, 0, none⟩) m m] GrT))
  have T0 := ((Tf.mkd w #[.int .i64 0, .int .i64 0, .slice none 0 0] GrT).below (Below.alloc (Below.refl (w.heap.size + 1) _) (by omega) (.cells (madeCells #[.int .i64 0] m) 2)) (by omega)).below (Below.alloc (Below.refl (w.heap.size + 1) _) (by omega) (.cells #[.int .i64 (m0 : Int), .int .i64 (m0 : Int), .slice (some ⟨w.heap.size + 1, 0, none⟩) m m] GrT)) (by omega)
  have T1 := Tf.mkd ((w.alloc (.cells #[.int .i64 0, .int .i64 0, .slice none 0 0] GrT)).alloc (.cells (madeCells #[.int .i64 0] m) 2)) #[.int .i64 (m0 : Int), .int .i64 (m0 : Int), .slice (some ⟨w.heap.size + 1, 0, none⟩) m m] GrT
  rw [hb] at T1
  have B1 := Lib.hid (below_al3 w (.cells #[.int .i64 0, .int .i64 0, .slice none 0 0] GrT) (.cells (madeCells #[.int .i64 0] m) 2) (.cells #[.int .i64 (m0 : Int), .int .i64 (m0 : Int), .slice (some ⟨w.heap.size + 1, 0, none⟩) m m] GrT))
  have k2 : (((w.alloc (.cells #[.int .i64 0, .int .i64 0, .slice none 0 0] GrT)).alloc (.cells (madeCells #[.int .i64 0] m) 2)).alloc (.cells #[.int .i64 (m0 : Int), .int .i64 (m0 : Int), .slice (some ⟨w.heap.size + 1, 0, none⟩) m m] GrT)).cell? ⟨w.heap.size + 1 + 1, 2, none⟩ = some (.slice (some ⟨w.heap.size + 1, 0, none⟩) m m) := T1.cell (i := 2) (by simp)
  have S0 := Lib.hid (And.intro O2 (And.intro T0 T1))
  clear O1 O2 T0 T1 ha hb
  generalize ((w.alloc (.cells #[.int .i64 0, .int .i64 0, .slice none 0 0] GrT)).alloc (.cells (madeCells #[.int .i64 0] m) 2)).alloc (.cells #[.int .i64 (m0 : Int), .int .i64 (m0 : Int), .slice (some ⟨w.heap.size + 1, 0, none⟩) m m] GrT) = W at *
  go_wp2_with fail
  have HM := Lib.hid (And.intro hm2 hm0)
  clear hm0 hwa hwb e1 hmk k2
  go_loopw [19] (fun t wr => ∃ i : Nat, i ≤ m ∧ t = .int .i64 (i : Int) ∧ ∃ zs, Hid (OwnL wr (w.heap.size + 1) (.slice (some ⟨w.heap.size + 1, 0, none⟩) m m) zs) ∧ Hid (zs.length = m ∧ ∀ j, j < i → gi zs j = -1) ∧ Hid (Tf wr w.heap.size 3 GrT fun i => (#[.int .i64 0, .int .i64 0, .slice none 0 0] : Array Value)[i]!) ∧ Hid (Tf wr (w.heap.size + 1 + 1) 3 GrT fun i => (#[.int .i64 (m0 : Int), .int .i64 (m0 : Int), .slice (some ⟨w.heap.size + 1, 0, none⟩) m m] : Array Value)[i]!) ∧ Hid (Below w.heap.size w wr)) (fun t _ => m - (intOf t).toNat)
  case atStart => exact ⟨0, by omega, rfl, _, Lib.hid S0.out.1, Lib.hid ⟨by simp, by omega⟩, Lib.hid S0.out.2.1, Lib.hid S0.out.2.2, B1⟩
  case round =>
    obtain ⟨i, hi, rfl, zs, HO, HZ, HT, HG, HB⟩ := hrel
    have c2 : wr.cell? ⟨w.heap.size + 1 + 1, 2, none⟩ = some (.slice (some ⟨w.heap.size + 1, 0, none⟩) m m) := HG.out.cell (i := 2) (by omega)
    by_cases hlt : i < m
    · have hl2 : (i : Int) < (m : Int) := by omega
      have hiz : i < zs.length := by have := HZ.out.1; omega
      have hOO := HO.out
      obtain ⟨g, cp, cur, he, -, -, -, -, hat⟩ := hOO.form (by omega)
      simp only [Value.slice.injEq, Option.some.injEq, Addr.mk.injEq, and_true] at he
      obtain ⟨rfl, -, rfl⟩ := he
      obtain ⟨kc, kf, -⟩ := hat.place (i := i) (by have := HZ.out.1; omega)
      have OS := Lib.hid (hOO.set hiz (-1))
      have TS := Lib.hid (HT.out.other (show w.heap.size ≠ w.heap.size + 1 by omega) i (.int .i64 (-1)))
      have GS := Lib.hid (HG.out.other (show w.heap.size + 1 + 1 ≠ w.heap.size + 1 by omega) i (.int .i64 (-1)))
      have BS := Lib.hid (HB.out.setCell (p := ⟨w.heap.size + 1, i, none⟩) (Nat.le_succ _) (.int .i64 (-1)))
      have ZS := Lib.hid (show (zs.set i (-1)).length = m ∧ ∀ j, j < i + 1 → gi (zs.set i (-1)) j = -1 from ⟨by rw [List.length_set]; exact HZ.out.1, fun j hj => by
        rw [gi_set hiz]
        split
        · rfl
        · exact HZ.out.2 j (by omega)⟩)
      clear hOO hat
      go_wp2_with fail
      go_roundw
      case rel => exact ⟨i + 1, by omega, by go_num, _, OS, ZS, TS, GS, BS⟩
      case measure => simp [intOf]; omega
    · obtain rfl : i = m := by omega
      have c0 : wr.cell? ⟨w.heap.size + 1 + 1, 0, none⟩ = some (.int .i64 (m0 : Int)) := HG.out.cell (i := 0) (by omega)
      have c1 : wr.cell? ⟨w.heap.size + 1 + 1, 1, none⟩ = some (.int .i64 (m0 : Int)) := HG.out.cell (i := 1) (by omega)
      have d0 : wr.cell? ⟨w.heap.size, 0, none⟩ = some (.int .i64 0) := HT.out.cell (i := 0) (by omega)
      have d1 : wr.cell? ⟨w.heap.size, 1, none⟩ = some (.int .i64 0) := HT.out.cell (i := 1) (by omega)
      have d2 : wr.cell? ⟨w.heap.size, 2, none⟩ = some (.slice none 0 0) := HT.out.cell (i := 2) (by omega)
      have f0 := HT.out.fz 0
      have f1 := HT.out.fz 1
      have f2 := HT.out.fz 2
      have TS := Lib.hid (tf_obj (((HT.out.set 0 (.int .i64 (m0 : Int))).set 1 (.int .i64 (m0 : Int))).set 2 (.slice (some ⟨w.heap.size + 1, 0, none⟩) i i)) [.int .i64 (m0 : Int), .int .i64 (m0 : Int), .slice (some ⟨w.heap.size + 1, 0, none⟩) i i] rfl (fun i hi => by
        rcases (show i = 0 ∨ i = 1 ∨ i = 2 by omega) with rfl | rfl | rfl <;> rfl))
      have hne : ∀ k, (Value.slice (some ⟨w.heap.size + 1, 0, none⟩) i i).ownBlock = some k → k ≠ w.heap.size := fun k hk => by have := (HO.out.2.lt k hk).1; omega
      have OS := Lib.hid ((((HO.out.other (j := 0) (x := .int .i64 (m0 : Int)) hne).other (j := 1) (x := .int .i64 (m0 : Int)) hne).other (j := 2) (x := .slice (some ⟨w.heap.size + 1, 0, none⟩) i i) hne).lower (show w.heap.size ≤ w.heap.size + 1 by omega))
      have BS := Lib.hid (((HB.out.setCell (p := ⟨w.heap.size, 0, none⟩) (Nat.le_refl _) (.int .i64 (m0 : Int))).setCell (p := ⟨w.heap.size, 1, none⟩) (Nat.le_refl _) (.int .i64 (m0 : Int))).setCell (p := ⟨w.heap.size, 2, none⟩) (Nat.le_refl _) (.slice (some ⟨w.heap.size + 1, 0, none⟩) i i))
      clear hne
      go_wp2_with fail
      exact ret_cell1 HRES.out Tryz.underlying142 rfl (by kernel_rfl) rfl rfl TS.out ⟨BS.out, _, _, rfl, OS.out, HZ.out.1, HZ.out.2⟩
abbrev PtT : TypeId := 253
def patC : Array Value := #[.func (.func 193) #[] #[], .func (.func 196) #[] #[], .func (.func 198) #[] #[], .func (.func 199) #[] #[], .func (.func 200) #[] #[], .func (.func 201) #[] #[], .func (.func 202) #[] #[], .func (.func 203) #[] #[]]
theorem patterns_any (w : World) :
    Calls Tryz.prog 184 #[] w fun e w' => e = .returned (.slice (some ⟨w.heap.size, 0, none⟩) 4 4) ∧ w' = w.alloc (.cells patC PtT) := by
  go_enter Tryz.func184, Tryz.ntmps184
  go_wp2_with fail
  go_ret
  exact ⟨rfl, rfl⟩
end Go.Proofs.YtdcmebegnekkcaaGreat
