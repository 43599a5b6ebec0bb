/-
  The parts FamF, FamG, FamH, FamI.
-/
import Derived.Test.YtdcmebegnekkcaaGreatFama
/-
  The program's library: the walk of the closure that adds a family.
-/
namespace Go.Proofs.YtdcmebegnekkcaaGreat
open Go.RowKit
set_option linter.unusedVariables false

set_option maxHeartbeats 8000000 in
set_option maxRecDepth 100000 in
theorem addFam_any {k : Nat} (hk : k < 5) {w0 w : World} {Sb Vb M : Nat} {v : Value} {A C : Nat → Nat} (h : ShI w0 w Sb Vb M k v A C) {a c : Nat} (hR : FamR w k a c) (ha : M ≤ a) (hc : M ≤ c) (hne : v.ownBlock ≠ some a ∧ v.ownBlock ≠ some c) (hal : a < w.heap.size) (hcl : c < w.heap.size) :
    Calls Tryz.prog 152 #[.string (str (fnm k)), .int .i64 (fkd k), .int .i64 (fsq k), .int .i64 (fco k), .slice (some ⟨a, 0, none⟩) (fsz k).length (fsz k).length, .slice (some ⟨c, 0, none⟩) (flv k).length (flv k).length, .pointer (some ⟨Vb, 0, none⟩)] w
      fun e w' => e = .returned (.tuple #[]) ∧ ∃ v', ShI w0 w' Sb Vb M (k + 1) v' (fun i => if i = k then a else A i) (fun i => if i = k then c else C i) := by
  have H0 := Lib.hid h
  have R0 := Lib.hid hR
  clear h hR
  go_enter Tryz.func152, Tryz.ntmps152
  go_wp2_with fail
  refine (implFieldOf_at (flf k) _).mono ?_
  rintro e w1 ⟨rfl, hb1⟩
  obtain ⟨w2, hw2⟩ : ∃ w2, w1.alloc (.cells #[.int .i64 2, .int .i64 ((fpw k : Nat) : Int), .int .i64 (fg0 k)] FTa) = w2 := ⟨_, rfl⟩
  obtain ⟨Fb, hFb⟩ : ∃ Fb, w1.heap.size = Fb := ⟨_, rfl⟩
  have X2 : FB w2 Fb 2 ((fpw k : Nat) : Int) (fg0 k) := by rw [← hw2, ← hFb]; exact FB.new _ _ _ _
  have b12 : Below w1.heap.size w1 w2 := by rw [← hw2]; exact below1 _ _
  have b02 : Below w.heap.size w w2 := hb1.trans (b12.mono hb1.size)
  have h0own := H0.out.own
  have H2 := Lib.hid (H0.out.below b02)
  have R2 := Lib.hid (R0.out.below b02)
  have hal2 : a < w2.heap.size := Nat.lt_of_lt_of_le hal b02.size
  have hcl2 : c < w2.heap.size := Nat.lt_of_lt_of_le hcl b02.size
  have hFne : Fb ≥ w.heap.size := by rw [← hFb]; exact hb1.size
  clear hb1 b12 b02 H0 R0
  go_wp2_with fail
  (try rw [hw2]); (try rw [hFb])
  clear hw2 hFb
  have d0 : w2.cell? ⟨Vb, 0, none⟩ = some (.pointer (some ⟨Sb, 0, none⟩)) := H2.out.vb
  have d1 := X2.c0
  have d2 := X2.c1
  have d3 := X2.c2
  have d4 : w2.cell? ⟨Sb, 3, none⟩ = some v := H2.out.sh.cell (i := 3) (by omega)
  have hSl : Sb < w2.heap.size := H2.out.sh.lt
  obtain ⟨i0, hi, hz0, hz1, hz2⟩ := info_parts info_fam
  have HW := H2.out.below (show Below w2.heap.size w2 (w2.drew.alloc (.cells (fcs k a c).toArray FmT)) from (Drew.below (drew1 w2) _).alloc (Nat.le_refl _) _)
  have HRW := R2.out.below (show Below w2.heap.size w2 (w2.drew.alloc (.cells (fcs k a c).toArray FmT)) from (Drew.below (drew1 w2) _).alloc (Nat.le_refl _) _)
  obtain ⟨v', w', hrun, hown, hg, -, hloc⟩ := run_append_own_at (P := Tryz.prog) (w := w2.drew.alloc (.cells (fcs k a c).toArray FmT)) M 107 107 FmT i0 (.agg fmZ) 8 104 Tryz.underlying107 hi hz0 hz1 hz2 rfl (by decide)
    v k _ HW.own ⟨w2.heap.size, 0, none⟩ 1 1 (fcs k a c) rfl (fun j u hj => by
      have hh := heap_new w2.drew (.cells (fcs k a c).toArray FmT)
      have e : ((⟨w2.heap.size, 0, none⟩ : Addr).add j) = ⟨w2.heap.size, j, none⟩ := by simp [Addr.add]; intro h; omega
      rw [e, cell_of_heap (b := w2.heap.size) hh]
      simpa using hj) (fun u hu => by
      simp only [fcs, List.mem_cons, List.not_mem_nil, or_false] at hu
      rcases hu with rfl | rfl | rfl | rfl | rfl | rfl | rfl | rfl <;> rfl) (by unfold maxLen; omega) (by omega) HW.sz
  obtain ⟨g, cap2, rfl⟩ : ∃ g cap2, v' = .slice (some ⟨g, 0, none⟩) (k + 1) cap2 := by
    rcases hown.2 with ⟨-, h0⟩ | ⟨g, cap, cur, e, -⟩
    · omega
    · exact ⟨g, cap, e⟩
  have HM := Lib.hid (HW.more HRW ha hc hne (by show a < (w2.heap.push _).size; simp; omega) (by show c < (w2.heap.push _).size; simp; omega) hown hg (hloc.imp id (fun e => ⟨_, e, Nat.le_refl _⟩)))
  have hbl : ∀ q, v.ownBlock = some q → M ≤ q := fun q hq => (HW.own.lt q hq).1
  have hSv : v.ownBlock ≠ some Sb := fun e => by have := hbl Sb e; have := H2.out.sb; omega
  have hVv : v.ownBlock ≠ some Vb := fun e => by have := hbl Vb e; have := H2.out.vm; omega
  have hFv : v.ownBlock ≠ some Fb := fun e => by have h1 := (h0own.lt Fb e).2; omega
  have hS0 : Sb ≠ Vb := H2.out.sv
  have hSF : Sb ≠ Fb := by have := H2.out.sb; omega
  have old : ∀ q, q < w2.heap.size → v.ownBlock ≠ some q → w'.heap[q]? = w2.heap[q]? := fun q hq hn => (hg.block q (by show q < (w2.heap.push _).size; simp; omega) (fun e => hn e.symm)).trans (heap_alloc_old w2.drew _ hq)
  have hVl : Vb < w2.heap.size := World.block_lt_of_cell? _ _ d0
  have hFl : Fb < w2.heap.size := X2.lt
  have k0 : w'.cell? ⟨Vb, 0, none⟩ = some (.pointer (some ⟨Sb, 0, none⟩)) := (World.cell?_of_block (w := w2) (a := ⟨Vb, 0, none⟩) (old Vb hVl hVv)).trans d0
  have k1 := (World.cell?_of_block (w := w2) (a := ⟨Fb, 0, none⟩) (old Fb hFl hFv)).trans d1
  have k2 := (World.cell?_of_block (w := w2) (a := ⟨Fb, 1, none⟩) (old Fb hFl hFv)).trans d2
  have k3 := (World.cell?_of_block (w := w2) (a := ⟨Fb, 2, none⟩) (old Fb hFl hFv)).trans d3
  have k4 : w'.cell? ⟨Sb, 3, none⟩ = some v := (World.cell?_of_block (w := w2) (a := ⟨Sb, 3, none⟩) (old Sb hSl hSv)).trans d4
  have k5 : w'.frozen? ⟨Sb, 3, none⟩ = false := (World.frozen?_of_block (w := w2) (a := ⟨Sb, 3, none⟩) (old Sb hSl hSv)).trans (H2.out.sh.fz 3)
  have far : ∀ b o : Nat, b ≠ Sb → (w'.setCell ⟨Sb, 3, none⟩ (.slice (some ⟨g, 0, none⟩) (k + 1) cap2)).cell? ⟨b, o, none⟩ = w'.cell? ⟨b, o, none⟩ := fun b o hb => World.cell?_of_block (Below.heap_setCell _ _ _ _ hb)
  have m0 := (far Vb 0 (Ne.symm hS0)).trans k0
  have m1 := (far Fb 0 (Ne.symm hSF)).trans k1
  have m2 := (far Fb 1 (Ne.symm hSF)).trans k2
  have m3 := (far Fb 2 (Ne.symm hSF)).trans k3
  have HRUN := Lib.hid hrun
  clear hbl old far hg hown hloc HW HRW h0own hrun X2
  refine wp_region_S (S := (fun w' => w'.cell? ⟨Vb, 0, none⟩ = some (.pointer (some ⟨Sb, 0, none⟩)) ∧ w'.cell? ⟨Fb, 0, none⟩ = some (.int .i64 2) ∧ w'.cell? ⟨Fb, 1, none⟩ = some (.int .i64 ((fpw k : Nat) : Int)) ∧ w'.cell? ⟨Fb, 2, none⟩ = some (.int .i64 (fg0 k)))) 17 rfl (by kernel_rfl) ?_ (fun hHeld => ?_)
  · first | (exact ⟨d0, d1, d2, d3⟩) | ((try dsimp only); exact ⟨d0, d1, d2, d3⟩)
  refine wpAnyH_take (i := 0) (oi := _) (v := ?_) rfl (by kernel_rfl) (by kernel_rfl) (by kernel_rfl) (fun _ _ _ h => h) (Or.inl ⟨by kernel_rfl, ?_⟩) hHeld ?_
  rotate_left
  · intro w0 hSw; (try dsimp only at hSw); go_simp; (try with_reducible rfl)
  (try dsimp only [Act.put, List.setIfInBounds_toArray, List.set_cons_zero, List.set_cons_succ])
  refine wpAnyH_take (i := 1) (oi := _) (v := ?_) rfl (by kernel_rfl) (by kernel_rfl) (by kernel_rfl) (fun _ _ _ h => h) (Or.inl ⟨by kernel_rfl, ?_⟩) hHeld ?_
  rotate_left
  · intro w0 hSw; (try dsimp only at hSw); go_simp; (try with_reducible rfl)
  (try dsimp only [Act.put, List.setIfInBounds_toArray, List.set_cons_zero, List.set_cons_succ])
  refine wpAnyH_take (i := 2) (oi := _) (v := ?_) rfl (by kernel_rfl) (by kernel_rfl) (by kernel_rfl) (fun _ _ _ h => h) (Or.inl ⟨by kernel_rfl, ?_⟩) hHeld ?_
  rotate_left
  · intro w0 hSw; (try dsimp only at hSw); go_simp; (try with_reducible rfl)
  (try dsimp only [Act.put, List.setIfInBounds_toArray, List.set_cons_zero, List.set_cons_succ])
  refine wpAnyH_take (i := 3) (oi := _) (v := ?_) rfl (by kernel_rfl) (by kernel_rfl) (by kernel_rfl) (fun _ _ _ h => h) (Or.inl ⟨by kernel_rfl, ?_⟩) hHeld ?_
  rotate_left
  · intro w0 hSw; (try dsimp only at hSw); go_simp; (try with_reducible rfl)
  (try dsimp only [Act.put, List.setIfInBounds_toArray, List.set_cons_zero, List.set_cons_succ])
  refine wpAnyH_take (i := 5) (oi := _) (v := ?_) rfl (by kernel_rfl) (by kernel_rfl) (by kernel_rfl) (fun _ _ _ h => h) (Or.inl ⟨by kernel_rfl, ?_⟩) hHeld ?_
  rotate_left
  · intro w0 hSw; (try dsimp only at hSw); go_simp; (try with_reducible rfl)
  (try dsimp only [Act.put, List.setIfInBounds_toArray, List.set_cons_zero, List.set_cons_succ])
  refine wpAnyH_take (i := 6) (oi := _) (v := ?_) rfl (by kernel_rfl) (by kernel_rfl) (by kernel_rfl) (fun _ _ _ h => h) (Or.inl ⟨by kernel_rfl, ?_⟩) hHeld ?_
  rotate_left
  · intro w0 hSw; (try dsimp only at hSw); go_simp; (try with_reducible rfl)
  (try dsimp only [Act.put, List.setIfInBounds_toArray, List.set_cons_zero, List.set_cons_succ])
  refine wpAnyH_take (i := 7) (oi := _) (v := ?_) rfl (by kernel_rfl) (by kernel_rfl) (by kernel_rfl) (fun _ _ _ h => h) (Or.inl ⟨by kernel_rfl, ?_⟩) hHeld ?_
  rotate_left
  · intro w0 hSw; (try dsimp only at hSw); go_simp; (try with_reducible rfl)
  (try dsimp only [Act.put, List.setIfInBounds_toArray, List.set_cons_zero, List.set_cons_succ])
  refine wpAnyH_take (i := 8) (oi := _) (v := ?_) rfl (by kernel_rfl) (by kernel_rfl) (by kernel_rfl) (fun _ _ _ h => h) (Or.inl ⟨by kernel_rfl, ?_⟩) hHeld ?_
  rotate_left
  · intro w0 hSw; (try dsimp only at hSw); go_simp; (try with_reducible rfl)
  (try dsimp only [Act.put, List.setIfInBounds_toArray, List.set_cons_zero, List.set_cons_succ])
  refine wpAnyH_take (i := 9) (oi := _) (v := ?_) rfl (by kernel_rfl) (by kernel_rfl) (by kernel_rfl) (fun _ _ _ h => h) (Or.inl ⟨by kernel_rfl, ?_⟩) hHeld ?_
  rotate_left
  · intro w0 hSw; (try dsimp only at hSw); go_simp; (try with_reducible rfl)
  (try dsimp only [Act.put, List.setIfInBounds_toArray, List.set_cons_zero, List.set_cons_succ])
  refine wpAnyH_take (i := 10) (oi := _) (v := ?_) rfl (by kernel_rfl) (by kernel_rfl) (by kernel_rfl) (fun _ _ _ h => h) (Or.inl ⟨by kernel_rfl, ?_⟩) hHeld ?_
  rotate_left
  · intro w0 hSw; (try dsimp only at hSw); go_simp; (try with_reducible rfl)
  (try dsimp only [Act.put, List.setIfInBounds_toArray, List.set_cons_zero, List.set_cons_succ])
  refine wpAnyH_take (i := 11) (oi := _) (v := ?_) rfl (by kernel_rfl) (by kernel_rfl) (by kernel_rfl) (fun _ _ _ h => h) (Or.inl ⟨by kernel_rfl, ?_⟩) hHeld ?_
  rotate_left
  · intro w0 hSw; (try dsimp only at hSw); go_simp; (try with_reducible rfl)
  (try dsimp only [Act.put, List.setIfInBounds_toArray, List.set_cons_zero, List.set_cons_succ])
  refine wpAnyH_ready (rs := [4, 12]) (by kernel_rfl) (by simp) ?_
  refine AllReadyH.cons (o := _) rfl (fun K hK => ?_) (AllReadyH.cons (o := _) rfl (fun K hK => ?_) AllReadyH.nil)
  · go_simp
    refine hK.out _ _ ?_ (fun hHeld => ?_)
    · first | (first | exact hHeld | exact ⟨keep_cell (below1 _ _) hHeld.1, keep_cell (below1 _ _) hHeld.2.1, keep_cell (below1 _ _) hHeld.2.2.1, keep_cell (below1 _ _) hHeld.2.2.2⟩) | ((try dsimp only); first | exact hHeld | exact ⟨keep_cell (below1 _ _) hHeld.1, keep_cell (below1 _ _) hHeld.2.1, keep_cell (below1 _ _) hHeld.2.2.1, keep_cell (below1 _ _) hHeld.2.2.2⟩)
    clear hK K
    (try dsimp only [Act.put, List.setIfInBounds_toArray, List.set_cons_zero, List.set_cons_succ])
    refine wpAnyH_ready (rs := [12]) (by kernel_rfl) (by simp) ?_
    refine AllReadyH.cons (o := _) rfl (fun K hK => ?_) AllReadyH.nil
    go_simp
    refine hK.out _ _ ?_ (fun hHeld => ?_)
    · first | (first | exact hHeld | exact ⟨keep_cell (below1 _ _) hHeld.1, keep_cell (below1 _ _) hHeld.2.1, keep_cell (below1 _ _) hHeld.2.2.1, keep_cell (below1 _ _) hHeld.2.2.2⟩) | ((try dsimp only); first | exact hHeld | exact ⟨keep_cell (below1 _ _) hHeld.1, keep_cell (below1 _ _) hHeld.2.1, keep_cell (below1 _ _) hHeld.2.2.1, keep_cell (below1 _ _) hHeld.2.2.2⟩)
    clear hK K
    (try dsimp only [Act.put, List.setIfInBounds_toArray, List.set_cons_zero, List.set_cons_succ])
    refine wpAnyH_ready (rs := [13]) (by kernel_rfl) (by simp) ?_
    refine AllReadyH.cons (o := _) rfl (fun K hK => ?_) AllReadyH.nil
    refine step_app rfl _ _ _ rfl HRUN.out (by go_simp) (by go_simp) ?_
    refine hK.out _ _ ?_ (fun hHeld => ?_)
    · first | (exact ⟨k0, k1, k2, k3⟩) | ((try dsimp only); exact ⟨k0, k1, k2, k3⟩)
    clear hK K
    (try dsimp only [Act.put, List.setIfInBounds_toArray, List.set_cons_zero, List.set_cons_succ])
    refine wpAnyH_take (i := 14) (oi := _) (v := ?_) rfl (by kernel_rfl) (by kernel_rfl) (by kernel_rfl) (fun _ _ _ h => h) (Or.inl ⟨by kernel_rfl, ?_⟩) hHeld ?_
    rotate_left
    · intro w0 hSw; (try dsimp only at hSw); go_simp; (try with_reducible rfl)
    (try dsimp only [Act.put, List.setIfInBounds_toArray, List.set_cons_zero, List.set_cons_succ])
    refine wpAnyH_take (i := 15) (oi := _) (v := ?_) rfl (by kernel_rfl) (by kernel_rfl) (by kernel_rfl) (fun _ _ _ h => h) (Or.inl ⟨by kernel_rfl, ?_⟩) hHeld ?_
    rotate_left
    · intro w0 hSw; (try dsimp only at hSw); go_simp; (try with_reducible rfl)
    (try dsimp only [Act.put, List.setIfInBounds_toArray, List.set_cons_zero, List.set_cons_succ])
    refine wpAnyH_ready (rs := [16]) (by kernel_rfl) (by simp) ?_
    refine AllReadyH.cons (o := _) rfl (fun K hK => ?_) AllReadyH.nil
    go_simp
    refine hK.out _ _ ?_ (fun hHeld => ?_)
    · first | (exact ⟨m0, m1, m2, m3⟩) | ((try dsimp only); exact ⟨m0, m1, m2, m3⟩)
    clear hK K
    (try dsimp only [Act.put, List.setIfInBounds_toArray, List.set_cons_zero, List.set_cons_succ])
    refine wpAnyH_done (by kernel_rfl) ?_ _
    go_simp
    go_end0
    exact ⟨rfl, _, HM.out⟩
  · go_simp
    refine hK.out _ _ ?_ (fun hHeld => ?_)
    · first | (first | exact hHeld | exact ⟨keep_cell (below1 _ _) hHeld.1, keep_cell (below1 _ _) hHeld.2.1, keep_cell (below1 _ _) hHeld.2.2.1, keep_cell (below1 _ _) hHeld.2.2.2⟩) | ((try dsimp only); first | exact hHeld | exact ⟨keep_cell (below1 _ _) hHeld.1, keep_cell (below1 _ _) hHeld.2.1, keep_cell (below1 _ _) hHeld.2.2.1, keep_cell (below1 _ _) hHeld.2.2.2⟩)
    clear hK K
    (try dsimp only [Act.put, List.setIfInBounds_toArray, List.set_cons_zero, List.set_cons_succ])
    refine wpAnyH_ready (rs := [4]) (by kernel_rfl) (by simp) ?_
    refine AllReadyH.cons (o := _) rfl (fun K hK => ?_) AllReadyH.nil
    go_simp
    refine hK.out _ _ ?_ (fun hHeld => ?_)
    · first | (first | exact hHeld | exact ⟨keep_cell (below1 _ _) hHeld.1, keep_cell (below1 _ _) hHeld.2.1, keep_cell (below1 _ _) hHeld.2.2.1, keep_cell (below1 _ _) hHeld.2.2.2⟩) | ((try dsimp only); first | exact hHeld | exact ⟨keep_cell (below1 _ _) hHeld.1, keep_cell (below1 _ _) hHeld.2.1, keep_cell (below1 _ _) hHeld.2.2.1, keep_cell (below1 _ _) hHeld.2.2.2⟩)
    clear hK K
    (try dsimp only [Act.put, List.setIfInBounds_toArray, List.set_cons_zero, List.set_cons_succ])
    refine wpAnyH_ready (rs := [13]) (by kernel_rfl) (by simp) ?_
    refine AllReadyH.cons (o := _) rfl (fun K hK => ?_) AllReadyH.nil
    refine step_app rfl _ _ _ rfl HRUN.out (by go_simp) (by go_simp) ?_
    refine hK.out _ _ ?_ (fun hHeld => ?_)
    · first | (exact ⟨k0, k1, k2, k3⟩) | ((try dsimp only); exact ⟨k0, k1, k2, k3⟩)
    clear hK K
    (try dsimp only [Act.put, List.setIfInBounds_toArray, List.set_cons_zero, List.set_cons_succ])
    refine wpAnyH_take (i := 14) (oi := _) (v := ?_) rfl (by kernel_rfl) (by kernel_rfl) (by kernel_rfl) (fun _ _ _ h => h) (Or.inl ⟨by kernel_rfl, ?_⟩) hHeld ?_
    rotate_left
    · intro w0 hSw; (try dsimp only at hSw); go_simp; (try with_reducible rfl)
    (try dsimp only [Act.put, List.setIfInBounds_toArray, List.set_cons_zero, List.set_cons_succ])
    refine wpAnyH_take (i := 15) (oi := _) (v := ?_) rfl (by kernel_rfl) (by kernel_rfl) (by kernel_rfl) (fun _ _ _ h => h) (Or.inl ⟨by kernel_rfl, ?_⟩) hHeld ?_
    rotate_left
    · intro w0 hSw; (try dsimp only at hSw); go_simp; (try with_reducible rfl)
    (try dsimp only [Act.put, List.setIfInBounds_toArray, List.set_cons_zero, List.set_cons_succ])
    refine wpAnyH_ready (rs := [16]) (by kernel_rfl) (by simp) ?_
    refine AllReadyH.cons (o := _) rfl (fun K hK => ?_) AllReadyH.nil
    go_simp
    refine hK.out _ _ ?_ (fun hHeld => ?_)
    · first | (exact ⟨m0, m1, m2, m3⟩) | ((try dsimp only); exact ⟨m0, m1, m2, m3⟩)
    clear hK K
    (try dsimp only [Act.put, List.setIfInBounds_toArray, List.set_cons_zero, List.set_cons_succ])
    refine wpAnyH_done (by kernel_rfl) ?_ _
    go_simp
    go_end0
    exact ⟨rfl, _, HM.out⟩
end Go.Proofs.YtdcmebegnekkcaaGreat
/-
  The program's library: it is built once.
-/
namespace Go.Proofs.YtdcmebegnekkcaaGreat
open Go.RowKit
set_option linter.unusedVariables false

theorem make_func (fn : Fn) (first cap : Array Value) (w : World) : (Instr.makeFunc fn first cap).run Tryz.prog w = .ok (.func fn first cap) w := rfl
/-- Two new lists. -/
theorem fam_new (W : World) (k : Nat) : FamR ((W.alloc (.cells ((fsz k).map (Value.int .i64)).toArray 2)).alloc (.cells ((flv k).map (Value.int .i64)).toArray 2)) k W.heap.size (W.heap.size + 1) :=
  ⟨row_of_heap (heap_alloc2_old W _ _) rfl (by have := fsz_len k; omega), row_of_heap (heap_alloc2_new W _ _) rfl (by have := flv_len k; omega)⟩
theorem own_lt {w0 w : World} {Sb Vb M k : Nat} {v : Value} {A C : Nat → Nat} (h : ShI w0 w Sb Vb M k v A C) {q : Nat} (hq : w.heap.size ≤ q) : v.ownBlock ≠ some q := fun e => by have := (h.own.lt q e).2; omega
set_option maxHeartbeats 8000000 in
set_option maxRecDepth 100000 in
theorem build_any {w : World} {Sb : Nat} (hT : Tf w Sb 4 ShT (shF 0 1 (.slice none 0 0))) :
    Calls Tryz.prog 132 #[.pointer (some ⟨Sb, 0, none⟩)] w
      fun e w' => e = .returned (.tuple #[]) ∧ ∃ v A C, ShI (w.alloc (.cells #[.pointer (some ⟨Sb, 0, none⟩)] 170)) w' Sb w.heap.size (w.heap.size + 1) 5 v A C := by
  have hmf := make_func
  have HS := Lib.hid (show ShI (w.alloc (.cells #[.pointer (some ⟨Sb, 0, none⟩)] 170)) (w.alloc (.cells #[.pointer (some ⟨Sb, 0, none⟩)] 170)) Sb w.heap.size (w.heap.size + 1) 0 (.slice none 0 0) (fun _ => 0) (fun _ => 0) from
    ⟨World.ownsRow_nil _ _ _ _, hT.below (below1 w _) hT.lt, by go_simp, fun i hi => by omega, fun i hi => by omega, fun i hi => by omega, rfl, rfl, rfl, fun _ _ _ => rfl, by have := hT.lt; omega, by omega, by have := hT.lt; omega, by simp⟩)
  go_enter Tryz.func132, Tryz.ntmps132
  obtain ⟨w1, hw1⟩ : ∃ w1, w.alloc (.cells #[.pointer (some ⟨Sb, 0, none⟩)] 170) = w1 := ⟨_, rfl⟩
  rw [hw1] at HS
  have hw1b := Lib.hid hw1
  clear hT
  go_wp2_with fail
  (try rw [hw1])
  clear hw1
  have N0 := fam_new w1 0
  have b0 : Below w1.heap.size w1 ((w1.alloc (.cells ((fsz 0).map (Value.int .i64)).toArray 2)).alloc (.cells ((flv 0).map (Value.int .i64)).toArray 2)) := (below1 _ _).alloc (by simp) _
  refine (addFam_any (k := 0) (by omega) (HS.out.below b0) N0 (by have := HS.out.sz; omega) (by have := HS.out.sz; omega) ⟨own_lt HS.out (Nat.le_refl _), own_lt HS.out (by omega)⟩ (by simp; omega) (by simp)).mono ?_
  rintro e y1 ⟨rfl, v1, HS1⟩
  have HS1 := Lib.hid HS1
  clear N0 b0 HS
  go_wp2_with fail
  have N1 := fam_new y1 1
  have b1 : Below y1.heap.size y1 ((y1.alloc (.cells ((fsz 1).map (Value.int .i64)).toArray 2)).alloc (.cells ((flv 1).map (Value.int .i64)).toArray 2)) := (below1 _ _).alloc (by simp) _
  refine (addFam_any (k := 1) (by omega) (HS1.out.below b1) N1 (by have := HS1.out.sz; omega) (by have := HS1.out.sz; omega) ⟨own_lt HS1.out (Nat.le_refl _), own_lt HS1.out (by omega)⟩ (by simp; omega) (by simp)).mono ?_
  rintro e y2 ⟨rfl, v2, HS2⟩
  have HS2 := Lib.hid HS2
  clear N1 b1 HS1
  go_wp2_with fail
  have N2 := fam_new y2 2
  have b2 : Below y2.heap.size y2 ((y2.alloc (.cells ((fsz 2).map (Value.int .i64)).toArray 2)).alloc (.cells ((flv 2).map (Value.int .i64)).toArray 2)) := (below1 _ _).alloc (by simp) _
  refine (addFam_any (k := 2) (by omega) (HS2.out.below b2) N2 (by have := HS2.out.sz; omega) (by have := HS2.out.sz; omega) ⟨own_lt HS2.out (Nat.le_refl _), own_lt HS2.out (by omega)⟩ (by simp; omega) (by simp)).mono ?_
  rintro e y3 ⟨rfl, v3, HS3⟩
  have HS3 := Lib.hid HS3
  clear N2 b2 HS2
  go_wp2_with fail
  have N3 := fam_new y3 3
  have b3 : Below y3.heap.size y3 ((y3.alloc (.cells ((fsz 3).map (Value.int .i64)).toArray 2)).alloc (.cells ((flv 3).map (Value.int .i64)).toArray 2)) := (below1 _ _).alloc (by simp) _
  refine (addFam_any (k := 3) (by omega) (HS3.out.below b3) N3 (by have := HS3.out.sz; omega) (by have := HS3.out.sz; omega) ⟨own_lt HS3.out (Nat.le_refl _), own_lt HS3.out (by omega)⟩ (by simp; omega) (by simp)).mono ?_
  rintro e y4 ⟨rfl, v4, HS4⟩
  have HS4 := Lib.hid HS4
  clear N3 b3 HS3
  go_wp2_with fail
  have N4 := fam_new y4 4
  have b4 : Below y4.heap.size y4 ((y4.alloc (.cells ((fsz 4).map (Value.int .i64)).toArray 2)).alloc (.cells ((flv 4).map (Value.int .i64)).toArray 2)) := (below1 _ _).alloc (by simp) _
  refine (addFam_any (k := 4) (by omega) (HS4.out.below b4) N4 (by have := HS4.out.sz; omega) (by have := HS4.out.sz; omega) ⟨own_lt HS4.out (Nat.le_refl _), own_lt HS4.out (by omega)⟩ (by simp; omega) (by simp)).mono ?_
  rintro e y5 ⟨rfl, v5, HS5⟩
  have HS5 := Lib.hid HS5
  clear N4 b4 HS4
  go_wp2_with fail
  go_end0
  exact ⟨rfl, _, _, _, hw1b.out ▸ HS5.out⟩
end Go.Proofs.YtdcmebegnekkcaaGreat
/-
  The program's library: it is built once, and handed back.
-/
namespace Go.Proofs.YtdcmebegnekkcaaGreat
open Go.RowKit
set_option linter.unusedVariables false

/-- The shelf behind the call that fills it. -/
def ShE (w w' : World) (Sb : Nat) : Prop := ∃ (w5 : World) (v : Value) (A C : Nat → Nat), ShI ((w.setCell ⟨Sb, 1, none⟩ (.int .i32 1)).alloc (.cells #[.pointer (some ⟨Sb, 0, none⟩)] 170)) w5 Sb w.heap.size (w.heap.size + 1) 5 v A C ∧
  w' = (w5.drew.setCell ⟨Sb, 0, none⟩ (.int .u32 1)).setCell ⟨Sb, 1, none⟩ (.int .i32 0)
theorem load_zero {a : Addr} {w : World} (h : w.cell? a = some (.int .u32 0)) :
    Calls Tryz.prog 150 #[.pointer (some a)] w fun e w' => e = .returned (.bool false) ∧ w = w' := by
  have hl := run_call_load (P := Tryz.prog) Tryz.func158 (by kernel_rfl) (by kernel_rfl) (by kernel_rfl) .u32 (by kernel_rfl) h
  go_enter Tryz.func150, Tryz.ntmps150
  go_wp2_with fail
  go_ret
  exact ⟨rfl, rfl⟩
set_option maxRecDepth 100000 in
set_option maxHeartbeats 4000000 in
theorem slow_any {w : World} {Sb : Nat} (hT : Tf w Sb 4 ShT (shF 0 0 (.slice none 0 0))) :
    Calls Tryz.prog 151 #[.pointer (some ⟨Sb, 0, none⟩), .func (.func 132) #[.pointer (some ⟨Sb, 0, none⟩)] #[]] w fun e w' => e = .returned (.tuple #[]) ∧ ShE w w' Sb := by
  have c0 : w.cell? ⟨Sb, 0, none⟩ = some (.int .u32 0) := hT.cell (i := 0) (by omega)
  have c1 : w.cell? ⟨Sb, 1, none⟩ = some (.int .i32 0) := hT.cell (i := 1) (by omega)
  have f1 := hT.fz 1
  have T1 : Tf (w.setCell ⟨Sb, 1, none⟩ (.int .i32 1)) Sb 4 ShT (shF 0 1 (.slice none 0 0)) := (hT.set 1 (.int .i32 1)).congr fun i hi => by
    rcases (show i = 0 ∨ i = 1 ∨ i = 2 ∨ i = 3 by omega) with rfl | rfl | rfl | rfl <;> rfl
  have c01 : (w.setCell ⟨Sb, 1, none⟩ (.int .i32 1)).cell? ⟨Sb, 0, none⟩ = some (.int .u32 0) := T1.cell (i := 0) (by omega)
  have hnot : ∀ (x : Bool) (w : World), (Op.unary .not (.bool x)).run Tryz.prog w = .ok (.bool (!x)) w := fun _ _ => rfl
  have HB := Lib.hid (build_any T1)
  rw [show (w.setCell ⟨Sb, 1, none⟩ (.int .i32 1)).heap.size = w.heap.size by simp [World.setCell]] at HB
  clear T1
  go_enter_defers Tryz.func151, Tryz.ntmps151
  go_wp2_with (go_at_call 159; refine (lock_free ⟨Sb, 1, none⟩ _ (by go_simp) (by go_simp)).mono ?_; rintro e w' ⟨rfl, rfl⟩)
  refine (load_zero c01).mono ?_
  rintro e w2 ⟨rfl, rfl⟩
  go_wp2_with fail
  refine HB.out.mono ?_
  rintro e w5 ⟨rfl, v, A, C, hI⟩
  have HI := Lib.hid hI
  have d0 : w5.cell? ⟨Sb, 0, none⟩ = some (.int .u32 0) := hI.sh.cell (i := 0) (by omega)
  have d1 : w5.cell? ⟨Sb, 1, none⟩ = some (.int .i32 1) := hI.sh.cell (i := 1) (by omega)
  have g0 := hI.sh.fz 0
  have g1 := hI.sh.fz 1
  clear hI
  go_wp2_with fail
  simp only [bodyPostD]
  refine leaves_cons (f := 161) (args := #[.pointer (some ⟨Sb, 0, none⟩), .bool true]) (by simp) (by simp [go_sem]) ?_
  refine (store_deferred ⟨Sb, 0, none⟩ (.int .u32 0) .returning _ d0 g0).mono ?_
  rintro e u' w'' ⟨rfl, rfl, rfl⟩
  refine leaves_cons (f := 160) (args := #[.pointer (some ⟨Sb, 1, none⟩)]) (by simp [settle]) (by simp [go_sem]) ?_
  refine (unlock_deferred ⟨Sb, 1, none⟩ _ _ ?_ (by simp [g1])).mono ?_
  · refine (World.cell?_setCell_other _ ⟨Sb, 0, none⟩ ⟨Sb, 1, none⟩ _ (by simp)).trans ?_
    rw [World.cell?_drew]
    exact d1
  rintro e u' w'' ⟨rfl, rfl, rfl⟩
  simp only [Leaves, settle, results, Tryz.results151]
  exact ⟨_, by first | rfl | (simp; done) | (simp; rfl), rfl, w5, v, A, C, HI.out, rfl⟩
theorem do_any {w : World} {Sb : Nat} (hT : Tf w Sb 4 ShT (shF 0 0 (.slice none 0 0))) :
    Calls Tryz.prog 131 #[.pointer (some ⟨Sb, 0, none⟩), .func (.func 132) #[.pointer (some ⟨Sb, 0, none⟩)] #[]] w fun e w' => e = .returned (.tuple #[]) ∧ ShE w w' Sb := by
  have c0 : w.cell? ⟨Sb, 0, none⟩ = some (.int .u32 0) := hT.cell (i := 0) (by omega)
  have hnot : ∀ (x : Bool) (w : World), (Op.unary .not (.bool x)).run Tryz.prog w = .ok (.bool (!x)) w := fun _ _ => rfl
  have HT := Lib.hid hT
  clear hT
  go_enter Tryz.func131, Tryz.ntmps131
  go_wp2_with fail
  refine (load_zero c0).mono ?_
  rintro e w2 ⟨rfl, rfl⟩
  go_wp2_with fail
  refine (slow_any HT.out).mono ?_
  rintro e w3 ⟨rfl, hE⟩
  have HE := Lib.hid hE
  clear hE
  go_wp2_with fail
  go_end0
  exact ⟨rfl, HE.out⟩
/-- The library out of the filled shelf. -/
theorem ShI.lib {w0 w : World} {Sb Vb M : Nat} {v : Value} {A C : Nat → Nat} (h : ShI w0 w Sb Vb M 5 v A C) : LibAt w M v := by
  have hown := h.own
  rcases h.own.2 with ⟨-, h0⟩ | ⟨g, cap, cur, rfl, hg, hh, h5, hm, hs, ht⟩
  · omega
  · exact ⟨g, cap, rfl, h5, hm, lt_of_heap hh, hg, A, C, h.new, fun k hk => ⟨h.rows k hk, fun j hj => by rw [hown.cellAt _ (by omega), fcL_at A C hk hj]⟩⟩
theorem LibAt.dr {w w' : World} {M s : Nat} {v : Value} (h : LibAt w M v) (hd : Dr s w w') (hs : s < M) : LibAt w' M v := by
  obtain ⟨B, cap, rfl, h1, h2, hB, hM, A, C, hn, hk⟩ := h
  exact ⟨B, cap, rfl, h1, h2, Nat.lt_of_lt_of_le hB hd.size, hM, A, C, hn, fun k hk' => ⟨(hk k hk').1.dr hd (by have := hn k hk'; omega) (by have := hn k hk'; omega), fun j hj => by
    rw [← (hk k hk').2 j hj]
    exact World.cell?_of_block (w := w) (a := ⟨B, k * 8 + j, none⟩) (hd.block B hB (by omega))⟩⟩
theorem LibAt.low {w : World} {M M' : Nat} {v : Value} (h : LibAt w M v) (hM : M' ≤ M) : LibAt w M' v := by
  obtain ⟨B, cap, rfl, h1, h2, hB, hB2, A, C, hn, hk⟩ := h
  exact ⟨B, cap, rfl, h1, h2, hB, Nat.le_trans hM hB2, A, C, fun k hk' => ⟨Nat.le_trans hM (hn k hk').1, Nat.le_trans hM (hn k hk').2⟩, hk⟩
set_option maxHeartbeats 4000000 in
theorem implLibrary_any (w : World) :
    Calls Tryz.prog 123 #[] w fun e w' => ∃ v, e = .returned v ∧ Below w.heap.size w w' ∧ LibAt w' w.heap.size v := by
  have hmf := make_func
  have T0 := Lib.hid ((Tf.mkd w #[.int .u32 0, .int .i32 0, .int .u32 0, .slice none 0 0] ShT).congr (g := shF 0 0 (.slice none 0 0)) fun i hi => by
    have hi : i < 4 := hi
    rcases (show i = 0 ∨ i = 1 ∨ i = 2 ∨ i = 3 by omega) with rfl | rfl | rfl | rfl <;> rfl)
  have B0 := Lib.hid (below1 w (.cells #[.int .u32 0, .int .i32 0, .int .u32 0, .slice none 0 0] ShT))
  go_enter Tryz.func123, Tryz.ntmps123
  go_wp2_with fail
  refine (do_any T0.out).mono ?_
  rintro e w3 ⟨rfl, w5, v, A, C, hI, rfl⟩
  have hs : (w.alloc (.cells #[.int .u32 0, .int .i32 0, .int .u32 0, .slice none 0 0] ShT)).heap.size = w.heap.size + 1 := by simp
  have hL := hI.lib
  have c3 : w5.cell? ⟨w.heap.size, 3, none⟩ = some v := hI.sh.cell (i := 3) (by omega)
  have hD : Dr w.heap.size w5 ((w5.drew.setCell ⟨w.heap.size, 0, none⟩ (.int .u32 1)).setCell ⟨w.heap.size, 1, none⟩ (.int .i32 0)) := (Dr.of (Drew.below (drew1 w5) _)).trans ((Dr.set _ 0 _ _).trans (Dr.set _ 1 _ _))
  have HL := Lib.hid ((hL.dr hD (by rw [hs]; omega)).low (show w.heap.size ≤ _ by rw [hs]; omega))
  have hBl : Below w.heap.size w w5 := ⟨hI.os, hI.tape, hI.output, by have := hI.sz; rw [hs] at this; omega, fun k hk => by
    rw [hI.kp k (by rw [hs]; omega) (by omega)]
    exact (((below1 w _).setCell (p := ⟨w.heap.size, 1, none⟩) (Nat.le_refl _) _).alloc (by simp [World.setCell]) _).block k hk⟩
  have HBl := Lib.hid ((hBl.drew.setCell (p := ⟨w.heap.size, 0, none⟩) (Nat.le_refl _) (.int .u32 1)).setCell (p := ⟨w.heap.size, 1, none⟩) (Nat.le_refl _) (.int .i32 0))
  have c3' : ((w5.drew.setCell ⟨w.heap.size, 0, none⟩ (.int .u32 1)).setCell ⟨w.heap.size, 1, none⟩ (.int .i32 0)).cell? ⟨w.heap.size, 3, none⟩ = some v :=
    (World.cell?_setCell_other _ ⟨w.heap.size, 1, none⟩ ⟨w.heap.size, 3, none⟩ _ (by simp)).trans ((World.cell?_setCell_other _ ⟨w.heap.size, 0, none⟩ ⟨w.heap.size, 3, none⟩ _ (by simp)).trans c3)
  obtain ⟨w6, hw6⟩ : ∃ w6, (w5.drew.setCell ⟨w.heap.size, 0, none⟩ (.int .u32 1)).setCell ⟨w.heap.size, 1, none⟩ (.int .i32 0) = w6 := ⟨_, rfl⟩
  rw [hw6] at HL HBl c3'
  rw [hw6]
  clear hw6 hL hBl c3 hI hD hs
  go_wp2_with fail
  go_ret
  exact ⟨v, rfl, HBl.out, HL.out⟩
end Go.Proofs.YtdcmebegnekkcaaGreat
/-
  A family by its name, in the program.
-/
namespace Go.Proofs.YtdcmebegnekkcaaGreat
open Go.RowKit
set_option linter.unusedVariables false

set_option maxHeartbeats 8000000 in
set_option maxRecDepth 100000 in
theorem implFamilyNamed_any (x : List UInt8) (w : World) :
    Calls Tryz.prog 119 #[.string (str x)] w fun e w' => Below w.heap.size w w' ∧ FamE x w' e := by
  have T0 := Lib.hid (Tf.mkd w fmZ FmT)
  have B0 := Lib.hid (below1 w (.cells fmZ FmT))
  have HRES := Lib.hid (show Tryz.f119.results = #[.cell 2 FmT, .tmp 3] by kernel_rfl)
  go_enter Tryz.func119, Tryz.ntmps119
  go_wp2_with fail
  refine (implLibrary_any _).mono ?_
  rintro e w1 ⟨v, rfl, hb1, hL⟩
  have T1 := Lib.hid (T0.out.below hb1 T0.out.lt)
  have B1 := Lib.hid (B0.out.trans (hb1.mono B0.out.size))
  obtain ⟨B, cap, rfl, hc1, hc2, hB, -, A, C, hM, hK⟩ := hL
  have HK := Lib.hid hK
  obtain ⟨X, hX⟩ : ∃ X, w.heap.size = X := ⟨_, rfl⟩
  have HM := Lib.hid (show ∀ k, k < 5 → X + 1 ≤ A k ∧ X + 1 ≤ C k from fun k hk => by have := hM k hk; simp at this; omega)
  rw [hX] at T1 B1
  rw [hX]
  clear hb1 hK T0 B0 hM
  go_wp2_with fail
  have hB1 := Lib.hid hB
  go_loopw [8] (fun ti wr => ∃ i : Nat, i ≤ 5 ∧ ti = .int .i64 (i : Int) ∧ Hid (∀ k, k < i → fnm k ≠ x) ∧ Hid (Below w1.heap.size w1 wr)) (fun ti _ => 5 - (intOf ti).toNat)
  case atStart => exact ⟨0, by omega, rfl, Lib.hid (fun k hk => by omega), Lib.hid (Below.refl _ _)⟩
  case round =>
    obtain ⟨i, hi, rfl, hN, hBw⟩ := hrel
    have HK := Lib.hid (show ∀ k, k < 5 → FamR wr k (A k) (C k) ∧ ∀ j, j < 8 → wr.cell? ⟨B, k * 8 + j, none⟩ = (fcs k (A k) (C k))[j]? from fun k hk => ⟨(HK.out k hk).1.below hBw.out, fun j hj => (hBw.out.cell (p := ⟨B, k * 8 + j, none⟩) hB).trans ((HK.out k hk).2 j hj)⟩)
    have B1 := Lib.hid (B1.out.trans (hBw.out.mono (Nat.le_of_lt T1.out.lt)))
    have hB : B < wr.heap.size := Nat.lt_of_lt_of_le hB hBw.out.size
    have T1 := Lib.hid (T1.out.below hBw.out T1.out.lt)
    by_cases hlt : i < 5
    · have hc := fun j (hj : j < 8) => lib_cell HK.out hlt hj
      have HR := Lib.hid (HK.out i hlt).1
      have HNE := Lib.hid (show A i ≠ X ∧ C i ≠ X from by have := HM.out i hlt; omega)
      generalize A i = a at *
      generalize C i = c at *
      have hi5 : (i : Int) < 5 := by omega
      have g0 : wr.cell? ⟨B, i * 8, none⟩ = some (.string (str (fnm i))) := hc 0 (by omega)
      have g1 : wr.cell? ⟨B, i * 8 + 1, none⟩ = some (.int .i64 (fkd i)) := hc 1 (by omega)
      have g2 : wr.cell? ⟨B, i * 8 + 2, none⟩ = some (.int .i64 2) := hc 2 (by omega)
      have g3 : wr.cell? ⟨B, i * 8 + 3, none⟩ = some (.int .i64 ((fpw i : Nat) : Int)) := hc 3 (by omega)
      have g4 : wr.cell? ⟨B, i * 8 + 4, none⟩ = some (.int .i64 (fg0 i)) := hc 4 (by omega)
      have g5 : wr.cell? ⟨B, i * 8 + 5, none⟩ = some (.slice (some ⟨a, 0, none⟩) (fsz i).length (fsz i).length) := hc 5 (by omega)
      have g6 : wr.cell? ⟨B, i * 8 + 6, none⟩ = some (.int .i64 (fco i)) := hc 6 (by omega)
      have g7 : wr.cell? ⟨B, i * 8 + 7, none⟩ = some (.slice (some ⟨c, 0, none⟩) (flv i).length (flv i).length) := hc 7 (by omega)
      have hEB := str_eqB (fnm i) x
      have hXw : X < wr.heap.size := T1.out.lt
      have bC := below1 wr (.cells #[.string (str (fnm i)), .int .i64 (fkd i), .int .i64 2, .int .i64 ((fpw i : Nat) : Int), .int .i64 (fg0 i), .slice (some ⟨a, 0, none⟩) (fsz i).length (fsz i).length, .int .i64 (fco i), .slice (some ⟨c, 0, none⟩) (flv i).length (flv i).length] FmT)
      have TC := Lib.hid (T1.out.below bC T1.out.lt)
      have BC := Lib.hid (B1.out.trans (bC.mono (Nat.le_of_lt T1.out.lt)))
      have RC := Lib.hid (HR.out.below bC)
      have WC := Lib.hid (hBw.out.trans (bC.mono hBw.out.size))
      clear bC
      by_cases hx : fnm i = x
      · rw [decide_eq_true hx] at hEB
        have HX := Lib.hid hx
        clear hx
        have t0 := T1.out.cell (i := 0) (by decide)
        have t1 := T1.out.cell (i := 1) (by decide)
        have t2 := T1.out.cell (i := 2) (by decide)
        have t3 := T1.out.cell (i := 3) (by decide)
        have t4 := T1.out.cell (i := 4) (by decide)
        have t5 := T1.out.cell (i := 5) (by decide)
        have t6 := T1.out.cell (i := 6) (by decide)
        have t7 := T1.out.cell (i := 7) (by decide)
        have z := T1.out.fz
        have z0 := z 0
        have z1 := z 1
        have z2 := z 2
        have z3 := z 3
        have z4 := z 4
        have z5 := z 5
        have z6 := z 6
        have z7 := z 7
        have T8 := tf_set8 (show Tf wr X 8 FmT _ from T1.out) i a c
        have HS := Lib.hid (tf_obj (T8.below (below1 _ (.cells #[.string (str (fnm i)), .int .i64 (fkd i), .int .i64 2, .int .i64 ((fpw i : Nat) : Int), .int .i64 (fg0 i), .slice (some ⟨a, 0, none⟩) (fsz i).length (fsz i).length, .int .i64 (fco i), .slice (some ⟨c, 0, none⟩) (flv i).length (flv i).length] FmT)) T8.lt) (fcs i a c) rfl fun j hj => fcs_at i a c hj)
        have H8 := below_set8 B1.out (Nat.le_refl _) (.string (str (fnm i))) (.int .i64 (fkd i)) (.int .i64 2) (.int .i64 ((fpw i : Nat) : Int)) (.int .i64 (fg0 i)) (.slice (some ⟨a, 0, none⟩) (fsz i).length (fsz i).length) (.int .i64 (fco i)) (.slice (some ⟨c, 0, none⟩) (flv i).length (flv i).length)
        have HB := Lib.hid (H8.trans ((below1 _ (.cells #[.string (str (fnm i)), .int .i64 (fkd i), .int .i64 2, .int .i64 ((fpw i : Nat) : Int), .int .i64 (fg0 i), .slice (some ⟨a, 0, none⟩) (fsz i).length (fsz i).length, .int .i64 (fco i), .slice (some ⟨c, 0, none⟩) (flv i).length (flv i).length] FmT)).mono (Nat.le_of_lt T8.lt)))
        have HD := Lib.hid ((dr_set8 X wr (.string (str (fnm i))) (.int .i64 (fkd i)) (.int .i64 2) (.int .i64 ((fpw i : Nat) : Int)) (.int .i64 (fg0 i)) (.slice (some ⟨a, 0, none⟩) (fsz i).length (fsz i).length) (.int .i64 (fco i)) (.slice (some ⟨c, 0, none⟩) (flv i).length (flv i).length)).trans (Dr.of (below1 _ (.cells #[.string (str (fnm i)), .int .i64 (fkd i), .int .i64 2, .int .i64 ((fpw i : Nat) : Int), .int .i64 (fg0 i), .slice (some ⟨a, 0, none⟩) (fsz i).length (fsz i).length, .int .i64 (fco i), .slice (some ⟨c, 0, none⟩) (flv i).length (flv i).length] FmT))))
        clear T8 H8
        clear z hc
        go_wp2_with fail
        (try simp only [Exit.inBlock, Exit.then])
        exact ret_cell2 HRES.out Tryz.underlying90 rfl (by kernel_rfl) rfl rfl HS.out ⟨hX ▸ HB.out, .inl ⟨i, a, c, hlt, HX.out.symm, rfl, HR.out.dr HD.out HNE.out.1 HNE.out.2⟩⟩
      · rw [decide_eq_false hx] at hEB
        have HN2 := Lib.hid (show ∀ k, k < i + 1 → fnm k ≠ x from fun k hk => by
          by_cases e : k = i
          · rw [e]; exact hx
          · exact hN.out k (by omega))
        clear hx hc
        go_wp2_with fail
        go_roundw
        case rel => exact ⟨i + 1, by omega, by go_num, HN2, WC⟩
        case measure => simp [intOf]; omega
    · obtain rfl : i = 5 := by omega
      have t0 := T1.out.cell (i := 0) (by decide)
      have t1 := T1.out.cell (i := 1) (by decide)
      have t2 := T1.out.cell (i := 2) (by decide)
      have t3 := T1.out.cell (i := 3) (by decide)
      have t4 := T1.out.cell (i := 4) (by decide)
      have t5 := T1.out.cell (i := 5) (by decide)
      have t6 := T1.out.cell (i := 6) (by decide)
      have t7 := T1.out.cell (i := 7) (by decide)
      have z := T1.out.fz
      have z0 := z 0
      have z1 := z 1
      have z2 := z 2
      have z3 := z 3
      have z4 := z 4
      have z5 := z 5
      have z6 := z 6
      have z7 := z 7
      have HS := Lib.hid (tf_obj (tf_setZ (show Tf wr X 8 FmT _ from T1.out)) fmZ.toList rfl fun j hj => by rcases (show j = 0 ∨ j = 1 ∨ j = 2 ∨ j = 3 ∨ j = 4 ∨ j = 5 ∨ j = 6 ∨ j = 7 by omega) with rfl | rfl | rfl | rfl | rfl | rfl | rfl | rfl <;> rfl)
      have HB := Lib.hid (below_set8 B1.out (Nat.le_refl _) (.string { data := #[] }) (.int .i64 0) (.int .i64 0) (.int .i64 0) (.int .i64 0) (.slice none 0 0) (.int .i64 0) (.slice none 0 0))
      have HN5 := Lib.hid hN.out
      clear z
      go_wp2_with fail
      (try simp only [Exit.inBlock, Exit.then])
      exact ret_cell2 HRES.out Tryz.underlying90 rfl (by kernel_rfl) rfl rfl HS.out ⟨hX ▸ HB.out, .inr ⟨HN5.out, rfl⟩⟩
end Go.Proofs.YtdcmebegnekkcaaGreat
