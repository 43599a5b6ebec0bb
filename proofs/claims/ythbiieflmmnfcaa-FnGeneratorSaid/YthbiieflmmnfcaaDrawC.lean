/-
  The walks of the draws of codes.
-/
import Derived.Test.YthbiieflmmnfcaaDraw4
import Derived.Test.YthbiieflmmnfcaaPeel
namespace Go.Proofs.Ythbiieflmmnfcaa
open Go.RowKit
set_option linter.unusedVariables false

/-- Block B is a code that can be written. -/
structure CB (w : World) (B : Nat) (p pw g l c : Int) : Prop where
  blk : w.heap[B]? = some (.cells #[.int .i64 p, .int .i64 pw, .int .i64 g, .int .i64 l, .int .i64 c] CT (0, 0))
section
variable {w w' : World} {B C : Nat} {p pw g l c : Int}
theorem CB.new (w : World) (p pw g l c : Int) : CB (w.alloc (.cells #[.int .i64 p, .int .i64 pw, .int .i64 g, .int .i64 l, .int .i64 c] CT)) w.heap.size p pw g l c := ⟨heap_new _ _⟩
theorem CB.lt (h : CB w B p pw g l c) : B < w.heap.size := lt_of_heap h.blk
theorem CB.below (h : CB w B p pw g l c) (hb : Below C w w') (hC : B < C) : CB w' B p pw g l c := ⟨(hb.block B hC).trans h.blk⟩
theorem CB.dr {s : Nat} (h : CB w B p pw g l c) (hd : Dr s w w') (hn : B ≠ s) : CB w' B p pw g l c := ⟨(hd.block B h.lt hn).trans h.blk⟩
theorem CB.c0 (h : CB w B p pw g l c) : w.cell? ⟨B, 0, none⟩ = some (.int .i64 p) := by unfold World.cell?; rw [h.blk]; rfl
theorem CB.c1 (h : CB w B p pw g l c) : w.cell? ⟨B, 1, none⟩ = some (.int .i64 pw) := by unfold World.cell?; rw [h.blk]; rfl
theorem CB.c2 (h : CB w B p pw g l c) : w.cell? ⟨B, 2, none⟩ = some (.int .i64 g) := by unfold World.cell?; rw [h.blk]; rfl
theorem CB.c3 (h : CB w B p pw g l c) : w.cell? ⟨B, 3, none⟩ = some (.int .i64 l) := by unfold World.cell?; rw [h.blk]; rfl
theorem CB.c4 (h : CB w B p pw g l c) : w.cell? ⟨B, 4, none⟩ = some (.int .i64 c) := by unfold World.cell?; rw [h.blk]; rfl
theorem CB.fz (h : CB w B p pw g l c) (o : Nat) : w.frozen? ⟨B, o, none⟩ = false := by unfold World.frozen?; rw [h.blk]; simp
theorem CB.set0 (h : CB w B p pw g l c) (x : Int) : CB (w.setCell ⟨B, 0, none⟩ (.int .i64 x)) B x pw g l c := ⟨by rw [heap_setCell_self _ _ _ _ _ _ _ h.blk]; rfl⟩
theorem CB.set1 (h : CB w B p pw g l c) (x : Int) : CB (w.setCell ⟨B, 1, none⟩ (.int .i64 x)) B p x g l c := ⟨by rw [heap_setCell_self _ _ _ _ _ _ _ h.blk]; rfl⟩
theorem CB.set2 (h : CB w B p pw g l c) (x : Int) : CB (w.setCell ⟨B, 2, none⟩ (.int .i64 x)) B p pw x l c := ⟨by rw [heap_setCell_self _ _ _ _ _ _ _ h.blk]; rfl⟩
theorem CB.set3 (h : CB w B p pw g l c) (x : Int) : CB (w.setCell ⟨B, 3, none⟩ (.int .i64 x)) B p pw g x c := ⟨by rw [heap_setCell_self _ _ _ _ _ _ _ h.blk]; rfl⟩
theorem CB.set4 (h : CB w B p pw g l c) (x : Int) : CB (w.setCell ⟨B, 4, none⟩ (.int .i64 x)) B p pw g l x := ⟨by rw [heap_setCell_self _ _ _ _ _ _ _ h.blk]; rfl⟩
theorem CB.setF (h : CB w B p pw g l c) (x y z : Int) : CB (((w.setCell ⟨B, 0, none⟩ (.int .i64 x)).setCell ⟨B, 1, none⟩ (.int .i64 y)).setCell ⟨B, 2, none⟩ (.int .i64 z)) B x y z l c := ((h.set0 x).set1 y).set2 z
abbrev setC (w : World) (B : Nat) (p pw g l c : Int) : World := ((((w.setCell ⟨B, 0, none⟩ (.int .i64 p)).setCell ⟨B, 1, none⟩ (.int .i64 pw)).setCell ⟨B, 2, none⟩ (.int .i64 g)).setCell ⟨B, 3, none⟩ (.int .i64 l)).setCell ⟨B, 4, none⟩ (.int .i64 c)
theorem CB.set (h : CB w B p pw g l c) (p' pw' g' l' c' : Int) : CB (setC w B p' pw' g' l' c') B p' pw' g' l' c' := ((((h.set0 p').set1 pw').set2 g').set3 l').set4 c'
theorem CB.other (h : CB w B p pw g l c) {o : Nat} (hn : B ≠ C) (v : Value) : CB (w.setCell ⟨C, o, none⟩ v) B p pw g l c := ⟨(Below.heap_setCell _ _ _ _ hn).trans h.blk⟩
theorem setC_dr (s : Nat) {w0 : World} (h : Dr s w0 w) (hB : w0.heap.size ≤ B) : Dr s w0 (setC w B p pw g l c) :=
  ((((h.setNew hB 0 _).setNew hB 1 _).setNew hB 2 _).setNew hB 3 _).setNew hB 4 _
theorem setC_src {s : Nat} (h : Src w s) (hB : s < B) : Src (setC w B p pw g l c) s := ((((h.other hB 0 _).other hB 1 _).other hB 2 _).other hB 3 _).other hB 4 _
theorem setC_self (B : Nat) (w : World) : Dr B w (setC w B p pw g l c) := ((((Dr.set B 0 w _).trans (.set B 1 _ _)).trans (.set B 2 _ _)).trans (.set B 3 _ _)).trans (.set B 4 _ _)
theorem setC_below {A : Nat} {w0 : World} (h : Below A w0 w) (hB : A ≤ B) : Below A w0 (setC w B p pw g l c) :=
  ((((h.setCell (p := ⟨B, 0, none⟩) hB _).setCell (p := ⟨B, 1, none⟩) hB _).setCell (p := ⟨B, 2, none⟩) hB _).setCell (p := ⟨B, 3, none⟩) hB _).setCell (p := ⟨B, 4, none⟩) hB _
theorem setC_own {A : Nat} {v : Value} {zs : List Int} (h : OwnL w A v zs) (hB : B < A) : OwnL (setC w B p pw g l c) A v zs := h.dr (setC_self B w) hB
end
theorem set5_cell {w : World} {R X o : Nat} {v v0 v1 v2 v3 v4 : Value} (hn : X ≠ R) (h : w.cell? ⟨X, o, none⟩ = some v) : (((((w.setCell ⟨R, 0, none⟩ v0).setCell ⟨R, 1, none⟩ v1).setCell ⟨R, 2, none⟩ v2).setCell ⟨R, 3, none⟩ v3).setCell ⟨R, 4, none⟩ v4).cell? ⟨X, o, none⟩ = some v :=
  ((((((Dr.refl R w).trans (.set R 0 w v0)).trans (.set R 1 _ v1)).trans (.set R 2 _ v2)).trans (.set R 3 _ v3)).trans (.set R 4 _ v4)).cell h hn
noncomputable def szF (p pw g : Int) : Int := if validB p pw g = true then (ffOf p pw g).size else 1
theorem l02SizeF_any (p pw g : Int) (h : FldOk p pw g) (w : World) :
    Calls Try.prog 87 #[fV p pw g] w fun e w' => e = .returned (.int .i64 (szF p pw g)) ∧ Below w.heap.size w w' := by
  rcases h with h | ⟨rfl, rfl, rfl⟩
  · have := l02Size_any p pw g w (ranged_of h)
    unfold szF; rw [if_pos h]; exact this
  · have hn : validB 0 0 0 = false := by
      cases hv : validB 0 0 0
      · rfl
      · rcases ranged_of hv with ⟨h1, _⟩ | ⟨h1, _⟩ <;> omega
    have hf := Lib.hid (show szF 0 0 0 = 1 by unfold szF; rw [hn]; rfl)
    go_enter Try.func87, Try.ntmps87
    go_wp2
    go_ret
    exact ⟨ret_int hf.out.symm, below1 _ _⟩
theorem szF_bd (p pw g : Int) : 1 ≤ szF p pw g ∧ szF p pw g ≤ 1021 := by
  unfold szF; split
  · rename_i h; have := (ffOf_ok h).lo; have := (ffOf_ok h).hi; omega
  · omega
theorem szF_valid {p pw g : Int} (h : FldOk p pw g) (h5 : ¬ szF p pw g < 5) : validB p pw g = true := by
  cases hv : validB p pw g
  · unfold szF at h5; rw [hv] at h5; simp at h5
  · rfl
open Classical in
/-- What is left of the search for a field. -/
noncomputable def mzF (X : Nat) (wr : World) : Nat := if ∃ p pw g, FB wr X p pw g ∧ 5 ≤ szF p pw g then 0 else 1
theorem FB.uniq {w : World} {B : Nat} {p pw g p' pw' g' : Int} (h : FB w B p pw g) (h' : FB w B p' pw' g') : p = p' ∧ pw = pw' ∧ g = g' := by
  have e := h.blk.symm.trans h'.blk
  simpa using e
theorem mzF_no {X : Nat} {wr : World} {p pw g : Int} (h : FB wr X p pw g) (hz : szF p pw g < 5) : mzF X wr = 1 := by
  unfold mzF; rw [if_neg]
  rintro ⟨p', pw', g', h', hz'⟩
  obtain ⟨rfl, rfl, rfl⟩ := h.uniq h'
  omega
theorem mzF_yes {X : Nat} {wr : World} {p pw g : Int} (h : FB wr X p pw g) (hz : 5 ≤ szF p pw g) : mzF X wr = 0 := by
  unfold mzF; rw [if_pos ⟨_, _, _, h, hz⟩]
set_option maxHeartbeats 4000000 in
theorem l04Draw_any {w : World} {s : Nat} (hs : Src w s) :
    Calls Try.prog 148 #[.pointer (some ⟨s, 0, none⟩)] w fun e w' => ∃ p pw g l c, e = .returned (cV p pw g l c) ∧ validB p pw g = true ∧ 2 ≤ l ∧ l ≤ 15 ∧ 1 ≤ c ∧ c ≤ 15 ∧ Dr s w w' ∧ Src w' s := by
  have F0 := Lib.hid (CB.new w 0 0 0 0 0)
  have B0 := Lib.hid (below1 w (.cells #[.int .i64 0, .int .i64 0, .int .i64 0, .int .i64 0, .int .i64 0] CT))
  have hsz := hs.lt
  have HS := Lib.hid (hs.below B0.out)
  have D0 := Lib.hid (Dr.of (s := s) B0.out)
  have HRES := Lib.hid (show Try.f148.results = #[.cell 2 CT] by kernel_rfl)
  clear hs B0
  go_enter Try.func148, Try.ntmps148
  go_wp2_with fail
  generalize w.alloc (.cells #[.int .i64 0, .int .i64 0, .int .i64 0, .int .i64 0, .int .i64 0] CT) = w1 at *
  refine (l02Draw_any HS.out).mono ?_
  rintro e w2 ⟨p, pw, g, rfl, hfo, hd, hs2⟩
  have HF2 := Lib.hid ((F0.out.dr hd (by omega)).below (below1 w2 (.cells #[.int .i64 p, .int .i64 pw, .int .i64 g] FTa)) (F0.out.dr hd (by omega)).lt)
  have HD2 := Lib.hid ((D0.out.trans hd).alloc (.cells #[.int .i64 p, .int .i64 pw, .int .i64 g] FTa))
  have HS2 := Lib.hid (hs2.alloc (.cells #[.int .i64 p, .int .i64 pw, .int .i64 g] FTa))
  have HX2 := Lib.hid (FB.new w2 p pw g)
  have hx2 : w.heap.size < w2.heap.size := (F0.out.dr hd (by omega)).lt
  obtain ⟨X, hX⟩ : ∃ X, X = w2.heap.size := ⟨_, rfl⟩
  rw [← hX] at HX2 hx2
  have HFO := Lib.hid hfo
  clear hfo hd hs2 F0 HS D0
  go_wp2_with fail
  rw [← hX]
  clear hX
  generalize w2.alloc (.cells #[.int .i64 p, .int .i64 pw, .int .i64 g] FTa) = w3 at *
  have H7 := Lib.hid (fun W => FieldOf_any 7 (by omega) (by omega) W)
  go_loopw [] (fun wr => ∃ (p pw g : Int), Hid (FldOk p pw g) ∧ Hid (CB wr w.heap.size 0 0 0 0 0) ∧ Hid (FB wr X p pw g) ∧ Hid (Dr s w wr) ∧ Hid (Src wr s)) (fun wr => mzF X wr)
  case atStart => exact ⟨p, pw, g, HFO, HF2, HX2, HD2, HS2⟩
  case round =>
    clear HFO HF2 HX2 HD2 HS2
    obtain ⟨p, pw, g, HFO, HF, HX, HD, HS⟩ := hrel
    have x0 := HX.out.c0
    have x1 := HX.out.c1
    have x2 := HX.out.c2
    have hzb := szF_bd p pw g
    go_wp2_with fail
    refine (l02SizeF_any p pw g HFO.out _).mono ?_
    rintro e w4 ⟨rfl, hb4⟩
    have HF4 := Lib.hid (HF.out.below hb4 HF.out.lt)
    have HX4 := Lib.hid (HX.out.below hb4 HX.out.lt)
    have HD4 := Lib.hid (HD.out.more hb4)
    have HS4 := Lib.hid (HS.out.below hb4)
    have HM := Lib.hid (fun h => mzF_no HX.out h)
    clear hb4 HF HX HD HS x0 x1 x2
    by_cases h5 : szF p pw g < 5
    · have HM1 := Lib.hid (HM.out h5)
      go_wp2_with fail
      refine (H7.out _).mono ?_
      rintro e w5 ⟨p', pw', g', cd, rfl, hb5, hfo, h7⟩
      obtain ⟨hv7, rfl, rfl⟩ := h7 (by first | trivial | rfl)
      have HF5 := HF4.out.below hb5 HF4.out.lt
      have HX5 := HX4.out.below hb5 HX4.out.lt
      have HD5 := HD4.out.more hb5
      have HS5 := HS4.out.below hb5
      have y0 := HX5.c0
      have y1 := HX5.c1
      have y2 := HX5.c2
      have f0 := HX5.fz 0
      have f1 := HX5.fz 1
      have f2 := HX5.fz 2
      have hsX : s < X := by omega
      have HXn := Lib.hid (HX5.set 7 1 g')
      have HFn := Lib.hid (((HF5.other (C := X) (o := 0) (by omega) (.int .i64 7)).other (C := X) (o := 1) (by omega) (.int .i64 1)).other (C := X) (o := 2) (by omega) (.int .i64 g'))
      have HDn := Lib.hid (((HD5.setNew (B := X) (by omega) 0 (.int .i64 7)).setNew (B := X) (by omega) 1 (.int .i64 1)).setNew (B := X) (by omega) 2 (.int .i64 g'))
      have HSn := Lib.hid (((HS5.other hsX 0 (.int .i64 7)).other hsX 1 (.int .i64 1)).other hsX 2 (.int .i64 g'))
      have h75 : 5 ≤ szF 7 1 g' := by
        unfold szF; rw [if_pos hv7]; unfold ffOf; rw [if_pos rfl]; show (5 : Int) ≤ 7; omega
      have HM2 := Lib.hid (mzF_yes HXn.out h75)
      clear HF5 HX5 HD5 HS5 h75 h5
      go_wp2_with fail
      go_roundw
      case rel => exact ⟨7, 1, g', Lib.hid (.inl hv7), HFn, HXn, HDn, HSn⟩
      case measure => rw [HM1.out, HM2.out]; omega
    · have hv := szF_valid HFO.out h5
      have hX1 := szF_bd p pw g
      have x0 := HX4.out.c0
      have x1 := HX4.out.c1
      have x2 := HX4.out.c2
      have HV := Lib.hid hv
      clear hv
      go_wp2_with fail
      refine (l02SizeF_any p pw g HFO.out _).mono ?_
      rintro e w5 ⟨rfl, hb5⟩
      have HF5 := Lib.hid (HF4.out.below hb5 HF4.out.lt)
      have HX5 := Lib.hid (HX4.out.below hb5 HX4.out.lt)
      have HD5 := Lib.hid (HD4.out.more hb5)
      have HS5 := Lib.hid (HS4.out.below hb5)
      clear hb5 HF4 HX4 HD4 HS4 x0 x1 x2
      generalize szF p pw g = z at *
      go_wp2_with fail
      all_goals
        refine (l01Next_any HS5.out _ (by omega)).mono ?_
        rintro e w6 ⟨r, rfl, hr, hd, hs6⟩
        have hrb : 0 ≤ r ∧ r ≤ 13 := by have := hr.2 (by omega); omega
        have HF6 := Lib.hid (HF5.out.dr hd (by omega))
        have HX6 := Lib.hid (HX5.out.dr hd (by omega))
        have HD6 := Lib.hid (HD5.out.trans hd)
        have HS6 := Lib.hid hs6
        have hsX : X ≠ s := by omega
        have hRs : w.heap.size ≠ s := by omega
        have hRX : X ≠ w.heap.size := by omega
        clear hd hs6 HF5 HX5 HD5 HS5 hr
        have x0 := HX6.out.c0
        have x1 := HX6.out.c1
        have x2 := HX6.out.c2
        have TS := Lib.hid (HS6.out.drew (drew1 w6))
        have TX := Lib.hid (HX6.out.below (Drew.below (drew1 w6) _) HX6.out.lt)
        have QW := Lib.hid (show IntKind.i64.wrap (2 + r - 1) = r + 1 by rw [IntWalk.i64_in _ (by omega)]; omega)
        have HNX := Lib.hid (fun (t : Nat) => (l01Next_any TS.out (r + 1) (by omega)).mono (R' := fun e w' => ∃ x, e = .returned (.int .i64 x) ∧ (0 ≤ x ∧ x ≤ 14) ∧ Dr s w6.drew w' ∧ Src w' s) (fun e w' ⟨x, h1, h2, h3, h4⟩ => ⟨x, h1, (by
          by_cases hq : r + 1 ≤ 1
          · have := h2.1 hq; omega
          · have := h2.2 (by omega); omega), h3, h4⟩))
        have TF := Lib.hid (HF6.out.below (Drew.below (drew1 w6) _) HF6.out.lt)
        have TD := Lib.hid (HD6.out.drew (drew1 w6))
        go_wp2_with fail
        refine wp_region_last (S := (fun w' => w'.cell? ⟨X, 0, none⟩ = some (.int .i64 p) ∧ w'.cell? ⟨X, 1, none⟩ = some (.int .i64 pw) ∧ w'.cell? ⟨X, 2, none⟩ = some (.int .i64 g))) 8 (by kernel_rfl) rfl (by kernel_rfl) ?_ (fun hHeld => ?_)
        · (try dsimp only); exact ⟨x0, x1, x2⟩
        simp only [List.take_succ_cons, List.take_zero]
        refine wpAnyH_take (i := 0) (oi := _) (v := ?_) rfl (by kernel_rfl) (by kernel_rfl) (by kernel_rfl) (fun _ _ _ h => h) (Or.inl ⟨by rfl, ?_⟩) hHeld ?_
        rotate_left
        · intro w0 hSw; (try dsimp only at hSw); go_simp; (try with_reducible rfl)
        (try dsimp only [Act.put, List.setIfInBounds_toArray, List.set_cons_zero, List.set_cons_succ])
        refine wpAnyH_take (i := 1) (oi := _) (v := ?_) rfl (by kernel_rfl) (by kernel_rfl) (by kernel_rfl) (fun _ _ _ h => h) (Or.inl ⟨by rfl, ?_⟩) hHeld ?_
        rotate_left
        · intro w0 hSw; (try dsimp only at hSw); go_simp; (try with_reducible rfl)
        (try dsimp only [Act.put, List.setIfInBounds_toArray, List.set_cons_zero, List.set_cons_succ])
        refine wpAnyH_take (i := 2) (oi := _) (v := ?_) rfl (by kernel_rfl) (by kernel_rfl) (by kernel_rfl) (fun _ _ _ h => h) (Or.inl ⟨by rfl, ?_⟩) hHeld ?_
        rotate_left
        · intro w0 hSw; (try dsimp only at hSw); go_simp; (try with_reducible rfl)
        (try dsimp only [Act.put, List.setIfInBounds_toArray, List.set_cons_zero, List.set_cons_succ])
        refine wpAnyH_take (i := 3) (oi := _) (v := ?_) rfl (by kernel_rfl) (by kernel_rfl) (by kernel_rfl) (fun _ _ _ h => h) (Or.inl ⟨by rfl, ?_⟩) hHeld ?_
        rotate_left
        · intro w0 hSw; (try dsimp only at hSw); go_simp; (try with_reducible rfl)
        (try dsimp only [Act.put, List.setIfInBounds_toArray, List.set_cons_zero, List.set_cons_succ])
        refine wpAnyH_take (i := 4) (oi := _) (v := ?_) rfl (by kernel_rfl) (by kernel_rfl) (by kernel_rfl) (fun _ _ _ h => h) (Or.inl ⟨by rfl, ?_⟩) hHeld ?_
        rotate_left
        · intro w0 hSw; (try dsimp only at hSw); go_simp; (try with_reducible rfl)
        (try dsimp only [Act.put, List.setIfInBounds_toArray, List.set_cons_zero, List.set_cons_succ])
        refine wpAnyH_ready (rs := [5]) (by kernel_rfl) (by simp) ?_
        refine AllReadyH.cons (o := _) rfl (fun K hK => ?_) AllReadyH.nil
        go_simp
        rw [QW.out]
        refine (HNX.out 0).mono ?_
        rintro e w7 ⟨r2, rfl, hr2b, hd7, hs7⟩
        have TX7 := TX.out.dr hd7 hsX
        have k0 := TX7.c0
        have k1 := TX7.c1
        have k2 := TX7.c2
        have TF7 := TF.out.dr hd7 hRs
        have r0 := TF7.c0
        have r1 := TF7.c1
        have r2' := TF7.c2
        have r3 := TF7.c3
        have r4 := TF7.c4
        have f0 := TF7.fz 0
        have f1 := TF7.fz 1
        have f2 := TF7.fz 2
        have f3 := TF7.fz 3
        have f4 := TF7.fz 4
        go_wp2_with fail
        refine hK.out _ _ ?_ (fun hHeld => ?_)
        · (try dsimp only); exact ⟨k0, k1, k2⟩
        clear hK K
        (try dsimp only [Act.put, List.setIfInBounds_toArray, List.set_cons_zero, List.set_cons_succ])
        refine wpAnyH_take (i := 6) (oi := _) (v := ?_) rfl (by kernel_rfl) (by kernel_rfl) (by kernel_rfl) (fun _ _ _ h => h) (Or.inl ⟨by rfl, ?_⟩) hHeld ?_
        rotate_left
        · intro w0 hSw; (try dsimp only at hSw); go_simp; (try with_reducible rfl)
        (try dsimp only [Act.put, List.setIfInBounds_toArray, List.set_cons_zero, List.set_cons_succ])
        refine wpAnyH_take (i := 7) (oi := _) (v := ?_) rfl (by kernel_rfl) (by kernel_rfl) (by kernel_rfl) (fun _ _ _ h => h) (Or.inl ⟨by rfl, ?_⟩) hHeld ?_
        rotate_left
        · intro w0 hSw; (try dsimp only at hSw); go_simp; (try with_reducible rfl)
        (try dsimp only [Act.put, List.setIfInBounds_toArray, List.set_cons_zero, List.set_cons_succ])
        refine wpAnyH_done (by kernel_rfl) (lastQ_normal ?_) _
        have FF := Lib.hid (TF7.set p pw g (2 + r) (1 + r2))
        have DF := Lib.hid (setC_dr (B := w.heap.size) (p := p) (pw := pw) (g := g) (l := 2 + r) (c := 1 + r2) s (TD.out.trans hd7) (Nat.le_refl _))
        have SF := Lib.hid (setC_src (B := w.heap.size) (p := p) (pw := pw) (g := g) (l := 2 + r) (c := 1 + r2) hs7 hsz)
        clear k0 k1 k2 TX7 TF7 hd7 hs7
        go_wp2_with fail
        (try simp only [Exit.inBlock, Exit.then])
        exact ret_cell1 HRES.out Try.underlying40 rfl (by kernel_rfl) rfl rfl FF.out.blk ⟨_, _, _, _, _, rfl, HV.out, by omega, by omega, by omega, by omega, DF.out, SF.out⟩
end Go.Proofs.Ythbiieflmmnfcaa
