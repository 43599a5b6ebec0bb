/-
  The program reads a journal's line.
-/
import Derived.Test.YtmbphpmabopifaaDoorRcvB
import Derived.Deep.Cut
namespace Go.Proofs.YtmbphpmabopifaaDoor
open Go.RowKit
set_option linter.unusedVariables false

theorem RowU.v {w : World} {a : Option Addr} {n cap : Nat} {bs : List UInt8} (h : RowU w a n cap bs) : RowV w a bs :=
  ⟨fun e => List.eq_nil_of_length_eq_zero (by have := h.no e; have := h.le; have := h.len; omega), fun ad e j hj => (h.at' ad e).2 j hj⟩
theorem RowU.take {w : World} {a : Option Addr} {n cap : Nat} {p m : List UInt8} (h : RowU w a n cap (p ++ m)) : RowU w a p.length p.length p := by
  have hl := h.len
  rw [List.length_append] at hl
  refine ⟨rfl, Nat.le_refl _, fun e => by have := h.no e; have := h.le; omega, by have := h.le; have := h.small; omega, fun ad e => ⟨(h.at' ad e).1, fun j hj => ?_⟩⟩
  have h2 := (h.at' ad e).2 j (by rw [List.length_append]; omega)
  rw [List.getElem_append_left hj] at h2
  exact h2
/-- bytes.HasPrefix. -/
theorem prefix_any {w : World} {a a' : Option Addr} {n cap n' cap' : Nat} {bs ls : List UInt8} (h : RowU w a n cap bs) (h' : RowU w a' n' cap' ls) :
    Calls Tryd.prog 57 #[.slice a n cap, .slice a' n' cap'] w fun e w' => e = .returned (.bool (ls.isPrefixOf bs)) ∧ w = w' := by
  have k1 : Lib.BytesIn w a n (numL bs) := by
    cases a with
    | none => have := h.no rfl; have := h.le; obtain rfl : n = 0 := by omega
              exact Lib.BytesIn.nil _ _ _
    | some ad => exact Lib.BytesIn.of_cells h.num
  have k2 : Lib.BytesIn w a' n' (numL ls) := by
    cases a' with
    | none => have := h'.no rfl; have := h'.le; obtain rfl : n' = 0 := by omega
              exact Lib.BytesIn.nil _ _ _
    | some ad => exact Lib.BytesIn.of_cells h'.num
  refine (Tryd.bytes_HasPrefix_all a a' n cap n' cap' (numL bs) (numL ls) w (by rw [numL_length]; exact h.len) (by rw [numL_length]; exact h'.len) h.le k1 k2).mono fun e w' ⟨e1, e2⟩ => ⟨?_, e2.symm⟩
  rw [e1, numL_bytes, numL_bytes]; rfl
/-- What reading a line hands back. -/
def RdL (k : Nat) (s : Int) (rs : List UInt8) (e : Ending) : Prop := ∃ (x y : Int) (ok : Bool), e = .returned (.tuple #[rV x y, .bool ok]) ∧ (ok = true → recB x y = true ∧ (lineL (k : Int) (x, y) s ++ [10]) <+: rs) ∧ (ok = false → ∀ r : Int × Int, recB r.1 r.2 = true → ¬ (lineL (k : Int) r s ++ [10]) <+: rs)
set_option maxHeartbeats 4000000 in
set_option maxRecDepth 100000 in
theorem readLine_any (k : Nat) (hk : k ≤ 100000) {s : Int} (h0 : 0 ≤ s) (h1 : s < 65521) {w : World} {J n cap : Nat} {jv : Value} (hj : JB w J jv (k : Int) s) {a : Option Addr} {rs : List UInt8} (hr : RowU w a n cap rs) (hn : n ≤ 1000000) (hG : Glob w) :
    Calls Tryd.prog 42 #[.pointer (some ⟨J, 0, none⟩), .slice a n cap] w fun e w' => RdL k s rs e ∧ Below w.heap.size w w' := by
  have HRES := Lib.hid (show Tryd.f42.results = #[.cell 4 RT, .tmp 5] by kernel_rfl)
  have B1 := Lib.hid (below1 w (.cells #[.int .i64 0, .int .i64 0] RT))
  have R1 := Lib.hid (RB.new w 0 0)
  have J1 := Lib.hid (hj.below B1.out hj.lt)
  have U1 := Lib.hid (hr.below B1.out)
  have G1 := Lib.hid (hG.below B1.out)
  have hnl := hr.len
  clear hj hr hG
  go_enter Tryd.func42, Tryd.ntmps42
  go_wp2_with fail
  generalize w.alloc (.cells #[.int .i64 0, .int .i64 0] RT) = w1 at *
  have hw1 : w.heap.size < w1.heap.size := R1.out.lt
  refine (indexNL_any U1.out).mono ?_
  rintro e w1' ⟨rfl, rfl⟩
  by_cases h10 : (10 : UInt8) ∈ rs
  rotate_left
  · have hno : noB 10 rs := fun c hc e => h10 (e ▸ hc)
    rw [indexB_miss rs 10 hno]
    have HN := Lib.hid (show ∀ r : Int × Int, recB r.1 r.2 = true → ¬ (lineL (k : Int) r s ++ [10]) <+: rs from fun r _ h => h10 (h.subset (by simp)))
    have r0 := R1.out.c0
    have r1 := R1.out.c1
    have f0 := R1.out.fz 0
    have f1 := R1.out.fz 1
    clear h10 hno
    go_wp2_with fail
    (try simp only [Exit.inBlock, Exit.then])
    exact ret_cellJ2 HRES.out Tryd.underlying36 rfl (by kernel_rfl) rfl rfl (R1.out.set 0 0).blk ⟨⟨0, 0, false, rfl, (fun e => by cases e), fun _ => HN.out⟩, (B1.out.setCell (p := ⟨w.heap.size, 0, none⟩) (Nat.le_refl _) _).setCell (p := ⟨w.heap.size, 1, none⟩) (Nat.le_refl _) _⟩
  obtain ⟨p, m, rfl, hnp⟩ := first_cut rs h10
  rw [indexB_hit p m 10 hnp]
  have HP := Lib.hid (show ∀ r : Int × Int, recB r.1 r.2 = true → (lineL (k : Int) r s ++ [10]) <+: (p ++ 10 :: m) → p = lineL (k : Int) r s from fun r hr h => line_is (T := []) (m := m) rfl hnp (by omega) hr h0 h1 h)
  have HWD := Lib.hid (show ∀ r : Int × Int, recB r.1 r.2 = true → p = lineL (k : Int) r s → splitL 32 p = [Lib.itoa (k : Int), wrdL r.1, Lib.itoa r.2, Lib.itoa (sumL s (bodyL (k : Int) r))] from fun r hr e => by rw [e]; exact words_line (by omega) (recB_bd hr).2.2.1 h0 h1)
  rw [List.length_append] at hnl
  have hpn : p.length ≤ n := by omega
  have P1 := Lib.hid (U1.out.take)
  have hple : p.length ≤ cap := Nat.le_trans hpn U1.out.le
  have hcut : (if p.length = 0 then a else Option.map (fun x : Addr => x.add 0) a) = a := by
    split
    · rfl
    · cases a <;> simp [Addr.add]
  have hp0 : (0 : Int) ≤ (p.length : Int) := by omega
  clear h10 hnp
  go_wp2_with fail
  have BX := below1 w1 (.cells #[.int .u8 32] 5)
  have hg32 : (w1.alloc (.cells #[.int .u8 32] 5)).cell? ⟨w1.heap.size, 0, none⟩ = some (.int .u8 32) := by simp [go_sem]
  have hgl : w1.heap.size < (w1.alloc (.cells #[.int .u8 32] 5)).heap.size := by simp
  have P2 := Lib.hid (P1.out.below BX)
  have U2 := Lib.hid (U1.out.below BX)
  have J2 := Lib.hid (J1.out.below BX J1.out.lt)
  have R2 := Lib.hid (R1.out.below BX R1.out.lt)
  have G2 := Lib.hid (G1.out.below BX)
  have B2 := Lib.hid (B1.out.trans (BX.mono B1.out.size))
  clear BX P1 U1 J1 R1 G1 B1 hcut hp0 hple
  generalize w1.alloc (.cells #[.int .u8 32] 5) = w2 at *
  obtain ⟨mm, hmm⟩ := G2.out.ml
  refine (splitSP_any P2.out (by omega) hg32 hgl hmm).mono ?_
  rintro e w3 ⟨rfl, hb3, hlt3, hcells⟩
  have U3 := Lib.hid (U2.out.below hb3)
  have J3 := Lib.hid (J2.out.below hb3 J2.out.lt)
  have R3 := Lib.hid (R2.out.below hb3 R2.out.lt)
  have G3 := Lib.hid (G2.out.below hb3)
  have B3 := Lib.hid (B2.out.trans (hb3.mono B2.out.size))
  have HCS := Lib.hid hcells
  have HPL := Lib.hid (splitL_len 32 p)
  clear hb3 hcells U2 J2 R2 G2 B2 P2 hg32 hgl hmm
  generalize splitL 32 p = ps at *
  obtain ⟨G, hGe⟩ : ∃ G, w2.heap.size = G := ⟨_, rfl⟩
  rw [hGe] at HCS hlt3
  rw [hGe]
  clear hGe
  have r0 := R3.out.c0
  have r1 := R3.out.c1
  have f0 := R3.out.fz 0
  have f1 := R3.out.fz 1
  by_cases h4 : ps.length = 4
  rotate_left
  · have hne : (((ps.length : Nat) : Int) != 4) = true := by simp; omega
    have HN := Lib.hid (show ∀ r : Int × Int, recB r.1 r.2 = true → ¬ (lineL (k : Int) r s ++ [10]) <+: (p ++ 10 :: m) from fun r hr h => h4 (by rw [HWD.out r hr (HP.out r hr h)]; rfl))
    clear h4
    go_wp2_with fail
    (try simp only [Exit.inBlock, Exit.then])
    exact ret_cellJ2 HRES.out Tryd.underlying36 rfl (by kernel_rfl) rfl rfl (R3.out.set 0 0).blk ⟨⟨0, 0, false, rfl, (fun e => by cases e), fun _ => HN.out⟩, (B3.out.setCell (p := ⟨w.heap.size, 0, none⟩) (Nat.le_refl _) _).setCell (p := ⟨w.heap.size, 1, none⟩) (Nat.le_refl _) _⟩
  obtain ⟨p0, p1, p2, p3, rfl⟩ : ∃ a b c d, ps = [a, b, c, d] := by
    match ps, h4 with
    | [a, b, c, d], _ => exact ⟨a, b, c, d, rfl⟩
  obtain ⟨a1, cp1, hc1, hv1⟩ := HCS.out 1 (by simp)
  obtain ⟨a2, cp2, hc2, hv2⟩ := HCS.out 2 (by simp)
  simp only [List.getElem_cons_succ, List.getElem_cons_zero] at hc1 hv1 hc2 hv2
  have hp2 : p2.length ≤ 1000000 := Nat.le_trans (HPL.out p2 (by simp)) (by omega)
  have HW := Lib.hid (show ∀ r : Int × Int, recB r.1 r.2 = true → p = lineL (k : Int) r s → p1 = wrdL r.1 ∧ p2 = Lib.itoa r.2 from fun r hr e => by
    have := HWD.out r hr e
    simp only [List.cons.injEq] at this
    exact ⟨this.2.1, this.2.2.1⟩)
  have HC1 := Lib.hid hc1
  have HV1 := Lib.hid hv1
  have hcv2 := run_strV (cap := cp2) hv2
  simp only [List.length_cons, List.length_nil, Nat.zero_add, Nat.reduceAdd] at *
  clear HCS HPL HWD hc1 hv1 h4
  go_wp2_with fail
  refine (readDecimal_any p2 hp2 G3.out).mono ?_
  rintro e w5 ⟨⟨nv, bv, rfl, hv⟩, hb5⟩
  have U5 := Lib.hid (U3.out.below hb5)
  have J5 := Lib.hid (J3.out.below hb5 J3.out.lt)
  have R5 := Lib.hid (R3.out.below hb5 R3.out.lt)
  have G5 := Lib.hid (G3.out.below hb5)
  have B5 := Lib.hid (B3.out.trans (hb5.mono B3.out.size))
  have C5 := Lib.hid (keep_cell hb5 HC1.out)
  have V5 := Lib.hid (HV1.out.below hb5)
  have HNV := Lib.hid (show ∀ r : Int × Int, recB r.1 r.2 = true → p2 = Lib.itoa r.2 → nv = r.2 ∧ bv = true from fun r hr e => by
    have hb := recB_bd hr
    rw [itoa_nat hb.2.2.1] at e
    obtain ⟨e1, e2⟩ := hv r.2.toNat (by omega) e
    exact ⟨by rw [e1]; omega, e2⟩)
  clear hb5 U3 J3 R3 G3 B3 HC1 HV1 hv r0 r1 f0 f1 hc2 hv2 hcv2
  have r0 := R5.out.c0
  have r1 := R5.out.c1
  have f0 := R5.out.fz 0
  have f1 := R5.out.fz 1
  cases bv with
  | false =>
    have HN := Lib.hid (show ∀ r : Int × Int, recB r.1 r.2 = true → ¬ (lineL (k : Int) r s ++ [10]) <+: (p ++ 10 :: m) from fun r hr h => by
      have := (HNV.out r hr (HW.out r hr (HP.out r hr h)).2).2
      cases this)
    go_wp2_with fail
    (try simp only [Exit.inBlock, Exit.then])
    exact ret_cellJ2 HRES.out Tryd.underlying36 rfl (by kernel_rfl) rfl rfl (R5.out.set 0 0).blk ⟨⟨0, 0, false, rfl, (fun e => by cases e), fun _ => HN.out⟩, (B5.out.setCell (p := ⟨w.heap.size, 0, none⟩) (Nat.le_refl _) _).setCell (p := ⟨w.heap.size, 1, none⟩) (Nat.le_refl _) _⟩
  | true =>
    have HNW := Lib.hid (show ∀ r : Int × Int, recB r.1 r.2 = true → (lineL (k : Int) r s ++ [10]) <+: (p ++ 10 :: m) → p1 = wrdL r.1 ∧ nv = r.2 from fun r hr h => ⟨(HW.out r hr (HP.out r hr h)).1, (HNV.out r hr (HW.out r hr (HP.out r hr h)).2).1⟩)
    clear HW HNV HP r0 r1 f0 f1
    go_wp2_with fail
    have E5 := Lib.hid (Below.refl w5.heap.size w5)
    go_loopw [10] (fun tk wr => ∃ kd : Nat, tk = .int .i64 kd ∧ 1 ≤ kd ∧ kd ≤ 5 ∧ Hid (∀ j : Int, 1 ≤ j → j < (kd : Int) → p1 = wrdL j → recB j nv = false) ∧ Hid (Below w5.heap.size w5 wr)) (fun tk _ => 6 - (intOf tk).toNat)
    case atStart => exact ⟨1, rfl, by omega, by omega, Lib.hid (fun j h1 h2 => by exfalso; simp at h2; omega), E5⟩
    case round =>
      clear E5
      obtain ⟨kd, rfl, hk1, hk5, hinv, hb⟩ := hrel
      by_cases hlt : kd ≤ 4
      rotate_left
      · have hli : ¬ (kd : Int) ≤ 4 := by omega
        have HN := Lib.hid (show ∀ r : Int × Int, recB r.1 r.2 = true → ¬ (lineL (k : Int) r s ++ [10]) <+: (p ++ 10 :: m) from fun r hr h => by
          obtain ⟨e1, e2⟩ := HNW.out r hr h
          have hbr := recB_bd hr
          have := hinv.out r.1 hbr.1 (by omega) e1
          rw [e2, hr] at this
          cases this)
        have RR := Lib.hid (R5.out.below hb.out R5.out.lt)
        have BB := Lib.hid (B5.out.trans (hb.out.mono B5.out.size))
        have r0 := RR.out.c0
        have r1 := RR.out.c1
        have f0 := RR.out.fz 0
        have f1 := RR.out.fz 1
        go_wp2_with fail
        (try simp only [Exit.inBlock, Exit.then])
        exact ret_cellJ2 HRES.out Tryd.underlying36 rfl (by kernel_rfl) rfl rfl (RR.out.set 0 0).blk ⟨⟨0, 0, false, rfl, (fun e => by cases e), fun _ => HN.out⟩, (BB.out.setCell (p := ⟨w.heap.size, 0, none⟩) (Nat.le_refl _) _).setCell (p := ⟨w.heap.size, 1, none⟩) (Nat.le_refl _) _⟩
      have hli : (kd : Int) ≤ 4 := by omega
      obtain ⟨X, hX⟩ : ∃ X, X = wr.heap.size := ⟨_, rfl⟩
      have BX := below1 wr (.cells #[.int .i64 (kd : Int), .int .i64 nv] RT)
      have XX := Lib.hid (RB.new wr (kd : Int) nv)
      have hb2 := hb.out.trans (BX.mono hb.out.size)
      have UX := Lib.hid (U5.out.below hb2)
      have JX := Lib.hid (J5.out.below hb2 J5.out.lt)
      have RX := Lib.hid (R5.out.below hb2 R5.out.lt)
      have GX := Lib.hid (G5.out.below hb2)
      have BW := Lib.hid (B5.out.trans (hb2.mono B5.out.size))
      have CX := Lib.hid (keep_cell hb2 C5.out)
      have VX := Lib.hid (V5.out.below hb2)
      have EX := Lib.hid hb2
      have hXl : X < (wr.alloc (.cells #[.int .i64 (kd : Int), .int .i64 nv] RT)).heap.size := by rw [hX]; simp
      have hRX : w.heap.size < X := by have h1 := R5.out.lt; have h2 := hb.out.size; omega
      rw [← hX] at XX
      clear hb BX hb2
      go_upto_region 14 with (fail)
      rw [← hX]
      clear hX
      generalize wr.alloc (.cells #[.int .i64 (kd : Int), .int .i64 nv] RT) = wx at *
      have hXw : X < wx.heap.size := XX.out.lt
      have cG := CX.out
      have x0 := XX.out.c0
      have x1 := XX.out.c1
      have hkI : (1 : Int) ≤ (kd : Int) := by omega
      by_cases hw : p1 = wrdL (kd : Int)
      rotate_left
      · have hEB : ((str p1).toList == (str (wrdL (kd : Int))).toList) = false := by rw [str_eqB, decide_eq_false hw]
        have HI2 := Lib.hid (show ∀ j : Int, 1 ≤ j → j < ((kd + 1 : Nat) : Int) → p1 = wrdL j → recB j nv = false from fun j h1 h2 e => by
          by_cases hj : j < (kd : Int)
          · exact hinv.out j h1 hj e
          · obtain rfl : j = (kd : Int) := by omega
            exact absurd e hw)
        clear hw hinv
        refine wp_region_S (S := (fun w' => w'.cell? ⟨G, 1, none⟩ = some (.slice a1 p1.length cp1) ∧ RowV w' a1 p1 ∧ w'.cell? ⟨X, 0, none⟩ = some (.int .i64 (kd : Int)) ∧ w'.cell? ⟨X, 1, none⟩ = some (.int .i64 nv))) 12 rfl (by kernel_rfl) ?_ (fun hHeld => ?_)
        · first | (exact ⟨keep_cell (drewB _ _) cG, VX.out.below (drewB _ _), keep_cell (drewB _ _) x0, keep_cell (drewB _ _) x1⟩) | ((try dsimp only); exact ⟨keep_cell (drewB _ _) cG, VX.out.below (drewB _ _), keep_cell (drewB _ _) x0, keep_cell (drewB _ _) x1⟩)
        refine wpAnyH_take (i := 0) (oi := _) (v := ?_) rfl (by kernel_rfl) (by kernel_rfl) (by kernel_rfl) (fun _ _ _ h => h) (Or.inl ⟨by kernel_rfl, ?_⟩) hHeld ?_
        rotate_left
        · intro w0 hSw; (try dsimp only at hSw); go_simp; (try with_reducible rfl)
        (try dsimp only [Act.put, List.setIfInBounds_toArray, List.set_cons_zero, List.set_cons_succ])
        refine wpAnyH_take (i := 1) (oi := _) (v := ?_) rfl (by kernel_rfl) (by kernel_rfl) (by kernel_rfl) (fun _ _ _ h => h) (Or.inl ⟨by kernel_rfl, ?_⟩) hHeld ?_
        rotate_left
        · intro w0 hSw; (try dsimp only at hSw); go_simp; (try with_reducible rfl)
        (try dsimp only [Act.put, List.setIfInBounds_toArray, List.set_cons_zero, List.set_cons_succ])
        refine wpAnyH_take (i := 2) (oi := _) (v := ?_) rfl (by kernel_rfl) (by kernel_rfl) (by kernel_rfl) (fun _ _ _ h => h) (Or.inl ⟨by kernel_rfl, ?_⟩) hHeld ?_
        rotate_left
        · intro w0 hSw; (try dsimp only at hSw); go_simp; (try with_reducible rfl)
        (try dsimp only [Act.put, List.setIfInBounds_toArray, List.set_cons_zero, List.set_cons_succ])
        refine wpAnyH_take (i := 3) (oi := _) (v := .string (str p1)) rfl (by kernel_rfl) (by kernel_rfl) (by kernel_rfl) (fun _ _ _ h => h) (Or.inl ⟨by kernel_rfl, ?_⟩) hHeld ?_
        · intro w0 hSw; (try dsimp only at hSw); have hcv := run_strV (cap := cp1) hSw.2.1; go_simp
        (try dsimp only [Act.put, List.setIfInBounds_toArray, List.set_cons_zero, List.set_cons_succ])
        refine wpAnyH_take (i := 4) (oi := _) (v := ?_) rfl (by kernel_rfl) (by kernel_rfl) (by kernel_rfl) (fun _ _ _ h => h) (Or.inl ⟨by kernel_rfl, ?_⟩) hHeld ?_
        rotate_left
        · intro w0 hSw; (try dsimp only at hSw); go_simp; (try with_reducible rfl)
        (try dsimp only [Act.put, List.setIfInBounds_toArray, List.set_cons_zero, List.set_cons_succ])
        refine wpAnyH_ready (rs := [5]) (by kernel_rfl) (by simp) ?_
        refine AllReadyH.cons (o := _) rfl (fun K hK => ?_) AllReadyH.nil
        go_simp
        refine (recordWord_any (kd : Int) hkI hli _).mono ?_
        rintro e wy ⟨rfl, rfl⟩
        refine hK.out _ _ ?_ (fun hHeld => ?_)
        · first | (exact hHeld) | ((try dsimp only); exact hHeld)
        clear hK K
        (try dsimp only [Act.put, List.setIfInBounds_toArray, List.set_cons_zero, List.set_cons_succ])
        refine wpAnyH_take (i := 6) (oi := _) (v := .bool true) rfl (by kernel_rfl) (by kernel_rfl) (by kernel_rfl) (fun _ _ _ h => h) (Or.inl ⟨by kernel_rfl, ?_⟩) hHeld ?_
        · intro w0 hSw; (try dsimp only at hSw); go_simp <;> (first | done | simp [hEB])
        (try dsimp only [Act.put, List.setIfInBounds_toArray, List.set_cons_zero, List.set_cons_succ])
        refine wpAnyH_take (i := 7) (oi := _) (v := .bool true) rfl (by kernel_rfl) (by kernel_rfl) (by kernel_rfl) (fun _ _ _ h => h) (Or.inl ⟨by kernel_rfl, ?_⟩) hHeld ?_
        · intro w0 hSw; (try dsimp only at hSw); go_simp <;> (first | done | simp)
        (try dsimp only [Act.put, List.setIfInBounds_toArray, List.set_cons_zero, List.set_cons_succ])
        refine wpAnyH_take (i := 8) (oi := _) (v := undef) rfl (by kernel_rfl) (by kernel_rfl) (by kernel_rfl) (fun _ _ _ h => h) (Or.inr ⟨by kernel_rfl, rfl⟩) hHeld ?_
        (try dsimp only [Act.put, List.setIfInBounds_toArray, List.set_cons_zero, List.set_cons_succ])
        refine wpAnyH_take (i := 9) (oi := _) (v := undef) rfl (by kernel_rfl) (by kernel_rfl) (by kernel_rfl) (fun _ _ _ h => h) (Or.inr ⟨by kernel_rfl, rfl⟩) hHeld ?_
        (try dsimp only [Act.put, List.setIfInBounds_toArray, List.set_cons_zero, List.set_cons_succ])
        refine wpAnyH_take (i := 10) (oi := _) (v := undef) rfl (by kernel_rfl) (by kernel_rfl) (by kernel_rfl) (fun _ _ _ h => h) (Or.inr ⟨by kernel_rfl, rfl⟩) hHeld ?_
        (try dsimp only [Act.put, List.setIfInBounds_toArray, List.set_cons_zero, List.set_cons_succ])
        refine wpAnyH_take (i := 11) (oi := _) (v := ?_) rfl (by kernel_rfl) (by kernel_rfl) (by kernel_rfl) (fun _ _ _ h => h) (Or.inl ⟨by kernel_rfl, ?_⟩) hHeld ?_
        rotate_left
        · intro w0 hSw; (try dsimp only at hSw); go_simp; (try with_reducible rfl)
        (try dsimp only [Act.put, List.setIfInBounds_toArray, List.set_cons_zero, List.set_cons_succ])
        refine wpAnyH_done (by kernel_rfl) ?_ _
        go_simp
        have E2 := Lib.hid (EX.out.trans (drewB wx _))
        clear hHeld cG x0 x1
        go_wp2_with fail
        go_roundw
        case rel => exact ⟨kd + 1, by go_num, by omega, by omega, HI2, E2⟩
        case measure => simp [intOf]; omega
      · have hEB : ((str p1).toList == (str (wrdL (kd : Int))).toList) = true := by rw [str_eqB, decide_eq_true hw]
        have HWB := Lib.hid hw
        clear hw
        refine wp_region_S (S := (fun w' => w'.cell? ⟨G, 1, none⟩ = some (.slice a1 p1.length cp1) ∧ RowV w' a1 p1 ∧ w'.cell? ⟨X, 0, none⟩ = some (.int .i64 (kd : Int)) ∧ w'.cell? ⟨X, 1, none⟩ = some (.int .i64 nv))) 12 rfl (by kernel_rfl) ?_ (fun hHeld => ?_)
        · first | (exact ⟨keep_cell (drewB _ _) cG, VX.out.below (drewB _ _), keep_cell (drewB _ _) x0, keep_cell (drewB _ _) x1⟩) | ((try dsimp only); exact ⟨keep_cell (drewB _ _) cG, VX.out.below (drewB _ _), keep_cell (drewB _ _) x0, keep_cell (drewB _ _) x1⟩)
        refine wpAnyH_take (i := 0) (oi := _) (v := ?_) rfl (by kernel_rfl) (by kernel_rfl) (by kernel_rfl) (fun _ _ _ h => h) (Or.inl ⟨by kernel_rfl, ?_⟩) hHeld ?_
        rotate_left
        · intro w0 hSw; (try dsimp only at hSw); go_simp; (try with_reducible rfl)
        (try dsimp only [Act.put, List.setIfInBounds_toArray, List.set_cons_zero, List.set_cons_succ])
        refine wpAnyH_take (i := 1) (oi := _) (v := ?_) rfl (by kernel_rfl) (by kernel_rfl) (by kernel_rfl) (fun _ _ _ h => h) (Or.inl ⟨by kernel_rfl, ?_⟩) hHeld ?_
        rotate_left
        · intro w0 hSw; (try dsimp only at hSw); go_simp; (try with_reducible rfl)
        (try dsimp only [Act.put, List.setIfInBounds_toArray, List.set_cons_zero, List.set_cons_succ])
        refine wpAnyH_take (i := 2) (oi := _) (v := ?_) rfl (by kernel_rfl) (by kernel_rfl) (by kernel_rfl) (fun _ _ _ h => h) (Or.inl ⟨by kernel_rfl, ?_⟩) hHeld ?_
        rotate_left
        · intro w0 hSw; (try dsimp only at hSw); go_simp; (try with_reducible rfl)
        (try dsimp only [Act.put, List.setIfInBounds_toArray, List.set_cons_zero, List.set_cons_succ])
        refine wpAnyH_take (i := 3) (oi := _) (v := .string (str p1)) rfl (by kernel_rfl) (by kernel_rfl) (by kernel_rfl) (fun _ _ _ h => h) (Or.inl ⟨by kernel_rfl, ?_⟩) hHeld ?_
        · intro w0 hSw; (try dsimp only at hSw); have hcv := run_strV (cap := cp1) hSw.2.1; go_simp
        (try dsimp only [Act.put, List.setIfInBounds_toArray, List.set_cons_zero, List.set_cons_succ])
        refine wpAnyH_take (i := 4) (oi := _) (v := ?_) rfl (by kernel_rfl) (by kernel_rfl) (by kernel_rfl) (fun _ _ _ h => h) (Or.inl ⟨by kernel_rfl, ?_⟩) hHeld ?_
        rotate_left
        · intro w0 hSw; (try dsimp only at hSw); go_simp; (try with_reducible rfl)
        (try dsimp only [Act.put, List.setIfInBounds_toArray, List.set_cons_zero, List.set_cons_succ])
        refine wpAnyH_ready (rs := [5]) (by kernel_rfl) (by simp) ?_
        refine AllReadyH.cons (o := _) rfl (fun K hK => ?_) AllReadyH.nil
        go_simp
        refine (recordWord_any (kd : Int) hkI hli _).mono ?_
        rintro e wy ⟨rfl, rfl⟩
        refine hK.out _ _ ?_ (fun hHeld => ?_)
        · first | (exact hHeld) | ((try dsimp only); exact hHeld)
        clear hK K
        (try dsimp only [Act.put, List.setIfInBounds_toArray, List.set_cons_zero, List.set_cons_succ])
        refine wpAnyH_take (i := 6) (oi := _) (v := .bool false) rfl (by kernel_rfl) (by kernel_rfl) (by kernel_rfl) (fun _ _ _ h => h) (Or.inl ⟨by kernel_rfl, ?_⟩) hHeld ?_
        · intro w0 hSw; (try dsimp only at hSw); go_simp <;> (first | done | simp [hEB])
        (try dsimp only [Act.put, List.setIfInBounds_toArray, List.set_cons_zero, List.set_cons_succ])
        refine wpAnyH_take (i := 7) (oi := _) (v := .bool false) rfl (by kernel_rfl) (by kernel_rfl) (by kernel_rfl) (fun _ _ _ h => h) (Or.inl ⟨by kernel_rfl, ?_⟩) hHeld ?_
        · intro w0 hSw; (try dsimp only at hSw); go_simp <;> (first | done | simp)
        (try dsimp only [Act.put, List.setIfInBounds_toArray, List.set_cons_zero, List.set_cons_succ])
        refine wpAnyH_take (i := 8) (oi := _) (v := ?_) rfl (by kernel_rfl) (by kernel_rfl) (by kernel_rfl) (fun _ _ _ h => h) (Or.inl ⟨by kernel_rfl, ?_⟩) hHeld ?_
        rotate_left
        · intro w0 hSw; (try dsimp only at hSw); go_simp; (try with_reducible rfl)
        (try dsimp only [Act.put, List.setIfInBounds_toArray, List.set_cons_zero, List.set_cons_succ])
        refine wpAnyH_ready (rs := [9]) (by kernel_rfl) (by simp) ?_
        refine AllReadyH.cons (o := _) rfl (fun K hK => ?_) AllReadyH.nil
        go_simp
        refine (implIsRecord_any (kd : Int) nv _).mono ?_
        rintro e wy ⟨rfl, hby⟩
        refine hK.out _ _ ?_ (fun hHeld => ?_)
        · first | (exact ⟨keep_cell hby hHeld.1, hHeld.2.1.below hby, keep_cell hby hHeld.2.2.1, keep_cell hby hHeld.2.2.2⟩) | ((try dsimp only); exact ⟨keep_cell hby hHeld.1, hHeld.2.1.below hby, keep_cell hby hHeld.2.2.1, keep_cell hby hHeld.2.2.2⟩)
        clear hK K
        (try dsimp only [Act.put, List.setIfInBounds_toArray, List.set_cons_zero, List.set_cons_succ])
        refine wpAnyH_take (i := 10) (oi := _) (v := ?_) rfl (by kernel_rfl) (by kernel_rfl) (by kernel_rfl) (fun _ _ _ h => h) (Or.inl ⟨by kernel_rfl, ?_⟩) hHeld ?_
        rotate_left
        · intro w0 hSw; (try dsimp only at hSw); go_simp; (try with_reducible rfl)
        (try dsimp only [Act.put, List.setIfInBounds_toArray, List.set_cons_zero, List.set_cons_succ])
        refine wpAnyH_take (i := 11) (oi := _) (v := ?_) rfl (by kernel_rfl) (by kernel_rfl) (by kernel_rfl) (fun _ _ _ h => h) (Or.inl ⟨by kernel_rfl, ?_⟩) hHeld ?_
        rotate_left
        · intro w0 hSw; (try dsimp only at hSw); go_simp; (try with_reducible rfl)
        (try dsimp only [Act.put, List.setIfInBounds_toArray, List.set_cons_zero, List.set_cons_succ])
        refine wpAnyH_done (by kernel_rfl) ?_ _
        go_simp
        have hd2 : Below wx.heap.size wx wy := (drewB wx _).trans hby
        have E2 := Lib.hid (EX.out.trans (hd2.mono EX.out.size))
        have X2 := Lib.hid (XX.out.below hd2 XX.out.lt)
        have U2 := Lib.hid (UX.out.below hd2)
        have J2 := Lib.hid (JX.out.below hd2 JX.out.lt)
        have R2 := Lib.hid (RX.out.below hd2 RX.out.lt)
        have G2 := Lib.hid (GX.out.below hd2)
        have W2 := Lib.hid (BW.out.trans (hd2.mono BW.out.size))
        clear hHeld cG x0 x1 hby hd2 EX XX UX JX RX GX BW CX VX
        cases hrv : recB (kd : Int) nv with
        | false =>
          have HI2 := Lib.hid (show ∀ j : Int, 1 ≤ j → j < ((kd + 1 : Nat) : Int) → p1 = wrdL j → recB j nv = false from fun j h1 h2 e => by
            by_cases hj : j < (kd : Int)
            · exact hinv.out j h1 hj e
            · obtain rfl : j = (kd : Int) := by omega
              exact hrv)
          clear hrv hinv
          go_wp2_with fail
          go_roundw
          case rel => exact ⟨kd + 1, by go_num, by omega, by omega, HI2, E2⟩
          case measure => simp [intOf]; omega
        | true =>
          have x0 := X2.out.c0
          have x1 := X2.out.c1
          have HRV := Lib.hid hrv
          go_wp2_with fail
          refine (line_any k (by omega) hrv h0 h1 J2.out G2.out.tab).mono ?_
          rintro e wl ⟨vl, rfl, hbl, hol⟩
          have X3 := Lib.hid (X2.out.below hbl X2.out.lt)
          have U3 := Lib.hid (U2.out.below hbl)
          have R3 := Lib.hid (R2.out.below hbl R2.out.lt)
          have W3 := Lib.hid (W2.out.trans (hbl.mono W2.out.size))
          obtain ⟨al, capl, rfl, hrowl, -⟩ := hol.row
          have L3 := Lib.hid hrowl
          have HOK := Lib.hid (show ∀ r : Int × Int, recB r.1 r.2 = true → (lineL (k : Int) r s ++ [10]) <+: (p ++ 10 :: m) → r = ((kd : Int), nv) from fun r hr h => by
            obtain ⟨e1, e2⟩ := HNW.out r hr h
            have hbr := recB_bd hr
            exact Prod.ext (wrdL_inj ⟨hbr.1, hbr.2.1⟩ ⟨hkI, hli⟩ (e1.symm.trans HWB.out)) e2.symm)
          clear hbl hol hrowl hrv hinv X2 U2 R2 W2 J2 G2 E2 x0 x1
          obtain ⟨ln, hln⟩ : ∃ ln, lineL (k : Int) ((kd : Int), nv) s ++ [10] = ln := ⟨_, rfl⟩
          have HLN := Lib.hid hln
          rw [hln] at L3 ⊢
          clear hln
          obtain ⟨ns, hns⟩ : ∃ ns, sumL s (bodyL (k : Int) ((kd : Int), nv)) = ns := ⟨_, rfl⟩
          rw [hns]
          clear hns
          have x0 := X3.out.c0
          have x1 := X3.out.c1
          have r0 := R3.out.c0
          have r1 := R3.out.c1
          have f0 := R3.out.fz 0
          have f1 := R3.out.fz 1
          go_wp2_with fail
          refine wp_region_S (S := (fun w' => w'.cell? ⟨X, 0, none⟩ = some (.int .i64 (kd : Int)) ∧ w'.cell? ⟨X, 1, none⟩ = some (.int .i64 nv))) 6 rfl (by kernel_rfl) ?_ (fun hHeld => ?_)
          · first | (exact ⟨keep_cell (drewB _ _) x0, keep_cell (drewB _ _) x1⟩) | ((try dsimp only); exact ⟨keep_cell (drewB _ _) x0, keep_cell (drewB _ _) x1⟩)
          refine wpAnyH_take (i := 0) (oi := _) (v := ?_) rfl (by kernel_rfl) (by kernel_rfl) (by kernel_rfl) (fun _ _ _ h => h) (Or.inl ⟨by kernel_rfl, ?_⟩) hHeld ?_
          rotate_left
          · intro w0 hSw; (try dsimp only at hSw); go_simp; (try with_reducible rfl)
          (try dsimp only [Act.put, List.setIfInBounds_toArray, List.set_cons_zero, List.set_cons_succ])
          refine wpAnyH_take (i := 1) (oi := _) (v := ?_) rfl (by kernel_rfl) (by kernel_rfl) (by kernel_rfl) (fun _ _ _ h => h) (Or.inl ⟨by kernel_rfl, ?_⟩) hHeld ?_
          rotate_left
          · intro w0 hSw; (try dsimp only at hSw); go_simp; (try with_reducible rfl)
          (try dsimp only [Act.put, List.setIfInBounds_toArray, List.set_cons_zero, List.set_cons_succ])
          refine wpAnyH_take (i := 2) (oi := _) (v := ?_) rfl (by kernel_rfl) (by kernel_rfl) (by kernel_rfl) (fun _ _ _ h => h) (Or.inl ⟨by kernel_rfl, ?_⟩) hHeld ?_
          rotate_left
          · intro w0 hSw; (try dsimp only at hSw); go_simp; (try with_reducible rfl)
          (try dsimp only [Act.put, List.setIfInBounds_toArray, List.set_cons_zero, List.set_cons_succ])
          refine wpAnyH_ready (rs := [3]) (by kernel_rfl) (by simp) ?_
          refine AllReadyH.cons (o := _) rfl (fun K hK => ?_) AllReadyH.nil
          go_simp
          refine (prefix_any (U3.out.below (drewB _ _)) (L3.out.below (drewB _ _))).mono ?_
          rintro e wp ⟨rfl, rfl⟩
          refine hK.out _ _ ?_ (fun hHeld => ?_)
          · first | (exact hHeld) | ((try dsimp only); exact hHeld)
          clear hK K
          (try dsimp only [Act.put, List.setIfInBounds_toArray, List.set_cons_zero, List.set_cons_succ])
          refine wpAnyH_ready (rs := [4]) (by kernel_rfl) (by simp) ?_
          refine AllReadyH.cons (o := _) rfl (fun K hK => ?_) AllReadyH.nil
          go_simp
          refine hK.out _ _ ?_ (fun hHeld => ?_)
          · first | (exact ⟨(World.cell?_setCell_far _ ⟨w.heap.size, 1, none⟩ ⟨X, 0, none⟩ _ (Nat.ne_of_lt hRX)).trans ((World.cell?_setCell_far _ ⟨w.heap.size, 0, none⟩ ⟨X, 0, none⟩ _ (Nat.ne_of_lt hRX)).trans hHeld.1), (World.cell?_setCell_far _ ⟨w.heap.size, 1, none⟩ ⟨X, 1, none⟩ _ (Nat.ne_of_lt hRX)).trans ((World.cell?_setCell_far _ ⟨w.heap.size, 0, none⟩ ⟨X, 1, none⟩ _ (Nat.ne_of_lt hRX)).trans hHeld.2)⟩) | ((try dsimp only); exact ⟨(World.cell?_setCell_far _ ⟨w.heap.size, 1, none⟩ ⟨X, 0, none⟩ _ (Nat.ne_of_lt hRX)).trans ((World.cell?_setCell_far _ ⟨w.heap.size, 0, none⟩ ⟨X, 0, none⟩ _ (Nat.ne_of_lt hRX)).trans hHeld.1), (World.cell?_setCell_far _ ⟨w.heap.size, 1, none⟩ ⟨X, 1, none⟩ _ (Nat.ne_of_lt hRX)).trans ((World.cell?_setCell_far _ ⟨w.heap.size, 0, none⟩ ⟨X, 1, none⟩ _ (Nat.ne_of_lt hRX)).trans hHeld.2)⟩)
          clear hK K
          (try dsimp only [Act.put, List.setIfInBounds_toArray, List.set_cons_zero, List.set_cons_succ])
          refine wpAnyH_take (i := 5) (oi := _) (v := ?_) rfl (by kernel_rfl) (by kernel_rfl) (by kernel_rfl) (fun _ _ _ h => h) (Or.inl ⟨by kernel_rfl, ?_⟩) hHeld ?_
          rotate_left
          · intro w0 hSw; (try dsimp only at hSw); go_simp; (try with_reducible rfl)
          (try dsimp only [Act.put, List.setIfInBounds_toArray, List.set_cons_zero, List.set_cons_succ])
          refine wpAnyH_done (by kernel_rfl) ?_ _
          go_simp
          obtain ⟨ok, hok⟩ : ∃ ok : Bool, ln.isPrefixOf (p ++ 10 :: m) = ok := ⟨_, rfl⟩
          rw [hok]
          have HK := Lib.hid hok
          clear hok hHeld
          go_wp2_with fail
          (try simp only [Exit.inBlock, Exit.then])
          refine ret_cellJ2 HRES.out Tryd.underlying36 rfl (by kernel_rfl) rfl rfl (R3.out.set (kd : Int) nv).blk ⟨⟨kd, nv, ok, rfl, fun e => ⟨HRV.out, ?_⟩, fun e r hr h => ?_⟩, ((W3.out.setCell (p := ⟨w.heap.size, 0, none⟩) (Nat.le_refl _) _).setCell (p := ⟨w.heap.size, 1, none⟩) (Nat.le_refl _) _).trans (drewB _ _)⟩
          · rw [HLN.out]; exact List.isPrefixOf_iff_prefix.1 (HK.out.trans e)
          · have hr2 := HOK.out r hr h
            rw [hr2, HLN.out] at h
            have := List.isPrefixOf_iff_prefix.2 h
            rw [HK.out, e] at this
            cases this
end Go.Proofs.YtmbphpmabopifaaDoor
