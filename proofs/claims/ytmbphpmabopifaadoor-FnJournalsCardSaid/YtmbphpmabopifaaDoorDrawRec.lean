/-
  The draws of records.
-/
import Derived.Test.YtmbphpmabopifaaDoorDrawK
import Derived.Test.YtmbphpmabopifaaDoorRcvS
import Derived.Deep.Cut
namespace Go.Proofs.YtmbphpmabopifaaDoor
open Go.RowKit
set_option linter.unusedVariables false

/-- The length of a slice's value. -/
def vlenR : Value → Nat
  | .slice _ n _ => n
  | _ => 0
theorem RB.dr {s : Nat} {w w' : World} {B : Nat} {k i : Int} (h : RB w B k i) (hd : Dr s w w') (hn : B ≠ s) : RB w' B k i := ⟨(hd.block B h.lt hn).trans h.blk⟩
set_option maxHeartbeats 2000000 in
set_option maxRecDepth 100000 in
theorem l32Draw_any {w : World} {s : Nat} (hs : Src w s) :
    Calls Tryd.prog 48 #[.pointer (some ⟨s, 0, none⟩)] w fun e w' => ∃ k i, e = .returned (rV k i) ∧ Dr s w w' ∧ Src w' s := by
  have X0 := Lib.hid (RB.new w 0 0)
  have B0 := Lib.hid (below1 w (.cells #[.int .i64 0, .int .i64 0] RT))
  have hsz := hs.lt
  have HS := Lib.hid (hs.below B0.out)
  have D0 := Lib.hid (Dr.of (s := s) B0.out)
  have HRES := Lib.hid (show Tryd.f48.results = #[.cell 2 RT] by kernel_rfl)
  clear hs B0
  go_enter Tryd.func48, Tryd.ntmps48
  go_upto_region 1 with (fail)
  generalize w.alloc (.cells #[.int .i64 0, .int .i64 0] RT) = w1 at *
  go_wp2_with fail
  refine (next_any HS.out 4 (by omega) (by omega)).mono ?_
  rintro e w2 ⟨a, rfl, ha, hd2, hs2⟩
  have X2 := Lib.hid (X0.out.dr hd2 (by omega))
  have D2 := Lib.hid (D0.out.trans hd2)
  have HS2 := Lib.hid hs2
  clear hd2 hs2 X0 D0 HS
  go_wp2_with fail
  refine (next_any HS2.out 5 (by omega) (by omega)).mono ?_
  rintro e w3 ⟨b, rfl, hb, hd3, hs3⟩
  have X3 := Lib.hid ((X2.out.dr hd3 (by omega)).below (below1 w3 (.cells #[.int .i64 (1 + (a : Int)), .int .i64 (b : Int)] RT)) (X2.out.dr hd3 (by omega)).lt)
  have D3 := Lib.hid ((D2.out.trans hd3).alloc (.cells #[.int .i64 (1 + (a : Int)), .int .i64 (b : Int)] RT))
  have HS3 := Lib.hid (hs3.alloc (.cells #[.int .i64 (1 + (a : Int)), .int .i64 (b : Int)] RT))
  have Y3 := Lib.hid (RB.new w3 (1 + (a : Int)) (b : Int))
  have hXY : w.heap.size < w3.heap.size := (X2.out.dr hd3 (by omega)).lt
  have hsY : s < w3.heap.size := hs3.lt
  clear hd3 hs3 X2 D2 HS2
  obtain ⟨Y, hY⟩ : ∃ Y, Y = w3.heap.size := ⟨_, rfl⟩
  rw [← hY] at Y3 hXY hsY
  go_upto_region 2 with (fail)
  rw [← hY]
  generalize w3.alloc (.cells #[.int .i64 (1 + (a : Int)), .int .i64 (b : Int)] RT) = w4 at *
  clear hY
  generalize (1 + (a : Int)) = k at *
  generalize (b : Int) = i at *
  go_wp2_with fail
  refine (next_any HS3.out 40 (by omega) (by omega)).mono ?_
  rintro e w5 ⟨v, rfl, hv, hd5, hs5⟩
  have X5 := Lib.hid (X3.out.dr hd5 (by omega))
  have Y5 := Lib.hid (Y3.out.dr hd5 (by omega))
  have D5 := Lib.hid (D3.out.trans hd5)
  have HS5 := Lib.hid hs5
  have hY5 : Y < w5.heap.size := Y5.out.lt
  clear hd5 hs5 X3 D3 HS3 Y3
  by_cases h0 : v = 0
  · subst h0
    go_wp2_with fail
    refine (pick_any HS5.out [0, 5] 2 (by simp) (by simp)).mono ?_
    rintro e w6 ⟨q, rfl, hq, -, hc, hd6, hs6, hz6⟩
    have hq : q < 2 := hq
    generalize gi [0, 5] q = z at *
    have X6 := Lib.hid (X5.out.dr hd6 (by omega))
    have Y6 := Lib.hid (Y5.out.dr hd6 (by omega))
    have D6 := Lib.hid (D5.out.trans hd6)
    have HS6 := Lib.hid hs6
    have yc0 := Y6.out.c0
    have yc1 := Y6.out.c1
    have yf := Y6.out.fz 0
    have hyl := Y6.out.lt
    clear hd6 hs6 X5 Y5 D5 HS5
    go_upto_region 7 with (fail)
    have XF := Lib.hid (X6.out.other (show w.heap.size ≠ Y by omega) (o := 0) (.int .i64 z))
    have YF := Lib.hid (Y6.out.set0 z)
    have DS := Lib.hid (D6.out.setNew (B := Y) (by omega) 0 (.int .i64 z))
    have HSS := Lib.hid (HS6.out.other (B := Y) hsY 0 (.int .i64 z))
    generalize w6.setCell ⟨Y, 0, none⟩ (.int .i64 z) = w7 at *
    clear X6 Y6 D6 HS6 yc0 yc1 yf hyl hc
    have y0 := YF.out.c0
    have y1 := YF.out.c1
    have x0 := XF.out.c0
    have x1 := XF.out.c1
    have f0 := XF.out.fz 0
    have f1 := XF.out.fz 1
    have hlx := XF.out.lt
    have hly := YF.out.lt
    have HSF := Lib.hid ((HSS.out.other (B := w.heap.size) hsz 0 (.int .i64 z)).other (B := w.heap.size) hsz 1 (.int .i64 i))
    have HDF := Lib.hid ((DS.out.setNew (B := w.heap.size) (Nat.le_refl _) 0 (.int .i64 z)).setNew (B := w.heap.size) (Nat.le_refl _) 1 (.int .i64 i))
    have HFF := Lib.hid (XF.out.set z i)
    go_wp2_with fail
    (try simp only [Exit.inBlock, Exit.then])
    exact ret_cellJ1 HRES.out Tryd.underlying36 rfl (by kernel_rfl) rfl rfl HFF.out.blk ⟨_, _, rfl, HDF.out, HSF.out⟩
  by_cases h1 : v = 1
  · subst h1
    have hn0 : ((1 : Nat) : Int) ≠ 0 := by omega
    go_wp2_with fail
    refine (pick_any HS5.out [-1, 199, 200] 2 (by simp) (by simp)).mono ?_
    rintro e w6 ⟨q, rfl, hq, -, hc, hd6, hs6, hz6⟩
    have hq : q < 3 := hq
    generalize gi [-1, 199, 200] q = z at *
    have X6 := Lib.hid (X5.out.dr hd6 (by omega))
    have Y6 := Lib.hid (Y5.out.dr hd6 (by omega))
    have D6 := Lib.hid (D5.out.trans hd6)
    have HS6 := Lib.hid hs6
    have yc0 := Y6.out.c0
    have yc1 := Y6.out.c1
    have yf := Y6.out.fz 1
    have hyl := Y6.out.lt
    clear hd6 hs6 X5 Y5 D5 HS5
    go_upto_region 7 with (fail)
    have XF := Lib.hid (X6.out.other (show w.heap.size ≠ Y by omega) (o := 1) (.int .i64 z))
    have YF := Lib.hid (Y6.out.set1 z)
    have DS := Lib.hid (D6.out.setNew (B := Y) (by omega) 1 (.int .i64 z))
    have HSS := Lib.hid (HS6.out.other (B := Y) hsY 1 (.int .i64 z))
    generalize w6.setCell ⟨Y, 1, none⟩ (.int .i64 z) = w7 at *
    clear X6 Y6 D6 HS6 yc0 yc1 yf hyl hc
    have y0 := YF.out.c0
    have y1 := YF.out.c1
    have x0 := XF.out.c0
    have x1 := XF.out.c1
    have f0 := XF.out.fz 0
    have f1 := XF.out.fz 1
    have hlx := XF.out.lt
    have hly := YF.out.lt
    have HSF := Lib.hid ((HSS.out.other (B := w.heap.size) hsz 0 (.int .i64 k)).other (B := w.heap.size) hsz 1 (.int .i64 z))
    have HDF := Lib.hid ((DS.out.setNew (B := w.heap.size) (Nat.le_refl _) 0 (.int .i64 k)).setNew (B := w.heap.size) (Nat.le_refl _) 1 (.int .i64 z))
    have HFF := Lib.hid (XF.out.set k z)
    go_wp2_with fail
    (try simp only [Exit.inBlock, Exit.then])
    exact ret_cellJ1 HRES.out Tryd.underlying36 rfl (by kernel_rfl) rfl rfl HFF.out.blk ⟨_, _, rfl, HDF.out, HSF.out⟩
  have hn0 : ¬ (v : Int) = 0 := by omega
  have hn1 : ¬ (v : Int) = 1 := by omega
  have XF := X5
  have YF := Y5
  have DS := D5
  have HSS := HS5
  have y0 := YF.out.c0
  have y1 := YF.out.c1
  have x0 := XF.out.c0
  have x1 := XF.out.c1
  have f0 := XF.out.fz 0
  have f1 := XF.out.fz 1
  have hlx := XF.out.lt
  have hly := YF.out.lt
  have HSF := Lib.hid ((HSS.out.other (B := w.heap.size) hsz 0 (.int .i64 k)).other (B := w.heap.size) hsz 1 (.int .i64 i))
  have HDF := Lib.hid ((DS.out.setNew (B := w.heap.size) (Nat.le_refl _) 0 (.int .i64 k)).setNew (B := w.heap.size) (Nat.le_refl _) 1 (.int .i64 i))
  have HFF := Lib.hid (XF.out.set k i)
  go_wp2_with fail
  (try simp only [Exit.inBlock, Exit.then])
  exact ret_cellJ1 HRES.out Tryd.underlying36 rfl (by kernel_rfl) rfl rfl HFF.out.blk ⟨_, _, rfl, HDF.out, HSF.out⟩
theorem OwnR.dr {s : Nat} {w w' : World} {B : Nat} {v : Value} {L : List (Int × Int)} (h : OwnR w B v L) (hd : Dr s w w') (hs : s < B) : OwnR w' B v L := by
  obtain ⟨hB, hl, h2⟩ := h
  refine ⟨Nat.le_trans hB hd.size, hl, ?_⟩
  rcases h2 with h0 | ⟨g', cp, cur, rfl, hg', hh, rest⟩
  · exact .inl h0
  · exact .inr ⟨g', cp, cur, rfl, hg', (hd.block g' (lt_of_heap hh) (by omega)).trans hh, rest⟩
set_option maxHeartbeats 2000000 in
set_option maxRecDepth 100000 in
theorem l32DrawList_any {w : World} {s : Nat} (hs : Src w s) :
    Calls Tryd.prog 38 #[.pointer (some ⟨s, 0, none⟩)] w fun e w' => ∃ v L, e = .returned v ∧ OwnR w' w.heap.size v L ∧ L.length ≤ 1000 ∧ Dr s w w' ∧ Src w' s := by
  have O0 := Lib.hid (OwnR.empty w w.heap.size (Nat.le_refl _) w.heap.size rfl)
  have B0 := below1 w (.cells #[] RT)
  have hsz := hs.lt
  have HS := Lib.hid (hs.below B0)
  have D0 := Lib.hid (Dr.of (s := s) B0)
  clear hs B0
  go_enter Tryd.func38, Tryd.ntmps38
  go_wp2_with fail
  refine (next_any HS.out 10 (by omega) (by omega)).mono ?_
  rintro e w1 ⟨c0, rfl, hc0, hd1, hs1⟩
  have O1 := Lib.hid (O0.out.dr hd1 hsz)
  have D1 := Lib.hid (D0.out.trans hd1)
  have HS1 := Lib.hid hs1
  clear hd1 hs1 O0 D0 HS
  go_wp2_with fail
  go_loopw [3, 4] (fun tv tc wr => ∃ (la : Option Addr) (n lc c : Nat), tv = .slice la n lc ∧ tc = .int .i64 c ∧ n + c ≤ 9 ∧ Hid (∃ L : List (Int × Int), L.length = n ∧ OwnR wr w.heap.size (.slice la n lc) L) ∧ Hid (Dr s w wr) ∧ Hid (Src wr s)) (fun _ tc _ => (intOf tc).toNat)
  case atStart => exact ⟨_, 0, 0, c0, rfl, rfl, by omega, Lib.hid ⟨[], rfl, O1.out⟩, D1, HS1⟩
  case round =>
    clear O1 D1 HS1
    obtain ⟨la, n, lc, c, rfl, rfl, hn, hst, hd, hsr⟩ := hrel
    by_cases hc : 0 < c
    · have hc' : (0 : Int) < (c : Int) := by omega
      go_wp2_with fail
      refine (l32Draw_any hsr.out).mono ?_
      rintro e w2 ⟨k, i, rfl, hd2, hs2⟩
      obtain ⟨L, hLn, ho⟩ := hst.out
      have O2 := Lib.hid (ho.dr hd2 hsz)
      have D2 := Lib.hid (hd.out.trans hd2)
      have HS2 := Lib.hid hs2
      have hLb : L.length ≤ 16777216 := by omega
      have HLN := Lib.hid hLn
      clear ho hd2 hs2 hst hd hsr hLn
      go_wp2_with (at_builtin; refine appendR_one rfl _ _ _ rfl Tryd.underlying26 k i O2.out rfl _ rfl rfl hLb ?_; intro v' w4 hown hb4; refine Hid.out ?_)
      obtain ⟨la', lc', rfl⟩ := hown.slice
      have hl1 : (L ++ [(k, i)]).length = n + 1 := by rw [List.length_append, HLN.out]; rfl
      rw [hl1] at hown ⊢
      have O4 := Lib.hid hown
      have D4 := Lib.hid (D2.out.moreB hb4)
      have HS4 := Lib.hid (HS2.out.lo hsz hb4)
      have HL1 := Lib.hid hl1
      clear hown hb4 hl1 O2 D2 HS2
      refine Lib.hid ?_
      go_wp2_with fail
      go_roundw
      case rel => exact ⟨la', n + 1, lc', c - 1, rfl, by go_num, by omega, Lib.hid ⟨_, HL1.out, O4.out⟩, D4, HS4⟩
      case measure => simp [intOf]; omega
    · obtain rfl : c = 0 := by omega
      go_wp2_with fail
      refine (next_any hsr.out 60 (by omega) (by omega)).mono ?_
      rintro e w2 ⟨z, rfl, hz, hd2, hs2⟩
      obtain ⟨L, rfl, ho⟩ := hst.out
      have O2 := Lib.hid (ho.dr hd2 hsz)
      have D2 := Lib.hid (hd.out.trans hd2)
      have HS2 := Lib.hid hs2
      clear ho hd2 hs2 hst hd hsr
      by_cases hz0 : z = 0
      rotate_left
      · have hz1 : ¬ (z : Int) = 0 := by omega
        go_wp2_with fail
        go_ret
        exact ⟨_, L, rfl, O2.out, by omega, D2.out, HS2.out⟩
      subst hz0
      rename_i wr1 _
      go_wp2_with fail
      go_loopw [3] (fun tv wr => ∃ (la : Option Addr) (n lc : Nat), tv = .slice la n lc ∧ n ≤ 302 ∧ Hid (∃ L : List (Int × Int), L.length = n ∧ OwnR wr w.heap.size (.slice la n lc) L) ∧ Hid (Dr s w wr) ∧ Hid (Src wr s)) (fun tv _ => 303 - vlenR tv)
      case atStart => exact ⟨_, L.length, _, rfl, by omega, Lib.hid ⟨L, rfl, O2.out⟩, D2, HS2⟩
      case round =>
        clear O2 D2 HS2
        obtain ⟨la, n, lc, rfl, hn, hst, hd, hsr⟩ := hrel
        go_wp2_with fail
        refine (next_any hsr.out 2 (by omega) (by omega)).mono ?_
        rintro e w3 ⟨y, rfl, hy, hd3, hs3⟩
        obtain ⟨L, hLn, ho⟩ := hst.out
        have O2 := Lib.hid (ho.dr hd3 hsz)
        have D2 := Lib.hid (hd.out.trans hd3)
        have HS2 := Lib.hid hs3
        clear ho hd3 hs3 hst hd hsr
        by_cases hlt : n < 300 + y
        rotate_left
        · have hlt' : ¬ (n : Int) < 300 + (y : Int) := by omega
          go_wp2_with fail
          go_ret
          subst hLn
          exact ⟨_, L, rfl, O2.out, by omega, D2.out, HS2.out⟩
        have hlt' : (n : Int) < 300 + (y : Int) := by omega
        have hLb : L.length ≤ 16777216 := by omega
        have HLN := Lib.hid hLn
        clear hLn
        go_wp2_with (at_builtin; refine appendR_one rfl _ _ _ rfl Tryd.underlying26 1 3 O2.out rfl _ rfl rfl hLb ?_; intro v' w4 hown hb4; refine Hid.out ?_)
        obtain ⟨la', lc', rfl⟩ := hown.slice
        have hl1 : (L ++ [(1, 3)]).length = n + 1 := by rw [List.length_append, HLN.out]; rfl
        rw [hl1] at hown ⊢
        have O4 := Lib.hid hown
        have D4 := Lib.hid (D2.out.moreB hb4)
        have HS4 := Lib.hid (HS2.out.lo hsz hb4)
        have HL1 := Lib.hid hl1
        clear hown hb4 hl1 O2 D2 HS2
        refine Lib.hid ?_
        go_wp2_with fail
        go_roundw
        case rel => exact ⟨la', n + 1, lc', rfl, by omega, Lib.hid ⟨_, HL1.out, O4.out⟩, D4, HS4⟩
        case measure => simp [vlenR]; omega
/-- The drawn list of records. -/
theorem DrawJournalOf_any {w : World} {c : Option Addr} {n cap : Nat} {bs : List Int} (hr : RowB w c n bs) :
    Calls Tryd.prog 26 #[.slice c n cap] w fun e w' => ∃ v L, e = .returned v ∧ OwnR w' w.heap.size v L ∧ L.length ≤ 1000 ∧ Below w.heap.size w w' := by
  have HR := Lib.hid hr
  clear hr
  go_enter Tryd.func26, Tryd.ntmps26
  go_wp2_with fail
  refine (l01From_any HR.out).mono ?_
  rintro e w1 ⟨s, rfl, hs, hb1, hsrc⟩
  have B1 := Lib.hid hb1
  have HS := Lib.hid hsrc
  clear hb1 hsrc
  go_wp2_with fail
  refine (l32DrawList_any HS.out).mono ?_
  rintro e w2 ⟨v, L, rfl, ho, hl, hd, -⟩
  have O2 := Lib.hid (ho.lower B1.out.size)
  have B2 := Lib.hid (B1.out.trans (hd.below hs B1.out.size))
  clear ho hd
  go_wp2_with fail
  go_ret
  exact ⟨_, L, rfl, O2.out, hl, B2.out⟩
end Go.Proofs.YtmbphpmabopifaaDoor
