/-
  The parts Laba, Labb, Labc.
-/
import Derived.Test.YtdcmebegnekkcaaGreatBoxz
/-
  Labels: slices of items.
-/
namespace Go.Proofs.YtdcmebegnekkcaaGreat
open Go.RowKit
set_option linter.unusedVariables false

def it0 : It := ⟨0, 0, 0, 0, 0, 0, [], 0, []⟩
def giI (zs : List It) (i : Nat) : It := zs.getD i it0
/-- A slice of items that may be read. -/
structure ItsAt (w : World) (a : Option Addr) (n : Nat) (zs : List It) : Prop where
  len : zs.length = n
  small : n ≤ 9223372036854775807
  at' : 0 < n → ∃ b off, a = some ⟨b, off, none⟩ ∧ b < w.heap.size ∧ ∀ i, i < n → ∀ j, j < 9 → w.cell? ⟨b, off + i * 9 + j, none⟩ = some (itF (giI zs i) j)
theorem ItsAt.below {w w' : World} {a : Option Addr} {n : Nat} {zs : List It} (h : ItsAt w a n zs) (hb : Below w.heap.size w w') : ItsAt w' a n zs :=
  ⟨h.len, h.small, fun hn => by
    obtain ⟨b, off, e, hl, hc⟩ := h.at' hn
    exact ⟨b, off, e, Nat.lt_of_lt_of_le hl hb.size, fun i hi j hj => (hb.cell (p := ⟨b, off + i * 9 + j, none⟩) hl).trans (hc i hi j hj)⟩⟩
/-- The cells of one item. -/
structure ItC (w : World) (b o : Nat) (x : It) : Prop where
  lt : b < w.heap.size
  c0 : w.cell? ⟨b, o, none⟩ = some (.int .i64 x.kd)
  c1 : w.cell? ⟨b, o + 1, none⟩ = some (.int .i64 x.rw)
  c2 : w.cell? ⟨b, o + 2, none⟩ = some (.int .i64 x.cl)
  c3 : w.cell? ⟨b, o + 3, none⟩ = some (.int .i64 x.sc)
  c4 : w.cell? ⟨b, o + 4, none⟩ = some (.int .i64 x.tl)
  c5 : w.cell? ⟨b, o + 5, none⟩ = some (.int .i64 x.wd)
  c6 : w.cell? ⟨b, o + 6, none⟩ = some (.string (str x.nm))
  c7 : w.cell? ⟨b, o + 7, none⟩ = some (.int .i64 x.lv)
  c8 : w.cell? ⟨b, o + 8, none⟩ = some (.string (str x.tx))
theorem ItsAt.one {w : World} {a : Option Addr} {n : Nat} {zs : List It} (h : ItsAt w a n zs) {i : Nat} (hi : i < n) : ∃ b off, a = some ⟨b, off, none⟩ ∧ ItC w b (off + i * 9) (giI zs i) := by
  obtain ⟨b, off, e, hl, hc⟩ := h.at' (by omega)
  have h := hc i hi
  exact ⟨b, off, e, hl, h 0 (by omega), h 1 (by omega), h 2 (by omega), h 3 (by omega), h 4 (by omega), h 5 (by omega), h 6 (by omega), h 7 (by omega), h 8 (by omega)⟩
theorem ItC.below {w w' : World} {b o : Nat} {x : It} (h : ItC w b o x) (hb : Below w.heap.size w w') : ItC w' b o x :=
  ⟨Nat.lt_of_lt_of_le h.lt hb.size, (hb.cell (p := ⟨b, o, none⟩) h.lt).trans h.c0, (hb.cell (p := ⟨b, o + 1, none⟩) h.lt).trans h.c1, (hb.cell (p := ⟨b, o + 2, none⟩) h.lt).trans h.c2, (hb.cell (p := ⟨b, o + 3, none⟩) h.lt).trans h.c3, (hb.cell (p := ⟨b, o + 4, none⟩) h.lt).trans h.c4, (hb.cell (p := ⟨b, o + 5, none⟩) h.lt).trans h.c5, (hb.cell (p := ⟨b, o + 6, none⟩) h.lt).trans h.c6, (hb.cell (p := ⟨b, o + 7, none⟩) h.lt).trans h.c7, (hb.cell (p := ⟨b, o + 8, none⟩) h.lt).trans h.c8⟩
def ItsOk (zs : List It) : Prop := ∀ i, i < zs.length → ItOk (giI zs i)
set_option maxHeartbeats 8000000 in
set_option maxRecDepth 100000 in
theorem szItemS_any {w : World} {a : Option Addr} {n cap : Nat} {zs : List It} (hr : ItsAt w a n zs) (hok : ItsOk zs) :
    Calls Tryz.prog 37 #[.slice a n cap, .int .i64 1048576] w fun e w' => (∃ z, e = .returned (.int .i64 z) ∧ z ≤ 1048576 ∧ (0 ≤ z → n ≤ 1048576 ∧ ∀ i, i < n → (giI zs i).tx.length ≤ 1048576)) ∧ Below w.heap.size w w' := by
  have HR := Lib.hid hr
  have hsm := hr.small
  have HOK := Lib.hid (show ∀ i, i < n → ItOk (giI zs i) from fun i hi => hok i (by rw [hr.len]; exact hi))
  clear hr hok
  go_enter Tryz.func37, Tryz.ntmps37
  by_cases hbig : (1048576 : Int) - (n : Int) < 0
  · go_wp2_with fail
    go_ret
    exact ⟨⟨-1, rfl, by omega, fun h => by omega⟩, Below.refl _ _⟩
  go_wp2_with fail
  go_loopw [1, 5] (fun tl ti wr => ∃ (i : Nat) (L : Int), i ≤ n ∧ 0 ≤ L ∧ L ≤ 1048576 ∧ tl = .int .i64 L ∧ ti = .int .i64 (i : Int) ∧ Hid (∀ j, j < i → (giI zs j).tx.length ≤ 1048576) ∧ Hid (Below w.heap.size w wr)) (fun _ ti _ => n - (intOf ti).toNat)
  case atStart => exact ⟨0, 1048576 - (n : Int), by omega, by omega, by omega, rfl, rfl, Lib.hid (fun j hj => by omega), Lib.hid (Below.refl _ _)⟩
  case round =>
    obtain ⟨i, L, hi, hL0, hL1, rfl, rfl, hH, hB⟩ := hrel
    by_cases hlt : i < n
    · obtain ⟨b, off, e1, hC⟩ := (HR.out.below hB.out).one hlt
      subst e1
      have hx := HOK.out i hlt
      have HM := Lib.hid (show (giI zs i).tx.length ≤ 1048576 → ∀ j, j < i + 1 → (giI zs j).tx.length ≤ 1048576 from fun hh j hj => by
        by_cases e : j = i
        · subst e; exact hh
        · exact hH.out j (by omega))
      have HSO := Lib.hid (fun h => szI_ok (x := giI zs i) (L := L) h)
      have HSZ := Lib.hid (fun (V : World) => szItem_any (giI zs i) L hL0 hL1 hx V)
      generalize giI zs i = x at *
      have c0 := hC.c0
      have c1 := hC.c1
      have c2 := hC.c2
      have c3 := hC.c3
      have c4 := hC.c4
      have c5 := hC.c5
      have c6 := hC.c6
      have c7 := hC.c7
      have c8 := hC.c8
      clear hx
      go_wp2_with fail
      refine (HSZ.out _).mono ?_
      rintro e w2 ⟨rfl, hb2⟩
      have B2 := Lib.hid (hB.out.trans (hb2.mono hB.out.size))
      clear hb2 c0 c1 c2 c3 c4 c5 c6 c7 c8 hC
      by_cases hz : szI x L < 0
      · generalize szI x L = z at *
        go_wp2_with fail
        go_ret
        exact ⟨⟨-1, rfl, by omega, fun h => by omega⟩, B2.out⟩
      · obtain ⟨g1, g2⟩ := HSO.out (by omega)
        have HM2 := Lib.hid (HM.out (by omega))
        have hz1 : 0 ≤ szI x L := by omega
        have hz2 : szI x L ≤ 1048576 := by omega
        clear g1 g2
        generalize szI x L = z at *
        go_wp2_with fail
        go_roundw
        case rel => exact ⟨i + 1, z, by omega, by omega, by omega, rfl, by go_num, HM2, B2⟩
        case measure => simp [intOf]; omega
    · obtain rfl : i = n := by omega
      go_wp2_with fail
      go_ret
      exact ⟨⟨L, rfl, by omega, fun _ => ⟨by omega, hH.out⟩⟩, hB.out⟩
theorem info_itm : (Tryz.prog.info? ITy).map (fun i => (i.zero, i.size, i.bytes)) = some (some (.agg itZ), 9, 88) := by kernel_rfl
theorem run_make_itm (w : World) (n : Nat) (hn : n ≤ 1048576) :
    (Instr.makeSlice 39 (.int .i64 (n : Int)) (.int .i64 (n : Int))).run Tryz.prog w = .ok (.slice (some ⟨w.heap.size, 0, none⟩) n n) (w.alloc (.cells (madeCells itZ (n * 9)) ITy)) := by
  obtain ⟨i0, hi, hz0, hz1, hz2⟩ := info_parts info_itm
  have := run_make (P := Tryz.prog) w _ ITy i0 _ Tryz.underlying39 hi hz0 .i64 .i64 n n (by omega) (Int.le_refl _) (by rw [hz2]; omega) (by omega)
  rw [hz1] at this
  exact this
theorem Tf.madeZ (w : World) (z : Array Value) (n : Nat) (ty : TypeId) : Tf (w.alloc (.cells (madeCells z n) ty)) w.heap.size n ty (fun i => z[i % z.size]!) :=
  ⟨_, heap_new _ _, size_madeCells _ _, fun i hi => by simp only [madeCells, Array.getElem?_map, Array.getElem?_range, hi, if_true, Option.map_some]⟩
def itsF (zs : List It) (k c : Nat) : Value := if c / 9 < k then itF (giI zs (c / 9)) (c % 9) else itZ[c % 9]!
abbrev set9o (w : World) (B o : Nat) (x : It) : World := ((((((((w.setCell ⟨B, o, none⟩ (.int .i64 x.kd)).setCell ⟨B, o + 1, none⟩ (.int .i64 x.rw)).setCell ⟨B, o + 2, none⟩ (.int .i64 x.cl)).setCell ⟨B, o + 3, none⟩ (.int .i64 x.sc)).setCell ⟨B, o + 4, none⟩ (.int .i64 x.tl)).setCell ⟨B, o + 5, none⟩ (.int .i64 x.wd)).setCell ⟨B, o + 6, none⟩ (.string (str x.nm))).setCell ⟨B, o + 7, none⟩ (.int .i64 x.lv)).setCell ⟨B, o + 8, none⟩ (.string (str x.tx))
theorem its_set {w : World} {B m k : Nat} {zs : List It} (h : Tf w B m ITy (itsF zs k)) {x : It} (hx : giI zs k = x) : Tf (set9o w B (k * 9) x) B m ITy (itsF zs (k + 1)) :=
  (((((((((h.set (k * 9) (.int .i64 x.kd)).set (k * 9 + 1) (.int .i64 x.rw)).set (k * 9 + 2) (.int .i64 x.cl)).set (k * 9 + 3) (.int .i64 x.sc)).set (k * 9 + 4) (.int .i64 x.tl)).set (k * 9 + 5) (.int .i64 x.wd)).set (k * 9 + 6) (.string (str x.nm))).set (k * 9 + 7) (.int .i64 x.lv)).set (k * 9 + 8) (.string (str x.tx))).congr fun c hc => by
    rcases (show c = k * 9 ∨ c = k * 9 + 1 ∨ c = k * 9 + 2 ∨ c = k * 9 + 3 ∨ c = k * 9 + 4 ∨ c = k * 9 + 5 ∨ c = k * 9 + 6 ∨ c = k * 9 + 7 ∨ c = k * 9 + 8 ∨ (c < k * 9 ∨ k * 9 + 9 ≤ c) by omega) with h | h | h | h | h | h | h | h | h | h
    · subst h
      unfold itsF
      rw [show (k * 9) / 9 = k by omega, show (k * 9) % 9 = 0 by omega, if_pos (by omega), hx]
      unfold upd
      rw [if_neg (by omega), if_neg (by omega), if_neg (by omega), if_neg (by omega), if_neg (by omega), if_neg (by omega), if_neg (by omega), if_neg (by omega), if_pos rfl]
      rfl
    · subst h
      unfold itsF
      rw [show (k * 9 + 1) / 9 = k by omega, show (k * 9 + 1) % 9 = 1 by omega, if_pos (by omega), hx]
      unfold upd
      rw [if_neg (by omega), if_neg (by omega), if_neg (by omega), if_neg (by omega), if_neg (by omega), if_neg (by omega), if_neg (by omega), if_pos rfl]
      rfl
    · subst h
      unfold itsF
      rw [show (k * 9 + 2) / 9 = k by omega, show (k * 9 + 2) % 9 = 2 by omega, if_pos (by omega), hx]
      unfold upd
      rw [if_neg (by omega), if_neg (by omega), if_neg (by omega), if_neg (by omega), if_neg (by omega), if_neg (by omega), if_pos rfl]
      rfl
    · subst h
      unfold itsF
      rw [show (k * 9 + 3) / 9 = k by omega, show (k * 9 + 3) % 9 = 3 by omega, if_pos (by omega), hx]
      unfold upd
      rw [if_neg (by omega), if_neg (by omega), if_neg (by omega), if_neg (by omega), if_neg (by omega), if_pos rfl]
      rfl
    · subst h
      unfold itsF
      rw [show (k * 9 + 4) / 9 = k by omega, show (k * 9 + 4) % 9 = 4 by omega, if_pos (by omega), hx]
      unfold upd
      rw [if_neg (by omega), if_neg (by omega), if_neg (by omega), if_neg (by omega), if_pos rfl]
      rfl
    · subst h
      unfold itsF
      rw [show (k * 9 + 5) / 9 = k by omega, show (k * 9 + 5) % 9 = 5 by omega, if_pos (by omega), hx]
      unfold upd
      rw [if_neg (by omega), if_neg (by omega), if_neg (by omega), if_pos rfl]
      rfl
    · subst h
      unfold itsF
      rw [show (k * 9 + 6) / 9 = k by omega, show (k * 9 + 6) % 9 = 6 by omega, if_pos (by omega), hx]
      unfold upd
      rw [if_neg (by omega), if_neg (by omega), if_pos rfl]
      rfl
    · subst h
      unfold itsF
      rw [show (k * 9 + 7) / 9 = k by omega, show (k * 9 + 7) % 9 = 7 by omega, if_pos (by omega), hx]
      unfold upd
      rw [if_neg (by omega), if_pos rfl]
      rfl
    · subst h
      unfold itsF
      rw [show (k * 9 + 8) / 9 = k by omega, show (k * 9 + 8) % 9 = 8 by omega, if_pos (by omega), hx]
      unfold upd
      rw [if_pos rfl]
      rfl
    · have a0 : ¬ c = k * 9 := by omega
      have a1 : ¬ c = k * 9 + 1 := by omega
      have a2 : ¬ c = k * 9 + 2 := by omega
      have a3 : ¬ c = k * 9 + 3 := by omega
      have a4 : ¬ c = k * 9 + 4 := by omega
      have a5 : ¬ c = k * 9 + 5 := by omega
      have a6 : ¬ c = k * 9 + 6 := by omega
      have a7 : ¬ c = k * 9 + 7 := by omega
      have a8 : ¬ c = k * 9 + 8 := by omega
      unfold upd
      rw [if_neg a8, if_neg a7, if_neg a6, if_neg a5, if_neg a4, if_neg a3, if_neg a2, if_neg a1, if_neg a0]
      unfold itsF
      by_cases hq : c / 9 < k
      · rw [if_pos hq, if_pos (by omega)]
      · rw [if_neg hq, if_neg (by omega)]
theorem below_set9o {M : Nat} {w0 w : World} {B : Nat} (h : Below M w0 w) (hB : M ≤ B) (o : Nat) (x : It) : Below M w0 (set9o w B o x) :=
  (((((((((h.setCell (p := ⟨B, o, none⟩) hB _).setCell (p := ⟨B, o + 1, none⟩) hB _).setCell (p := ⟨B, o + 2, none⟩) hB _).setCell (p := ⟨B, o + 3, none⟩) hB _).setCell (p := ⟨B, o + 4, none⟩) hB _).setCell (p := ⟨B, o + 5, none⟩) hB _).setCell (p := ⟨B, o + 6, none⟩) hB _).setCell (p := ⟨B, o + 7, none⟩) hB _).setCell (p := ⟨B, o + 8, none⟩) hB _)
theorem its_at {w : World} {B n : Nat} {zs : List It} (h : Tf w B (n * 9) ITy (itsF zs n)) (hl : zs.length = n) (hn : n ≤ 1048576) : ItsAt w (some ⟨B, 0, none⟩) n zs :=
  ⟨hl, by omega, fun _ => ⟨B, 0, rfl, h.lt, fun i hi j hj => by
    rw [Nat.zero_add, h.cell (i := i * 9 + j) (by omega)]
    unfold itsF
    rw [show (i * 9 + j) / 9 = i by omega, show (i * 9 + j) % 9 = j by omega, if_pos hi]⟩⟩
set_option maxHeartbeats 8000000 in
set_option maxRecDepth 100000 in
theorem toItemS_any {w : World} {a : Option Addr} {n cap : Nat} {zs : List It} (hr : ItsAt w a n zs) (hn : n ≤ 1048576) :
    Calls Tryz.prog 39 #[.slice a n cap] w fun e w' => e = .returned (.slice (some ⟨w.heap.size, 0, none⟩) n n) ∧ Below w.heap.size w w' ∧ Tf w' w.heap.size (n * 9) ITy (itsF zs n) := by
  have HR := Lib.hid hr
  clear hr
  have hmk := fun w => run_make_itm w n hn
  have T0 := Lib.hid ((Tf.madeZ w itZ (n * 9) ITy).congr (g := itsF zs 0) fun i hi => by unfold itsF; rw [if_neg (by omega)]; rfl)
  have B0 := Lib.hid (below1 w (.cells (madeCells itZ (n * 9)) ITy))
  go_enter Tryz.func39, Tryz.ntmps39
  go_wp2_with fail
  clear hmk
  go_loopw [4] (fun t wr => ∃ k : Nat, k ≤ n ∧ t = .int .i64 k ∧ Hid (Tf wr w.heap.size (n * 9) ITy (itsF zs k)) ∧ Hid (Below w.heap.size w wr)) (fun t _ => (n - intOf t).toNat)
  case atStart => exact ⟨0, by omega, rfl, T0, B0⟩
  case round =>
    obtain ⟨k, hk, rfl, hT, hB⟩ := hrel
    clear T0 B0
    by_cases hlt : k < n
    · obtain ⟨b1, o1, e1, hC⟩ := (HR.out.below hB.out).one hlt
      subst e1
      obtain ⟨x, hx⟩ : ∃ x, giI zs k = x := ⟨_, rfl⟩
      have HST := Lib.hid (fun (V : World) (h : Tf V w.heap.size (n * 9) ITy (itsF zs k)) => its_set h hx)
      rw [hx] at hC
      clear hx
      have c0 := hC.c0
      have c1 := hC.c1
      have c2 := hC.c2
      have c3 := hC.c3
      have c4 := hC.c4
      have c5 := hC.c5
      have c6 := hC.c6
      have c7 := hC.c7
      have c8 := hC.c8
      obtain ⟨B, hBs⟩ : ∃ B, w.heap.size = B := ⟨_, rfl⟩
      rw [hBs] at hT hB HST
      rw [hBs]
      go_wp2_with fail
      refine (toItem_any x _).mono ?_
      rintro e w2 ⟨rfl, hb2⟩
      have T2 := Lib.hid (hT.out.below hb2 hT.out.lt)
      have B2 := Lib.hid (hB.out.trans (hb2.mono (Nat.le_of_lt hT.out.lt)))
      clear hb2 c0 c1 c2 c3 c4 c5 c6 c7 c8 hC
      rw [show itV x = .agg #[.int .i64 x.kd, .int .i64 x.rw, .int .i64 x.cl, .int .i64 x.sc, .int .i64 x.tl, .int .i64 x.wd, .string (str x.nm), .int .i64 x.lv, .string (str x.tx)] from rfl]
      have d0 := T2.out.cell (i := k * 9) (by omega)
      have f0 := T2.out.fz (k * 9)
      have d1 := T2.out.cell (i := k * 9 + 1) (by omega)
      have f1 := T2.out.fz (k * 9 + 1)
      have d2 := T2.out.cell (i := k * 9 + 2) (by omega)
      have f2 := T2.out.fz (k * 9 + 2)
      have d3 := T2.out.cell (i := k * 9 + 3) (by omega)
      have f3 := T2.out.fz (k * 9 + 3)
      have d4 := T2.out.cell (i := k * 9 + 4) (by omega)
      have f4 := T2.out.fz (k * 9 + 4)
      have d5 := T2.out.cell (i := k * 9 + 5) (by omega)
      have f5 := T2.out.fz (k * 9 + 5)
      have d6 := T2.out.cell (i := k * 9 + 6) (by omega)
      have f6 := T2.out.fz (k * 9 + 6)
      have d7 := T2.out.cell (i := k * 9 + 7) (by omega)
      have f7 := T2.out.fz (k * 9 + 7)
      have d8 := T2.out.cell (i := k * 9 + 8) (by omega)
      have f8 := T2.out.fz (k * 9 + 8)
      have hBl : B < w2.heap.size := T2.out.lt
      have T3 := Lib.hid (HST.out _ T2.out)
      have B3 := Lib.hid (below_set9o B2.out (Nat.le_refl B) (k * 9) x)
      go_wp2_with fail
      go_roundw
      case rel => exact ⟨k + 1, by omega, by go_num, T3, B3⟩
      case measure => simp [intOf]; omega
    · obtain rfl : k = n := by omega
      go_wp2_with fail
      go_ret
      exact ⟨rfl, hB.out, hT.out⟩
/-- A label. -/
abbrev lbV (R C : Int) (v : Value) : Value := .agg #[.int .i64 R, .int .i64 C, v]
abbrev LbT : TypeId := 41
abbrev LLT : TypeId := 36
def lbF (R C : Int) (v : Value) (j : Nat) : Value := (#[.int .i64 R, .int .i64 C, v] : Array Value)[j]!
def LbB (w : World) (X : Nat) (ty : TypeId) (R C : Int) (v : Value) : Prop := Tf w X 3 ty (lbF R C v)
section
variable {w w' : World} {X : Nat} {ty : TypeId} {R C : Int} {v : Value}
theorem LbB.new (w : World) (R C : Int) (v : Value) (ty : TypeId) : LbB (w.alloc (.cells #[.int .i64 R, .int .i64 C, v] ty)) w.heap.size ty R C v := Tf.mkd w #[.int .i64 R, .int .i64 C, v] ty
theorem LbB.lt (h : LbB w X ty R C v) : X < w.heap.size := Tf.lt h
theorem LbB.below (h : LbB w X ty R C v) (hb : Below w.heap.size w w') : LbB w' X ty R C v := Tf.below h hb (Tf.lt h)
theorem LbB.c0 (h : LbB w X ty R C v) : w.cell? ⟨X, 0, none⟩ = some (.int .i64 R) := Tf.cell h (i := 0) (by omega)
theorem LbB.c1 (h : LbB w X ty R C v) : w.cell? ⟨X, 1, none⟩ = some (.int .i64 C) := Tf.cell h (i := 1) (by omega)
theorem LbB.c2 (h : LbB w X ty R C v) : w.cell? ⟨X, 2, none⟩ = some v := Tf.cell h (i := 2) (by omega)
end
abbrev lbZ : Array Value := #[.int .i64 0, .int .i64 0, .slice none 0 0]
set_option maxHeartbeats 8000000 in
set_option maxRecDepth 100000 in
theorem szLabel_any {w : World} {a : Option Addr} {n cap : Nat} {zs : List It} (R C : Int) (hr : ItsAt w a n zs) (hok : ItsOk zs) :
    Calls Tryz.prog 15 #[lbV R C (.slice a n cap), .int .i64 1048576] w fun e w' => (∃ z, e = .returned (.int .i64 z) ∧ z ≤ 1048576 ∧ (0 ≤ z → n ≤ 1048576 ∧ ∀ i, i < n → (giI zs i).tx.length ≤ 1048576)) ∧ Below w.heap.size w w' := by
  have B0 := Lib.hid (below1 w (.cells #[.int .i64 R, .int .i64 C, .slice a n cap] LLT))
  have HR := Lib.hid (hr.below (below1 w (.cells #[.int .i64 R, .int .i64 C, .slice a n cap] LLT)))
  have HOK := Lib.hid hok
  clear hr hok
  go_enter Tryz.func15, Tryz.ntmps15
  go_wp2_with fail
  refine (szItemS_any HR.out HOK.out).mono ?_
  rintro e w2 ⟨⟨z, rfl, hz, hzz⟩, hb2⟩
  have B2 := Lib.hid (B0.out.trans (hb2.mono B0.out.size))
  have HZ := Lib.hid hzz
  clear hb2 hzz
  by_cases hn : z < 0
  · go_wp2_with fail
    go_ret
    exact ⟨⟨-1, rfl, by omega, fun h => by omega⟩, B2.out⟩
  · go_wp2_with fail
    go_ret
    exact ⟨⟨z, rfl, hz, HZ.out⟩, B2.out⟩
set_option maxHeartbeats 8000000 in
set_option maxRecDepth 100000 in
theorem toLabel_any {w : World} {a : Option Addr} {n cap : Nat} {zs : List It} (R C : Int) (hr : ItsAt w a n zs) (hn : n ≤ 1048576) :
    Calls Tryz.prog 17 #[lbV R C (.slice a n cap)] w fun e w' => (∃ B, e = .returned (lbV R C (.slice (some ⟨B, 0, none⟩) n n)) ∧ w.heap.size ≤ B ∧ Tf w' B (n * 9) ITy (itsF zs n)) ∧ Below w.heap.size w w' := by
  have HRES := Lib.hid (show Tryz.f17.results = #[.cell 2 LbT] by kernel_rfl)
  have s1 : (w.alloc (.cells #[.int .i64 R, .int .i64 C, .slice a n cap] LLT)).heap.size = w.heap.size + 1 := by simp
  have s2 : ((w.alloc (.cells #[.int .i64 R, .int .i64 C, .slice a n cap] LLT)).alloc (.cells lbZ LbT)).heap.size = w.heap.size + 1 + 1 := by simp
  have b1 := below1 w (.cells #[.int .i64 R, .int .i64 C, .slice a n cap] LLT)
  have b2 := below1 (w.alloc (.cells #[.int .i64 R, .int .i64 C, .slice a n cap] LLT)) (.cells lbZ LbT)
  have b3 := below1 ((w.alloc (.cells #[.int .i64 R, .int .i64 C, .slice a n cap] LLT)).alloc (.cells lbZ LbT)) (.cells #[.int .i64 R, .int .i64 C, .slice none 0 0] LbT)
  have HR := Lib.hid (((hr.below b1).below b2).below b3)
  have T1 := Lib.hid ((Tf.mkd (w.alloc (.cells #[.int .i64 R, .int .i64 C, .slice a n cap] LLT)) lbZ LbT).below b3 (by simp))
  have T2 := Lib.hid (Tf.mkd ((w.alloc (.cells #[.int .i64 R, .int .i64 C, .slice a n cap] LLT)).alloc (.cells lbZ LbT)) #[.int .i64 R, .int .i64 C, .slice none 0 0] LbT)
  rw [s1] at T1
  rw [s2] at T2
  have BB := Lib.hid (b1.trans ((b2.mono (by simp)).trans (b3.mono (by simp; omega))))
  clear b1 b2 b3 s1 s2 hr
  go_enter Tryz.func17, Tryz.ntmps17
  go_wp2_with fail
  obtain ⟨w3, hw3⟩ : ∃ w3, (((w.alloc (.cells #[.int .i64 R, .int .i64 C, .slice a n cap] LLT)).alloc (.cells lbZ LbT)).alloc (.cells #[.int .i64 R, .int .i64 C, .slice none 0 0] LbT)) = w3 := ⟨_, rfl⟩
  rw [hw3] at HR T1 T2 BB
  rw [show ((w.alloc (.cells #[.int .i64 R, .int .i64 C, .slice a n cap] LLT)).alloc (.cells #[.int .i64 0, .int .i64 0, .slice none 0 0] LbT)).alloc (.cells #[.int .i64 R, .int .i64 C, .slice none 0 0] LbT) = w3 from hw3]
  clear hw3
  refine (toItemS_any HR.out hn).mono ?_
  rintro e w4 ⟨rfl, hb4, hT⟩
  obtain ⟨B, hB⟩ : ∃ B, w3.heap.size = B := ⟨_, rfl⟩
  have U1 := Lib.hid (T1.out.below hb4 T1.out.lt)
  have U2 := Lib.hid (T2.out.below hb4 T2.out.lt)
  have B4 := Lib.hid (BB.out.trans (hb4.mono BB.out.size))
  have hBg : w.heap.size + 1 + 1 < B := by rw [← hB]; exact T2.out.lt
  rw [hB] at hT
  rw [hB]
  have HT := Lib.hid hT
  clear hb4 hT T1 T2 HR BB
  have u0 := U2.out.cell (i := 0) (by simp)
  have u1 := U2.out.cell (i := 1) (by simp)
  have u2 := U2.out.cell (i := 2) (by simp)
  have v0 := U1.out.cell (i := 0) (by decide)
  have v1 := U1.out.cell (i := 1) (by decide)
  have v2 := U1.out.cell (i := 2) (by decide)
  have p0 := U2.out.fz 0
  have p1 := U2.out.fz 1
  have p2 := U2.out.fz 2
  have q0 := U1.out.fz 0
  have q1 := U1.out.fz 1
  have q2 := U1.out.fz 2
  have l1 := U1.out.lt
  have l2 := U2.out.lt
  have HH := Lib.hid (tf_obj (((((show Tf w4 (w.heap.size + 1) 3 LbT _ from U1.out).other (H := w.heap.size + 1 + 1) (by omega) 2 (.slice (some ⟨B, 0, none⟩) n n)).set 0 (.int .i64 R)).set 1 (.int .i64 C)).set 2 (.slice (some ⟨B, 0, none⟩) n n)) [.int .i64 R, .int .i64 C, .slice (some ⟨B, 0, none⟩) n n] rfl fun i hi => by
    rcases (show i = 0 ∨ i = 1 ∨ i = 2 by omega) with rfl | rfl | rfl <;> rfl)
  have HB4 := Lib.hid ((((B4.out.setCell (p := ⟨w.heap.size + 1 + 1, 2, none⟩) (by show w.heap.size ≤ w.heap.size + 1 + 1; omega) (.slice (some ⟨B, 0, none⟩) n n)).setCell (p := ⟨w.heap.size + 1, 0, none⟩) (by show w.heap.size ≤ w.heap.size + 1; omega) (.int .i64 R)).setCell (p := ⟨w.heap.size + 1, 1, none⟩) (by show w.heap.size ≤ w.heap.size + 1; omega) (.int .i64 C)).setCell (p := ⟨w.heap.size + 1, 2, none⟩) (by show w.heap.size ≤ w.heap.size + 1; omega) (.slice (some ⟨B, 0, none⟩) n n))
  have HT4 := Lib.hid ((((HT.out.other (H := w.heap.size + 1 + 1) (by omega) 2 (.slice (some ⟨B, 0, none⟩) n n)).other (H := w.heap.size + 1) (by omega) 0 (.int .i64 R)).other (H := w.heap.size + 1) (by omega) 1 (.int .i64 C)).other (H := w.heap.size + 1) (by omega) 2 (.slice (some ⟨B, 0, none⟩) n n))
  go_wp2_with fail
  exact ret_cell1 HRES.out Tryz.underlying41 rfl (by kernel_rfl) rfl rfl HH.out ⟨⟨B, rfl, by omega, HT4.out⟩, HB4.out⟩
set_option maxHeartbeats 8000000 in
set_option maxRecDepth 100000 in
theorem eqItem_same (x : It) (w : World) :
    Calls Tryz.prog 55 #[itV x, itV x] w fun e w' => e = .returned (.bool true) ∧ Below w.heap.size w w' := by
  have b1 := below1 w (.cells (itL x).toArray ITy)
  have b2 := below1 (w.alloc (.cells (itL x).toArray ITy)) (.cells (itL x).toArray ITy)
  have I1 := Lib.hid ((ItB.new w x ITy).below b2)
  have I2 := Lib.hid (ItB.new (w.alloc (.cells (itL x).toArray ITy)) x ITy)
  have BB := Lib.hid (b1.trans (b2.mono (by simp)))
  rw [show (w.alloc (.cells (itL x).toArray ITy)).heap.size = w.heap.size + 1 by simp] at I2
  clear b1 b2
  go_enter Tryz.func55, Tryz.ntmps55
  go_upto_region 1 with (fail)
  generalize (w.alloc (.cells (itL x).toArray ITy)).alloc (.cells (itL x).toArray ITy) = w2 at *
  have i0 := I1.out.c0
  have j0 := I2.out.c0
  have i1 := I1.out.c1
  have j1 := I2.out.c1
  have i2 := I1.out.c2
  have j2 := I2.out.c2
  have i3 := I1.out.c3
  have j3 := I2.out.c3
  have i4 := I1.out.c4
  have j4 := I2.out.c4
  have i5 := I1.out.c5
  have j5 := I2.out.c5
  have i6 := I1.out.c6
  have j6 := I2.out.c6
  have i7 := I1.out.c7
  have j7 := I2.out.c7
  have i8 := I1.out.c8
  have j8 := I2.out.c8
  have e0 : (x.kd != x.kd) = false := by simp
  have e1 : (x.rw != x.rw) = false := by simp
  have e2 : (x.cl != x.cl) = false := by simp
  have e3 : (x.sc != x.sc) = false := by simp
  have e4 : (x.tl != x.tl) = false := by simp
  have e5 : (x.wd != x.wd) = false := by simp
  have e7 : (x.lv != x.lv) = false := by simp
  have e6 : ((str x.nm).toList == (str x.nm).toList) = true := by simp
  have e8 : ((str x.tx).toList == (str x.tx).toList) = true := by simp
  have l1 := I1.out.lt
  have l2 := I2.out.lt
  go_wp2_with fail
  go_ret
  exact ⟨rfl, BB.out⟩
set_option maxHeartbeats 8000000 in
set_option maxRecDepth 100000 in
theorem eqItemS_same {w : World} {a a' : Option Addr} {n cap cap' : Nat} {zs : List It} (hr : ItsAt w a n zs) (hr' : ItsAt w a' n zs) (hn : n ≤ 1048576) :
    Calls Tryz.prog 41 #[.slice a n cap, .slice a' n cap'] w fun e w' => e = .returned (.bool true) ∧ Below w.heap.size w w' := by
  have HR := Lib.hid hr
  have HR' := Lib.hid hr'
  clear hr hr'
  have hnn : ((n : Int) != (n : Int)) = false := by simp
  go_enter Tryz.func41, Tryz.ntmps41
  go_wp2_with fail
  go_loopw [5] (fun t wr => ∃ i : Nat, i ≤ n ∧ t = .int .i64 (i : Int) ∧ Hid (Below w.heap.size w wr)) (fun t _ => n - (intOf t).toNat)
  case atStart => exact ⟨0, by omega, rfl, Lib.hid (Below.refl _ _)⟩
  case round =>
    obtain ⟨i, hi, rfl, hB⟩ := hrel
    by_cases hlt : i < n
    · obtain ⟨b1, o1, e1, hC⟩ := (HR.out.below hB.out).one hlt
      obtain ⟨b2, o2, e2, hD⟩ := (HR'.out.below hB.out).one hlt
      subst e1 e2
      have HEQ := Lib.hid (fun (V : World) => eqItem_same (giI zs i) V)
      generalize giI zs i = x at *
      have HC := Lib.hid hC
      have HD := Lib.hid hD
      clear hC hD
      have hli : (i : Int) < (n : Int) := by omega
      go_wp2_with fail
      refine wp_region_S (S := (fun w' => Below wr.heap.size wr w')) 10 rfl (by kernel_rfl) ?_ (fun hHeld => ?_)
      · (try dsimp only); exact (Below.refl _ _).drew
      refine wpAnyH_take (i := 0) (oi := _) (v := ?_) rfl (by kernel_rfl) (by kernel_rfl) (by kernel_rfl) (fun _ _ _ h => h) (Or.inl ⟨by kernel_rfl, ?_⟩) hHeld ?_
      rotate_left
      · intro w0 hSw; (try dsimp only at hSw); go_simp; (try with_reducible rfl)
      (try dsimp only [Act.put, List.setIfInBounds_toArray, List.set_cons_zero, List.set_cons_succ])
      refine wpAnyH_take (i := 1) (oi := _) (v := ?_) rfl (by kernel_rfl) (by kernel_rfl) (by kernel_rfl) (fun _ _ _ h => h) (Or.inl ⟨by kernel_rfl, ?_⟩) hHeld ?_
      rotate_left
      · intro w0 hSw; (try dsimp only at hSw); go_simp; (try with_reducible rfl)
      (try dsimp only [Act.put, List.setIfInBounds_toArray, List.set_cons_zero, List.set_cons_succ])
      refine wpAnyH_take (i := 2) (oi := _) (v := ?_) rfl (by kernel_rfl) (by kernel_rfl) (by kernel_rfl) (fun _ _ _ h => h) (Or.inl ⟨by kernel_rfl, ?_⟩) hHeld ?_
      rotate_left
      · intro w0 hSw; (try dsimp only at hSw); go_simp; (try with_reducible rfl)
      (try dsimp only [Act.put, List.setIfInBounds_toArray, List.set_cons_zero, List.set_cons_succ])
      refine wpAnyH_take (i := 3) (oi := _) (v := ?_) rfl (by kernel_rfl) (by kernel_rfl) (by kernel_rfl) (fun _ _ _ h => h) (Or.inl ⟨by kernel_rfl, ?_⟩) hHeld ?_
      rotate_left
      · intro w0 hSw; (try dsimp only at hSw); have FF := HC.out.below hSw; have r0 := FF.c0; have r1 := FF.c1; have r2 := FF.c2; have r3 := FF.c3; have r4 := FF.c4; have r5 := FF.c5; have r6 := FF.c6; have r7 := FF.c7; have r8 := FF.c8; go_simp; (try with_reducible rfl)
      (try dsimp only [Act.put, List.setIfInBounds_toArray, List.set_cons_zero, List.set_cons_succ])
      refine wpAnyH_take (i := 4) (oi := _) (v := ?_) rfl (by kernel_rfl) (by kernel_rfl) (by kernel_rfl) (fun _ _ _ h => h) (Or.inl ⟨by kernel_rfl, ?_⟩) hHeld ?_
      rotate_left
      · intro w0 hSw; (try dsimp only at hSw); go_simp; (try with_reducible rfl)
      (try dsimp only [Act.put, List.setIfInBounds_toArray, List.set_cons_zero, List.set_cons_succ])
      refine wpAnyH_take (i := 5) (oi := _) (v := ?_) rfl (by kernel_rfl) (by kernel_rfl) (by kernel_rfl) (fun _ _ _ h => h) (Or.inl ⟨by kernel_rfl, ?_⟩) hHeld ?_
      rotate_left
      · intro w0 hSw; (try dsimp only at hSw); go_simp; (try with_reducible rfl)
      (try dsimp only [Act.put, List.setIfInBounds_toArray, List.set_cons_zero, List.set_cons_succ])
      refine wpAnyH_take (i := 6) (oi := _) (v := ?_) rfl (by kernel_rfl) (by kernel_rfl) (by kernel_rfl) (fun _ _ _ h => h) (Or.inl ⟨by kernel_rfl, ?_⟩) hHeld ?_
      rotate_left
      · intro w0 hSw; (try dsimp only at hSw); go_simp; (try with_reducible rfl)
      (try dsimp only [Act.put, List.setIfInBounds_toArray, List.set_cons_zero, List.set_cons_succ])
      refine wpAnyH_take (i := 7) (oi := _) (v := ?_) rfl (by kernel_rfl) (by kernel_rfl) (by kernel_rfl) (fun _ _ _ h => h) (Or.inl ⟨by kernel_rfl, ?_⟩) hHeld ?_
      rotate_left
      · intro w0 hSw; (try dsimp only at hSw); have FF := HD.out.below hSw; have r0 := FF.c0; have r1 := FF.c1; have r2 := FF.c2; have r3 := FF.c3; have r4 := FF.c4; have r5 := FF.c5; have r6 := FF.c6; have r7 := FF.c7; have r8 := FF.c8; go_simp; (try with_reducible rfl)
      (try dsimp only [Act.put, List.setIfInBounds_toArray, List.set_cons_zero, List.set_cons_succ])
      refine wpAnyH_ready (rs := [8]) (by kernel_rfl) (by simp) ?_
      refine AllReadyH.cons (o := _) rfl (fun K hK => ?_) AllReadyH.nil
      go_simp
      refine (HEQ.out _).mono ?_
      rintro e w5 ⟨rfl, hb5⟩
      go_wp2_with fail
      refine hK.out _ _ ?_ (fun hHeld => ?_)
      · (try dsimp only); exact hHeld.trans (hb5.mono hHeld.size)
      clear hK K
      (try dsimp only [Act.put, List.setIfInBounds_toArray, List.set_cons_zero, List.set_cons_succ])
      refine wpAnyH_take (i := 9) (oi := _) (v := ?_) rfl (by kernel_rfl) (by kernel_rfl) (by kernel_rfl) (fun _ _ _ h => h) (Or.inl ⟨by kernel_rfl, ?_⟩) hHeld ?_
      rotate_left
      · intro w0 hSw; (try dsimp only at hSw); go_simp; (try with_reducible rfl)
      (try dsimp only [Act.put, List.setIfInBounds_toArray, List.set_cons_zero, List.set_cons_succ])
      refine wpAnyH_done (by kernel_rfl) ?_ _
      go_simp
      have B5 := Lib.hid (hB.out.trans (((Below.refl wr.heap.size wr).drew.trans hb5).mono hB.out.size))
      clear hb5 hHeld
      go_wp2_with fail
      go_roundw
      case rel => exact ⟨i + 1, by omega, by go_num, B5⟩
      case measure => simp [intOf]; omega
    · obtain rfl : i = n := by omega
      go_wp2_with fail
      go_ret
      exact ⟨rfl, hB.out⟩
set_option maxHeartbeats 8000000 in
set_option maxRecDepth 100000 in
theorem eqLabel_same {w : World} {a a' : Option Addr} {n cap cap' : Nat} {zs : List It} (R C : Int) (hr : ItsAt w a n zs) (hr' : ItsAt w a' n zs) (hn : n ≤ 1048576) :
    Calls Tryz.prog 19 #[lbV R C (.slice a n cap), lbV R C (.slice a' n cap')] w fun e w' => e = .returned (.bool true) ∧ Below w.heap.size w w' := by
  have b1 := below1 w (.cells #[.int .i64 R, .int .i64 C, .slice a n cap] LbT)
  have b2 := below1 (w.alloc (.cells #[.int .i64 R, .int .i64 C, .slice a n cap] LbT)) (.cells #[.int .i64 R, .int .i64 C, .slice a' n cap'] LbT)
  have HR := Lib.hid ((hr.below b1).below b2)
  have HR' := Lib.hid ((hr'.below b1).below b2)
  have BB := Lib.hid (b1.trans (b2.mono (by simp)))
  clear b1 b2 hr hr'
  have e1 : (R != R) = false := by simp
  have e2 : (C != C) = false := by simp
  go_enter Tryz.func19, Tryz.ntmps19
  go_wp2_with fail
  refine (eqItemS_same HR.out HR'.out hn).mono ?_
  rintro e w2 ⟨rfl, hb2⟩
  have B2 := Lib.hid (BB.out.trans (hb2.mono BB.out.size))
  clear hb2
  go_wp2_with fail
  go_ret
  exact ⟨rfl, B2.out⟩
end Go.Proofs.YtdcmebegnekkcaaGreat
/-
  Valid labels, in both programs.
-/
namespace Go.Proofs.YtdcmebegnekkcaaGreat
open Go.RowKit
set_option linter.unusedVariables false

/-- Sizes of a label. -/
def szB (R C : Int) : Bool := inR R 1 400 && (inR C 1 400 && decide (R * C ≤ 40000))
/-- Whether an item lies within a label. -/
noncomputable def inB (R C : Int) (x : It) : Bool := boxB x && (decide (boxR x ≤ R) && (decide (boxC x ≤ C) && (inR x.rw 0 (R - boxR x) && inR x.cl 0 (C - boxC x))))
noncomputable def labB (R C : Int) (zs : List It) : Bool := szB R C && (decide (zs.length ≤ 12) && zs.all (inB R C))
theorem szB_bd {R C : Int} (h : szB R C = true) : 1 ≤ R ∧ R ≤ 400 ∧ 1 ≤ C ∧ C ≤ 400 := by
  unfold szB at h
  simp only [Bool.and_eq_true] at h
  have h1 := inR_iff.1 h.1
  have h2 := inR_iff.1 h.2.1
  omega
theorem box_pos {x : It} (h : boxB x = true) : 1 ≤ boxR x ∧ boxR x ≤ 10000 ∧ 1 ≤ boxC x ∧ boxC x ≤ 10000 := by
  by_cases k1 : x.kd = 1
  · obtain ⟨h1, h2⟩ := box_k1 k1
    rw [h1] at h
    simp only [Bool.and_eq_true] at h
    obtain ⟨e1, e2, -⟩ := h2 (by rw [h1]; simp [h])
    obtain ⟨s1, s2⟩ := scaled_bd h.2.1
    obtain ⟨t1, t2⟩ := textB_bd h.2.2
    obtain ⟨m1, m2⟩ := mul_bd (show 0 ≤ 4 * (x.tx.length : Int) - 1 by omega) (show 4 * (x.tx.length : Int) - 1 ≤ 159 by omega) (show 0 ≤ x.sc by omega) s2 (by omega)
    have m3 : 3 * 1 ≤ (4 * (x.tx.length : Int) - 1) * x.sc := Int.mul_le_mul (by omega) s1 (by omega) (by omega)
    rw [e1, e2]
    omega
  by_cases k2 : x.kd = 2
  · obtain ⟨h1, h2⟩ := box_k2 k2
    rw [h1] at h
    simp only [Bool.and_eq_true] at h
    obtain ⟨e1, e2, -⟩ := h2 (by rw [h1]; simp [h])
    have g1 := inR_iff.1 h.2.2.2.1
    have g2 := inR_iff.1 h.2.2.2.2
    rw [e1, e2]
    omega
  by_cases k3 : x.kd = 3
  · obtain ⟨h1, h2⟩ := box_k3 k3
    rw [h1] at h
    simp only [Bool.and_eq_true, decide_eq_true_eq] at h
    obtain ⟨e1, e2, -⟩ := h2 (by rw [h1]; simp [h])
    obtain ⟨s1, s2⟩ := scaled_bd h.1
    have z1 := sym_bd x
    have z2 := col_bd x
    have z3 : 1 ≤ symZ x := by have := h.2; omega
    have z4 : 1 ≤ colZ x := by
      unfold colZ colI
      split
      · exact z3
      · have : 0 ≤ fco (fix x.nm) := by
          unfold fco
          repeat' split
          all_goals omega
        omega
    obtain ⟨m1, m2⟩ := mul_bd (show 0 ≤ x.sc by omega) s2 z1.1 z1.2 (by omega)
    obtain ⟨m3, m4⟩ := mul_bd (show 0 ≤ x.sc by omega) s2 z2.1 z2.2 (by omega)
    have m5 : 1 * 1 ≤ x.sc * symZ x := Int.mul_le_mul s1 z3 (by omega) (by omega)
    have m6 : 1 * 1 ≤ x.sc * colZ x := Int.mul_le_mul s1 z4 (by omega) (by omega)
    rw [e1, e2]
    omega
  rw [box_k0 k1 k2 k3] at h
  cases h
set_option maxHeartbeats 4000000 in
theorem l20Size_any (R C : Int) (w : World) :
    Calls Tryz.prog 38 #[.int .i64 R, .int .i64 C] w fun e w' => e = .returned (.bool (szB R C)) ∧ w = w' := by
  have HS := Lib.hid (show szB R C = (inR R 1 400 && (inR C 1 400 && decide (R * C ≤ 40000))) from rfl)
  have HM := Lib.hid (fun (h1 : 0 ≤ R ∧ R ≤ 400) (h2 : 0 ≤ C ∧ C ≤ 400) => mul_bd (show 0 ≤ R from h1.1) (show R ≤ 400 from h1.2) (show 0 ≤ C from h2.1) (show C ≤ 400 from h2.2) (by omega))
  go_enter Tryz.func38, Tryz.ntmps38
  go_wp2_with fail
  refine (l01In_any _ _ _ _).mono ?_
  rintro e w2 ⟨rfl, rfl⟩
  cases h1 : inR R 1 400 with
  | false =>
    rw [h1] at HS
    clear h1
    go_wp2_with fail
    go_ret
    exact ⟨by rw [HS.out]; rfl, rfl⟩
  | true =>
  obtain ⟨a1, a2⟩ := inR_iff.1 h1
  rw [h1] at HS
  clear h1
  go_wp2_with fail
  refine (l01In_any _ _ _ _).mono ?_
  rintro e w2 ⟨rfl, rfl⟩
  cases h2 : inR C 1 400 with
  | false =>
    rw [h2] at HS
    clear h2
    go_wp2_with fail
    go_ret
    exact ⟨by rw [HS.out]; rfl, rfl⟩
  | true =>
  obtain ⟨c1, c2⟩ := inR_iff.1 h2
  rw [h2] at HS
  clear h2
  obtain ⟨m1, m2⟩ := HM.out ⟨by omega, a2⟩ ⟨by omega, c2⟩
  obtain ⟨p, hp⟩ : ∃ p, R * C = p := ⟨_, rfl⟩
  rw [hp] at m1 m2 HS
  go_wp2_with fail
  go_ret
  exact ⟨by rw [HS.out]; rfl, rfl⟩
set_option maxHeartbeats 4000000 in
theorem isRasterSize_any (R C : Int) (w : World) :
    Calls Tryz.prog 53 #[.int .i64 R, .int .i64 C] w fun e w' => e = .returned (.bool (szB R C)) ∧ w = w' := by
  have HS := Lib.hid (show szB R C = (inR R 1 400 && (inR C 1 400 && decide (R * C ≤ 40000))) from rfl)
  have HM := Lib.hid (fun (h1 : 0 ≤ R ∧ R ≤ 400) (h2 : 0 ≤ C ∧ C ≤ 400) => mul_bd (show 0 ≤ R from h1.1) (show R ≤ 400 from h1.2) (show 0 ≤ C from h2.1) (show C ≤ 400 from h2.2) (by omega))
  go_enter Tryz.func53, Tryz.ntmps53
  go_wp2_with fail
  refine (inRange_any _ _ _ _).mono ?_
  rintro e w2 ⟨rfl, rfl⟩
  cases h1 : inR R 1 400 with
  | false =>
    rw [h1] at HS
    clear h1
    go_wp2_with fail
    go_ret
    exact ⟨by rw [HS.out]; rfl, rfl⟩
  | true =>
  obtain ⟨a1, a2⟩ := inR_iff.1 h1
  rw [h1] at HS
  clear h1
  go_wp2_with fail
  refine (inRange_any _ _ _ _).mono ?_
  rintro e w2 ⟨rfl, rfl⟩
  cases h2 : inR C 1 400 with
  | false =>
    rw [h2] at HS
    clear h2
    go_wp2_with fail
    go_ret
    exact ⟨by rw [HS.out]; rfl, rfl⟩
  | true =>
  obtain ⟨c1, c2⟩ := inR_iff.1 h2
  rw [h2] at HS
  clear h2
  obtain ⟨m1, m2⟩ := HM.out ⟨by omega, a2⟩ ⟨by omega, c2⟩
  obtain ⟨p, hp⟩ : ∃ p, R * C = p := ⟨_, rfl⟩
  rw [hp] at m1 m2 HS
  go_wp2_with fail
  go_ret
  exact ⟨by rw [HS.out]; rfl, rfl⟩
/-- Whether a part lies within a raster. -/
def conB (R C r c h v : Int) : Bool := decide (0 ≤ r) && (decide (0 ≤ c) && (inR h 1 R && (inR v 1 C && (decide (r ≤ R - h) && decide (c ≤ C - v)))))
theorem con_in {R C : Int} {x : It} (hb : boxB x = true) : conB R C x.rw x.cl (boxR x) (boxC x) = inB R C x := by
  obtain ⟨h1, h2, h3, h4⟩ := box_pos hb
  unfold conB inB inR
  rw [hb, Bool.eq_iff_iff]
  simp only [Bool.and_eq_true, decide_eq_true_eq]
  constructor
  · rintro ⟨a, b, c, d, e, f⟩
    exact ⟨trivial, by omega, by omega, by omega, by omega⟩
  · rintro ⟨-, a, b, c, d⟩
    exact ⟨by omega, by omega, by omega, by omega, by omega, by omega⟩
abbrev RaT : TypeId := 98
set_option maxHeartbeats 8000000 in
theorem contains_any (R C r c h v : Int) (hR : 1 ≤ R ∧ R ≤ 400) (hC : 1 ≤ C ∧ C ≤ 400) (hh : 1 ≤ h ∧ h ≤ 10000) (hv : 1 ≤ v ∧ v ≤ 10000) (px : Value) (w : World) :
    Calls Tryz.prog 54 #[.agg #[.int .i64 R, .int .i64 C, px], .int .i64 r, .int .i64 c, .int .i64 h, .int .i64 v] w fun e w' => e = .returned (.bool (conB R C r c h v)) ∧ Below w.heap.size w w' := by
  have B0 := Lib.hid (below1 w (.cells #[.int .i64 R, .int .i64 C, px] RaT))
  have HS := Lib.hid (show conB R C r c h v = (decide (0 ≤ r) && (decide (0 ≤ c) && (inR h 1 R && (inR v 1 C && (decide (r ≤ R - h) && decide (c ≤ C - v)))))) from rfl)
  go_enter Tryz.func54, Tryz.ntmps54
  by_cases h1 : 0 ≤ r
  rotate_left
  · rw [decide_eq_false h1] at HS
    go_wp2_with fail
    go_ret
    exact ⟨by rw [HS.out]; rfl, B0.out⟩
  rw [decide_eq_true h1] at HS
  by_cases h2 : 0 ≤ c
  rotate_left
  · rw [decide_eq_false h2] at HS
    go_wp2_with fail
    go_ret
    exact ⟨by rw [HS.out]; rfl, B0.out⟩
  rw [decide_eq_true h2] at HS
  go_wp2_with fail
  refine (inRange_any _ _ _ _).mono ?_
  rintro e w2 ⟨rfl, rfl⟩
  cases h3 : inR h 1 R with
  | false =>
    rw [h3] at HS
    clear h3
    go_wp2_with fail
    go_ret
    exact ⟨by rw [HS.out]; rfl, B0.out⟩
  | true =>
  rw [h3] at HS
  clear h3
  go_wp2_with fail
  refine (inRange_any _ _ _ _).mono ?_
  rintro e w2 ⟨rfl, rfl⟩
  cases h4 : inR v 1 C with
  | false =>
    rw [h4] at HS
    clear h4
    go_wp2_with fail
    go_ret
    exact ⟨by rw [HS.out]; rfl, B0.out⟩
  | true =>
  rw [h4] at HS
  clear h4
  by_cases h5 : r ≤ R - h
  rotate_left
  · rw [decide_eq_false h5] at HS
    go_wp2_with fail
    go_ret
    exact ⟨by rw [HS.out]; rfl, B0.out⟩
  rw [decide_eq_true h5] at HS
  go_wp2_with fail
  go_ret
  exact ⟨by rw [HS.out]; rfl, B0.out⟩
theorem all_no {R C : Int} {zs : List It} {i : Nat} (h : i < zs.length) (hx : inB R C (giI zs i) = false) : labB R C zs = false := by
  unfold labB
  have e : giI zs i = zs[i] := by unfold giI; rw [List.getD_eq_getElem?_getD, List.getElem?_eq_getElem h]; rfl
  rw [e] at hx
  cases hl : zs.all (inB R C)
  · simp
  · rw [List.all_eq_true.1 hl _ (List.getElem_mem h)] at hx; cases hx
theorem all_yes {R C : Int} {zs : List It} (hs : szB R C = true) (hn : zs.length ≤ 12) (hx : ∀ i, i < zs.length → inB R C (giI zs i) = true) : labB R C zs = true := by
  unfold labB
  rw [hs, decide_eq_true hn]
  have : zs.all (inB R C) = true := List.all_eq_true.2 fun x hx2 => by
    obtain ⟨i, hi, rfl⟩ := List.getElem_of_mem hx2
    have := hx i hi
    rwa [show giI zs i = zs[i] by unfold giI; rw [List.getD_eq_getElem?_getD, List.getElem?_eq_getElem hi]; rfl] at this
  rw [this]; rfl
end Go.Proofs.YtdcmebegnekkcaaGreat
/-
  Valid labels: the walks of both programs.
-/
namespace Go.Proofs.YtdcmebegnekkcaaGreat
open Go.RowKit
set_option linter.unusedVariables false

set_option maxHeartbeats 16000000 in
set_option maxRecDepth 100000 in
theorem specIsLabel_any {w : World} {a : Option Addr} {n cap : Nat} {zs : List It} (R C : Int) (hr : ItsAt w a n zs) (htx : ∀ i, i < n → (giI zs i).tx.length ≤ 1048576) :
    Calls Tryz.prog 16 #[lbV R C (.slice a n cap)] w fun e w' => e = .returned (.bool (labB R C zs)) ∧ Below w.heap.size w w' := by
  have L0 := Lib.hid (LbB.new w R C (.slice a n cap) LbT)
  have B0 := Lib.hid (below1 w (.cells #[.int .i64 R, .int .i64 C, .slice a n cap] LbT))
  have HR := Lib.hid (hr.below (below1 w (.cells #[.int .i64 R, .int .i64 C, .slice a n cap] LbT)))
  have HTX := Lib.hid htx
  have HLN := Lib.hid hr.len
  have hsm := hr.small
  have HU := Lib.hid (show labB R C zs = (szB R C && (decide (zs.length ≤ 12) && zs.all (inB R C))) from rfl)
  have HSB := Lib.hid (fun h => szB_bd (R := R) (C := C) h)
  clear hr htx
  go_enter Tryz.func16, Tryz.ntmps16
  obtain ⟨X, hX⟩ : ∃ X, w.heap.size = X := ⟨_, rfl⟩
  obtain ⟨w1, hw1⟩ : ∃ w1, w.alloc (.cells #[.int .i64 R, .int .i64 C, .slice a n cap] LbT) = w1 := ⟨_, rfl⟩
  rw [hw1] at L0 B0 HR
  rw [hX] at L0
  have l0 := L0.out.c0
  have l1 := L0.out.c1
  have l2 := L0.out.c2
  have hX1 := L0.out.lt
  go_wp2_with fail
  (try rw [show w.alloc (.cells #[.int .i64 R, .int .i64 C, .slice a n cap] LbT) = w1 from hw1])
  clear hw1
  refine (l20Size_any R C _).mono ?_
  rintro e w2 ⟨rfl, rfl⟩
  cases hs : szB R C with
  | false =>
    rw [hs] at HU
    clear hs
    go_wp2_with fail
    go_ret
    exact ⟨by rw [HU.out]; rfl, hX ▸ B0.out⟩
  | true =>
  have HS := Lib.hid hs
  obtain ⟨s1, s2, s3, s4⟩ := HSB.out hs
  clear hs
  by_cases h12 : n ≤ 12
  rotate_left
  · have HE := Lib.hid (show labB R C zs = false from by rw [HU.out, decide_eq_false (by rw [HLN.out]; exact h12)]; simp)
    have hgt : (12 : Int) < (n : Int) := by omega
    go_wp2_with fail
    go_ret
    exact ⟨by rw [HE.out]; rfl, hX ▸ B0.out⟩
  have hgt : ¬ (12 : Int) < (n : Int) := by omega
  have HH12 := Lib.hid h12
  go_wp2_with fail
  go_loopw [3] (fun ti wr => ∃ i : Nat, i ≤ n ∧ ti = .int .i64 (i : Int) ∧ Hid (∀ j, j < i → inB R C (giI zs j) = true) ∧ Hid (Below w1.heap.size w1 wr)) (fun ti _ => n - (intOf ti).toNat)
  case atStart => exact ⟨0, by omega, rfl, Lib.hid (fun j hj => by omega), Lib.hid (Below.refl _ _)⟩
  case round =>
    obtain ⟨i, hi, rfl, hH, hB⟩ := hrel
    have L2 := Lib.hid (L0.out.below hB.out)
    have B2 := Lib.hid (B0.out.trans (hB.out.mono B0.out.size))
    clear l0 l1 l2 hX1
    have l0 := L2.out.c0
    have l1 := L2.out.c1
    have l2 := L2.out.c2
    have hX1 := L2.out.lt
    by_cases hlt : i < n
    · obtain ⟨b, off, e1, hC⟩ := (HR.out.below hB.out).one hlt
      subst e1
      have HM := Lib.hid (show inB R C (giI zs i) = true → ∀ j, j < i + 1 → inB R C (giI zs j) = true from fun hh j hj => by
        by_cases e : j = i
        · subst e; exact hh
        · exact hH.out j (by omega))
      have HNO := Lib.hid (show inB R C (giI zs i) = false → labB R C zs = false from fun hh => all_no (by rw [HLN.out]; exact hlt) hh)
      have HI := Lib.hid (show inB R C (giI zs i) = (boxB (giI zs i) && (decide (boxR (giI zs i) ≤ R) && (decide (boxC (giI zs i) ≤ C) && (inR (giI zs i).rw 0 (R - boxR (giI zs i)) && inR (giI zs i).cl 0 (C - boxC (giI zs i)))))) from rfl)
      have HBX := Lib.hid (fun (V : World) => specItemBox_any (giI zs i) (HTX.out i hlt) V)
      have HPO := Lib.hid (fun h => box_pos (x := giI zs i) h)
      have HBE := Lib.hid (show boxE (giI zs i) = if boxB (giI zs i) = true then 0 else 1 from rfl)
      generalize giI zs i = x at *
      have c0 := hC.c0
      have c1 := hC.c1
      have c2 := hC.c2
      have c3 := hC.c3
      have c4 := hC.c4
      have c5 := hC.c5
      have c6 := hC.c6
      have c7 := hC.c7
      have c8 := hC.c8
      have hli : (i : Int) < (n : Int) := by omega
      have I3 := Lib.hid (ItB.new wr x ITy)
      have L3 := Lib.hid (L2.out.below (below1 wr (.cells (itL x).toArray ITy)))
      have D3 := Lib.hid (hB.out.trans ((below1 wr (.cells (itL x).toArray ITy)).mono hB.out.size))
      clear L2 B2
      go_wp2_with fail
      refine (HBX.out _).mono ?_
      rintro e w4 ⟨rfl, hb4⟩
      have I4 := Lib.hid (I3.out.below hb4)
      have L4 := Lib.hid (L3.out.below hb4)
      have D4 := Lib.hid (D3.out.trans (hb4.mono D3.out.size))
      have B4 := Lib.hid (B0.out.trans (D4.out.mono B0.out.size))
      generalize wr.heap.size = Q at *
      clear hb4 I3 L3 D3 c0 c1 c2 c3 c4 c5 c6 c7 c8 hC l0 l1 l2 hX1 hB
      have l0 := L4.out.c0
      have l1 := L4.out.c1
      have l2 := L4.out.c2
      have hX1 := L4.out.lt
      have i1 := I4.out.c1
      have i2 := I4.out.c2
      have hQ1 := I4.out.lt
      cases hb : boxB x with
      | false =>
        have HNO2 := Lib.hid (HNO.out (by rw [HI.out, hb]; rfl))
        rw [hb] at HBE
        have he : boxE x = 1 := HBE.out
        rw [he]
        clear hb he
        go_wp2_with fail
        go_ret
        exact ⟨by rw [HNO2.out]; rfl, hX ▸ B4.out⟩
      | true =>
      obtain ⟨p1, p2, p3, p4⟩ := HPO.out hb
      rw [hb] at HBE HI
      have he : boxE x = 0 := HBE.out
      rw [he]
      clear hb he
      generalize boxR x = h at *
      generalize boxC x = v at *
      by_cases k1 : h ≤ R
      rotate_left
      · have HNO2 := Lib.hid (HNO.out (by rw [HI.out, decide_eq_false k1]; rfl))
        have k1' : R < h := by omega
        go_wp2_with fail
        go_ret
        exact ⟨by rw [HNO2.out]; rfl, hX ▸ B4.out⟩
      rw [decide_eq_true k1] at HI
      have k1' : ¬ R < h := by omega
      by_cases k2 : v ≤ C
      rotate_left
      · have HNO2 := Lib.hid (HNO.out (by rw [HI.out, decide_eq_false k2]; rfl))
        have k2' : C < v := by omega
        go_wp2_with fail
        go_ret
        exact ⟨by rw [HNO2.out]; rfl, hX ▸ B4.out⟩
      rw [decide_eq_true k2] at HI
      have k2' : ¬ C < v := by omega
      go_wp2_with fail
      refine (l01In_any _ _ _ _).mono ?_
      rintro e w5 ⟨rfl, rfl⟩
      cases h3 : inR x.rw 0 (R - h) with
      | false =>
        have HNO2 := Lib.hid (HNO.out (by rw [HI.out, h3]; rfl))
        clear h3
        go_wp2_with fail
        go_ret
        exact ⟨by rw [HNO2.out]; rfl, hX ▸ B4.out⟩
      | true =>
      rw [h3] at HI
      clear h3
      go_wp2_with fail
      refine (l01In_any _ _ _ _).mono ?_
      rintro e w5 ⟨rfl, rfl⟩
      cases h4 : inR x.cl 0 (C - v) with
      | false =>
        have HNO2 := Lib.hid (HNO.out (by rw [HI.out, h4]; rfl))
        clear h4
        go_wp2_with fail
        go_ret
        exact ⟨by rw [HNO2.out]; rfl, hX ▸ B4.out⟩
      | true =>
        have HM2 := Lib.hid (HM.out (by rw [HI.out, h4]; rfl))
        clear h4
        go_wp2_with fail
        go_roundw
        case rel => exact ⟨i + 1, by omega, by go_num, HM2, D4⟩
        case measure => simp [intOf]; omega
    · obtain rfl : i = n := by omega
      have HE := Lib.hid (all_yes HS.out (by rw [HLN.out]; exact HH12.out) (fun j hj => hH.out j (by rw [HLN.out] at hj; exact hj)))
      go_wp2_with fail
      go_ret
      exact ⟨by rw [HE.out]; rfl, hX ▸ B2.out⟩
end Go.Proofs.YtdcmebegnekkcaaGreat
