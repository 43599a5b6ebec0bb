/-
  The parts ShC, Boxd, Boxe.
-/
import Derived.Shelf.Small.Strs
import Derived.Test.YtdcmebegnekkcaaGreatProg
import Derived.Test.YtdcmebegnekkcaaGreatBoxc
/-
  strings.IndexByte: the shelf's contract at this program, laid in plain words.
-/
namespace Go.Proofs.YtdcmebegnekkcaaGreat
open Go.Shelf
def Tryz.lays137_ren : Go.Shelf.Ren := ⟨fun | 137 => 118 | 217 => 122 | 266 => 130 | n => n, fun | 9 => 9 | 5 => 5 | 3 => 3 | n => n, fun | n => n⟩
theorem Tryz.lays137 : Go.Proofs.Lays.n137 Tryz.prog Tryz.lays137_ren := {
  mixed := by kernel_rfl
  f137 := Tryz.func118.trans (congrArg some (by kernel_rfl))
  f217 := Tryz.func122.trans (congrArg some (by kernel_rfl))
  f266 := Tryz.func130.trans (congrArg some (by kernel_rfl))
  t3 := Tryz.underlying3
  a3 := Tryz.isAgg3
  z3 := Tryz.sizeOf3
  v3 := Tryz.zeroValue3
  t5 := Tryz.underlying5
  a5 := Tryz.isAgg5
  z5 := Tryz.sizeOf5
  v5 := Tryz.zeroValue5
  t9 := Tryz.underlying9
  a9 := Tryz.isAgg9
  z9 := Tryz.sizeOf9
  v9 := Tryz.zeroValue9 }
open Go.RowKit in
/-- strings.IndexByte. -/
theorem Tryz.strings_IndexByte (s : ByteArray) (c : Int) (w : World) :
    Calls Tryz.prog 118 #[.string s, .int .u8 c] w fun e w' => e = .returned (.int .i64 (Lib.indexByte s.data.toList c.toNat.toUInt8)) ∧ w' = w := Any.strings_IndexByte Tryz.lays137 s c w
end Go.Proofs.YtdcmebegnekkcaaGreat
/-
  Glyphs and the search for a byte, in the program.
-/
namespace Go.Proofs.YtdcmebegnekkcaaGreat
open Go.RowKit
set_option linter.unusedVariables false

theorem index_count (l : List UInt8) (b : UInt8) : (0 ≤ Lib.indexByte l b) ↔ l.count b ≠ 0 := by
  induction l with
  | nil => simp [Lib.indexByte]
  | cons x l ih =>
    unfold Lib.indexByte
    by_cases h : x = b
    · subst h
      rw [if_pos (by simp), List.count_cons_self]
      simp
    · rw [if_neg (by simpa using h), List.count_cons_of_ne (by simpa using h)]
      by_cases h2 : Lib.indexByte l b = -1
      · rw [if_pos (by simp [h2])]
        rw [h2] at ih
        exact ih
      · have := Lib.indexByte_ge l b
        rw [if_neg (by simpa using h2), ← ih]
        omega
theorem strIndex_any (l : List UInt8) (w : World) : Calls Tryz.prog 118 #[.string (str l), .int .u8 10] w fun e w' => (∃ z, e = .returned (.int .i64 z) ∧ ((0 ≤ z) ↔ l.count 10 ≠ 0)) ∧ w = w' := by
  refine (Tryz.strings_IndexByte (str l) 10 w).mono ?_
  rintro e w' ⟨rfl, rfl⟩
  refine ⟨⟨_, rfl, ?_⟩, rfl⟩
  rw [str_list]
  exact index_count l 10
abbrev A5T : TypeId := 58
abbrev z5 : Array Value := #[.int .i64 0, .int .i64 0, .int .i64 0, .int .i64 0, .int .i64 0]
def gl5 (b : Int) : List Int := if b = 32 then [0, 0, 0, 0, 0] else if hasG b = true then rowG (glyA b) 5 else [0, 0, 0, 0, 0]
abbrev gl5V (b : Int) : Value := .agg ((gl5 b).map (Value.int .i64)).toArray
abbrev set5 (w : World) (B : Nat) (v0 v1 v2 v3 v4 : Value) : World := ((((w.setCell ⟨B, 0, none⟩ v0).setCell ⟨B, 1, none⟩ v1).setCell ⟨B, 2, none⟩ v2).setCell ⟨B, 3, none⟩ v3).setCell ⟨B, 4, none⟩ v4
theorem hp_set5 {w : World} {B : Nat} {f : Nat → Value} (h : Tf w B 5 A5T f) (v0 v1 v2 v3 v4 : Value) : (set5 w B v0 v1 v2 v3 v4).heap[B]? = some (.cells #[v0, v1, v2, v3, v4] A5T (0, 0)) := by
  have h5 := ((((h.set 0 v0).set 1 v1).set 2 v2).set 3 v3).set 4 v4
  exact tf_obj h5 [v0, v1, v2, v3, v4] rfl fun i hi => by
    rcases (show i = 0 ∨ i = 1 ∨ i = 2 ∨ i = 3 ∨ i = 4 by omega) with rfl | rfl | rfl | rfl | rfl <;> rfl
theorem below_set5 {w0 w : World} {B M : Nat} (h : Below M w0 w) (hB : M ≤ B) (v0 v1 v2 v3 v4 : Value) : Below M w0 (set5 w B v0 v1 v2 v3 v4) :=
  ((((h.setCell (p := ⟨B, 0, none⟩) hB _).setCell (p := ⟨B, 1, none⟩) hB _).setCell (p := ⟨B, 2, none⟩) hB _).setCell (p := ⟨B, 3, none⟩) hB _).setCell (p := ⟨B, 4, none⟩) hB _
theorem z5_at {w : World} {B : Nat} (h : Tf w B 5 A5T (fun i => z5[i]!)) : ∀ j, j < 5 → w.cell? ⟨B, j, none⟩ = some (.int .i64 0) := fun j hj => (h.cell hj).trans (by
  rcases (show j = 0 ∨ j = 1 ∨ j = 2 ∨ j = 3 ∨ j = 4 by omega) with rfl | rfl | rfl | rfl | rfl <;> rfl)
theorem dig_at {S : ByteArray} (hS : S = str (glyS.take 50)) {n k j : Nat} (hn : n ≤ 9) (hk : k < 5) (hj : 5 * n + k = j) : ∃ h : j < S.size, ((S[j]'h).toNat : Int) = glyF n k + 48 := by
  subst hS
  have h1 : (glyS.take 50).length = 50 := by rw [List.length_take, glyS_len]; rfl
  have h : j < (str (glyS.take 50)).size := by rw [str_size, h1]; omega
  refine ⟨h, ?_⟩
  rw [str_get, List.getElem_take]
  exact glyS_at hj (by rw [glyS_len]; omega)
theorem let_at {S : ByteArray} (hS : S = str (glyS.drop 50)) {n k j : Nat} (hn : n ≤ 25) (hk : k < 5) (hj : 5 * n + k = j) : ∃ h : j < S.size, ((S[j]'h).toNat : Int) = glyF (n + 10) k + 48 := by
  subst hS
  have h1 : (glyS.drop 50).length = 130 := by rw [List.length_drop, glyS_len]
  have h : j < (str (glyS.drop 50)).size := by rw [str_size, h1]; omega
  refine ⟨h, ?_⟩
  rw [str_get, List.getElem_drop]
  exact glyS_at (by omega) (by rw [glyS_len]; omega)
theorem u8_small {z : Int} (h1 : 0 ≤ z) (h2 : z ≤ 7) : IntKind.u8.wrap z = z ∧ IntKind.u8.wrap (z + 48 - 48) = z := by
  rcases (show z = 0 ∨ z = 1 ∨ z = 2 ∨ z = 3 ∨ z = 4 ∨ z = 5 ∨ z = 6 ∨ z = 7 by omega) with rfl | rfl | rfl | rfl | rfl | rfl | rfl | rfl <;> exact ⟨rfl, rfl⟩
def upG (A k : Nat) (i : Nat) : Value := .int .i64 (if i < k then glyF A i else 0)
theorem upG_set {A k i : Nat} : upd (upG A k) k (.int .i64 (glyF A k)) i = upG A (k + 1) i := by
  unfold upd upG
  by_cases h : i = k
  · subst h; rw [if_pos rfl, if_pos (by omega)]
  · rw [if_neg h]
    by_cases h2 : i < k
    · rw [if_pos h2, if_pos (by omega)]
    · rw [if_neg h2, if_neg (by omega)]
set_option maxHeartbeats 8000000 in
set_option maxRecDepth 100000 in
theorem glyph_any (b : Int) (w : World) :
    Calls Tryz.prog 30 #[.int .i64 b] w fun e w' => e = .returned (.tuple #[gl5V b, .bool (hasG b)]) ∧ Below w.heap.size w w' := by
  have TX := Lib.hid ((Tf.mkd w z5 A5T).below (below1 _ (.cells z5 A5T)) (by simp))
  have TY := Lib.hid (Tf.mkd (w.alloc (.cells z5 A5T)) z5 A5T)
  have B2 := Lib.hid ((below1 w (.cells z5 A5T)).trans ((below1 (w.alloc (.cells z5 A5T)) (.cells z5 A5T)).mono (by simp)))
  have HRES := Lib.hid (show Tryz.f30.results = #[.cell 2 A5T, .tmp 3] by kernel_rfl)
  go_enter Tryz.func30, Tryz.ntmps30
  have hY1 : (w.alloc (.cells z5 A5T)).heap.size = w.heap.size + 1 := by simp
  rw [hY1] at TY
  go_upto_region 2 with (fail)
  generalize (w.alloc (.cells z5 A5T)).alloc (.cells z5 A5T) = w2 at *
  obtain ⟨X, hX⟩ : ∃ X, w.heap.size = X := ⟨_, rfl⟩
  rw [hX] at TX TY B2
  rw [hX]
  have hX2 : X < w2.heap.size := TX.out.lt
  have hY2 : X + 1 < w2.heap.size := TY.out.lt
  have zx := z5_at TX.out
  have zy := z5_at TY.out
  have fx := TX.out.fz
  have fy := TY.out.fz
  have x0 := zx 0 (by omega)
  have x1 := zx 1 (by omega)
  have x2 := zx 2 (by omega)
  have x3 := zx 3 (by omega)
  have x4 := zx 4 (by omega)
  have y0 := zy 0 (by omega)
  have y1 := zy 1 (by omega)
  have y2 := zy 2 (by omega)
  have y3 := zy 3 (by omega)
  have y4 := zy 4 (by omega)
  have f0 := fx 0
  have f1 := fx 1
  have f2 := fx 2
  have f3 := fx 3
  have f4 := fx 4
  clear zx zy fx fy hY1
  have HS0 := Lib.hid (hp_set5 TX.out (.int .i64 0) (.int .i64 0) (.int .i64 0) (.int .i64 0) (.int .i64 0))
  have HB0 := Lib.hid (below_set5 B2.out (Nat.le_refl _) (.int .i64 0) (.int .i64 0) (.int .i64 0) (.int .i64 0) (.int .i64 0))
  by_cases h32 : b = 32
  · have hb : (b == 32) = true := by simp [h32]
    have HG := Lib.hid (show gl5 b = [0, 0, 0, 0, 0] ∧ hasG b = true from ⟨by unfold gl5; rw [if_pos h32], by unfold hasG; simp [h32]⟩)
    clear h32
    go_wp2_with fail
    exact ret_cell2 HRES.out Tryz.underlying58 rfl (by kernel_rfl) rfl rfl HS0.out ⟨by rw [HG.out.2]; unfold gl5V; rw [HG.out.1]; rfl, hX ▸ HB0.out⟩
  have hb : (b == 32) = false := by simp [h32]
  by_cases hd : 48 ≤ b ∧ b ≤ 57
  · obtain ⟨d1, d2⟩ := hd
    have i1 : inR b 48 57 = true := inR_true d1 d2
    obtain ⟨n, e1, hn, hA⟩ : ∃ n : Nat, b - 48 = (n : Int) ∧ n ≤ 9 ∧ glyA b = n := ⟨(b - 48).toNat, by omega, by omega, by unfold glyA; rw [if_pos d2]⟩
    have hgb : hasG b = true := by unfold hasG; rw [i1]; simp
    have HG := Lib.hid (show gl5 b = rowG n 5 ∧ hasG b = true from ⟨by unfold gl5; rw [if_neg h32, if_pos hgb, hA], hgb⟩)
    clear hgb hA
    go_wp2_with fail
    refine (inRange_any _ _ _ _).mono ?_
    rintro e w3 ⟨rfl, rfl⟩
    rw [i1]
    go_wp2_with fail
    generalize hS : (ByteArray.mk _) = S at *
    have HSS := Lib.hid (show S = str (glyS.take 50) from by rw [← hS]; rfl)
    clear hS
    have TY0 := Lib.hid (TY.out.congr (g := upG n 0) fun i hi => by
      have hi : i < 5 := hi
      rcases (show i = 0 ∨ i = 1 ∨ i = 2 ∨ i = 3 ∨ i = 4 by omega) with rfl | rfl | rfl | rfl | rfl <;> rfl)
    clear x0 x1 x2 x3 x4 y0 y1 y2 y3 y4 f0 f1 f2 f3 f4 HS0 HB0
    go_loopw [24] (fun ti wr => ∃ k : Nat, k ≤ 5 ∧ ti = .int .i64 (k : Int) ∧ Hid (Tf wr (X + 1) 5 A5T (upG n k)) ∧ Hid (Tf wr X 5 A5T (fun i => z5[i]!)) ∧ Hid (Below X w wr)) (fun ti _ => 5 - (intOf ti).toNat)
    case atStart => exact ⟨0, by omega, rfl, TY0, TX, B2⟩
    case round =>
      obtain ⟨k, hk, rfl, hTY, hTX, hB⟩ := hrel
      clear hX2 hY2 TX TY B2 TY0
      have hX2 : X < wr.heap.size := hTX.out.lt
      have hY2 : X + 1 < wr.heap.size := hTY.out.lt
      by_cases hlt : k < 5
      · obtain ⟨j, hj⟩ : ∃ j : Nat, 5 * n + k = j := ⟨_, rfl⟩
        obtain ⟨hjl, hjv⟩ := dig_at HSS.out hn hlt hj
        have hjI : 5 * (n : Int) + (k : Int) = (j : Int) := by omega
        obtain ⟨g1, g2⟩ := glyF_bd (A := n) (k := k) (by omega)
        have fk := hTY.out.fz k
        have ck := hTY.out.cell hlt
        have T9 := Lib.hid ((hTY.out.set k (.int .i64 (glyF n k))).congr (g := upG n (k + 1)) fun i hi => upG_set)
        have T8 := Lib.hid (hTX.out.other (H := X + 1) (by omega) k (.int .i64 (glyF n k)))
        have B9 := Lib.hid (hB.out.setCell (p := ⟨X + 1, k, none⟩) (by show X ≤ X + 1; omega) (.int .i64 (glyF n k)))
        clear hj
        have hu := Lib.hid (u8_small g1 g2)
        generalize glyF n k = z at *
        go_wp2_with fail
        go_roundw
        case rel => exact ⟨k + 1, by omega, by go_num, T9, T8, B9⟩
        case measure => simp [intOf]; omega
      · obtain rfl : k = 5 := by omega
        have zy := fun j (hj : j < 5) => hTY.out.cell hj
        have zx := z5_at hTX.out
        have fx := hTX.out.fz
        have x0 := zx 0 (by omega)
        have x1 := zx 1 (by omega)
        have x2 := zx 2 (by omega)
        have x3 := zx 3 (by omega)
        have x4 := zx 4 (by omega)
        have y0 : wr.cell? ⟨X + 1, 0, none⟩ = some (.int .i64 (glyF n 0)) := zy 0 (by omega)
        have y1 : wr.cell? ⟨X + 1, 1, none⟩ = some (.int .i64 (glyF n 1)) := zy 1 (by omega)
        have y2 : wr.cell? ⟨X + 1, 2, none⟩ = some (.int .i64 (glyF n 2)) := zy 2 (by omega)
        have y3 : wr.cell? ⟨X + 1, 3, none⟩ = some (.int .i64 (glyF n 3)) := zy 3 (by omega)
        have y4 : wr.cell? ⟨X + 1, 4, none⟩ = some (.int .i64 (glyF n 4)) := zy 4 (by omega)
        have f0 := fx 0
        have f1 := fx 1
        have f2 := fx 2
        have f3 := fx 3
        have f4 := fx 4
        clear zx zy fx HSS
        go_wp2_with fail
        have HS := hp_set5 hTX.out (.int .i64 (glyF n 0)) (.int .i64 (glyF n 1)) (.int .i64 (glyF n 2)) (.int .i64 (glyF n 3)) (.int .i64 (glyF n 4))
        have HB := below_set5 hB.out (Nat.le_refl _) (.int .i64 (glyF n 0)) (.int .i64 (glyF n 1)) (.int .i64 (glyF n 2)) (.int .i64 (glyF n 3)) (.int .i64 (glyF n 4))
        exact ret_cell2 HRES.out Tryz.underlying58 rfl (by kernel_rfl) rfl rfl HS ⟨by rw [HG.out.2]; unfold gl5V; rw [HG.out.1]; rfl, hX ▸ HB⟩
  by_cases hl : 65 ≤ b ∧ b ≤ 90
  · obtain ⟨d1, d2⟩ := hl
    have i1 : inR b 48 57 = false := inR_false hd
    have i2 : inR b 65 90 = true := inR_true d1 d2
    obtain ⟨n, e1, hn, hA⟩ : ∃ n : Nat, b - 65 = (n : Int) ∧ n ≤ 25 ∧ glyA b = n + 10 := ⟨(b - 65).toNat, by omega, by omega, by unfold glyA; rw [if_neg (by omega)]; omega⟩
    have hgb : hasG b = true := by unfold hasG; rw [i2]; simp
    have HG := Lib.hid (show gl5 b = rowG (n + 10) 5 ∧ hasG b = true from ⟨by unfold gl5; rw [if_neg h32, if_pos hgb, hA], hgb⟩)
    clear hgb hA
    go_wp2_with fail
    refine (inRange_any _ _ _ _).mono ?_
    rintro e w3 ⟨rfl, rfl⟩
    rw [i1]
    go_wp2_with fail
    refine (inRange_any _ _ _ _).mono ?_
    rintro e w3 ⟨rfl, rfl⟩
    rw [i2]
    go_wp2_with fail
    generalize hS : (ByteArray.mk _) = S at *
    have HSS := Lib.hid (show S = str (glyS.drop 50) from by rw [← hS]; rfl)
    clear hS
    have TY0 := Lib.hid (TY.out.congr (g := upG (n + 10) 0) fun i hi => by
      have hi : i < 5 := hi
      rcases (show i = 0 ∨ i = 1 ∨ i = 2 ∨ i = 3 ∨ i = 4 by omega) with rfl | rfl | rfl | rfl | rfl <;> rfl)
    clear x0 x1 x2 x3 x4 y0 y1 y2 y3 y4 f0 f1 f2 f3 f4 HS0 HB0
    go_loopw [24] (fun ti wr => ∃ k : Nat, k ≤ 5 ∧ ti = .int .i64 (k : Int) ∧ Hid (Tf wr (X + 1) 5 A5T (upG (n + 10) k)) ∧ Hid (Tf wr X 5 A5T (fun i => z5[i]!)) ∧ Hid (Below X w wr)) (fun ti _ => 5 - (intOf ti).toNat)
    case atStart => exact ⟨0, by omega, rfl, TY0, TX, B2⟩
    case round =>
      obtain ⟨k, hk, rfl, hTY, hTX, hB⟩ := hrel
      clear hX2 hY2 TX TY B2 TY0
      have hX2 : X < wr.heap.size := hTX.out.lt
      have hY2 : X + 1 < wr.heap.size := hTY.out.lt
      by_cases hlt : k < 5
      · obtain ⟨j, hj⟩ : ∃ j : Nat, 5 * n + k = j := ⟨_, rfl⟩
        obtain ⟨hjl, hjv⟩ := let_at HSS.out hn hlt hj
        have hjI : 5 * (n : Int) + (k : Int) = (j : Int) := by omega
        obtain ⟨g1, g2⟩ := glyF_bd (A := (n + 10)) (k := k) (by omega)
        have fk := hTY.out.fz k
        have ck := hTY.out.cell hlt
        have T9 := Lib.hid ((hTY.out.set k (.int .i64 (glyF (n + 10) k))).congr (g := upG (n + 10) (k + 1)) fun i hi => upG_set)
        have T8 := Lib.hid (hTX.out.other (H := X + 1) (by omega) k (.int .i64 (glyF (n + 10) k)))
        have B9 := Lib.hid (hB.out.setCell (p := ⟨X + 1, k, none⟩) (by show X ≤ X + 1; omega) (.int .i64 (glyF (n + 10) k)))
        clear hj
        have hu := Lib.hid (u8_small g1 g2)
        generalize glyF (n + 10) k = z at *
        go_wp2_with fail
        go_roundw
        case rel => exact ⟨k + 1, by omega, by go_num, T9, T8, B9⟩
        case measure => simp [intOf]; omega
      · obtain rfl : k = 5 := by omega
        have zy := fun j (hj : j < 5) => hTY.out.cell hj
        have zx := z5_at hTX.out
        have fx := hTX.out.fz
        have x0 := zx 0 (by omega)
        have x1 := zx 1 (by omega)
        have x2 := zx 2 (by omega)
        have x3 := zx 3 (by omega)
        have x4 := zx 4 (by omega)
        have y0 : wr.cell? ⟨X + 1, 0, none⟩ = some (.int .i64 (glyF (n + 10) 0)) := zy 0 (by omega)
        have y1 : wr.cell? ⟨X + 1, 1, none⟩ = some (.int .i64 (glyF (n + 10) 1)) := zy 1 (by omega)
        have y2 : wr.cell? ⟨X + 1, 2, none⟩ = some (.int .i64 (glyF (n + 10) 2)) := zy 2 (by omega)
        have y3 : wr.cell? ⟨X + 1, 3, none⟩ = some (.int .i64 (glyF (n + 10) 3)) := zy 3 (by omega)
        have y4 : wr.cell? ⟨X + 1, 4, none⟩ = some (.int .i64 (glyF (n + 10) 4)) := zy 4 (by omega)
        have f0 := fx 0
        have f1 := fx 1
        have f2 := fx 2
        have f3 := fx 3
        have f4 := fx 4
        clear zx zy fx HSS
        go_wp2_with fail
        have HS := hp_set5 hTX.out (.int .i64 (glyF (n + 10) 0)) (.int .i64 (glyF (n + 10) 1)) (.int .i64 (glyF (n + 10) 2)) (.int .i64 (glyF (n + 10) 3)) (.int .i64 (glyF (n + 10) 4))
        have HB := below_set5 hB.out (Nat.le_refl _) (.int .i64 (glyF (n + 10) 0)) (.int .i64 (glyF (n + 10) 1)) (.int .i64 (glyF (n + 10) 2)) (.int .i64 (glyF (n + 10) 3)) (.int .i64 (glyF (n + 10) 4))
        exact ret_cell2 HRES.out Tryz.underlying58 rfl (by kernel_rfl) rfl rfl HS ⟨by rw [HG.out.2]; unfold gl5V; rw [HG.out.1]; rfl, hX ▸ HB⟩
  have i1 : inR b 48 57 = false := inR_false hd
  have i2 : inR b 65 90 = false := inR_false hl
  have HG := Lib.hid (show gl5 b = [0, 0, 0, 0, 0] ∧ hasG b = false from by
    have h : hasG b = false := by unfold hasG; rw [i1, i2, decide_eq_false h32]; rfl
    exact ⟨by unfold gl5; rw [if_neg h32, if_neg (by rw [h]; simp)], h⟩)
  go_wp2_with fail
  refine (inRange_any _ _ _ _).mono ?_
  rintro e w3 ⟨rfl, rfl⟩
  rw [i1]
  go_wp2_with fail
  refine (inRange_any _ _ _ _).mono ?_
  rintro e w3 ⟨rfl, rfl⟩
  rw [i2]
  go_wp2_with fail
  exact ret_cell2 HRES.out Tryz.underlying58 rfl (by kernel_rfl) rfl rfl HS0.out ⟨by rw [HG.out.2]; unfold gl5V; rw [HG.out.1]; rfl, hX ▸ HB0.out⟩
end Go.Proofs.YtdcmebegnekkcaaGreat
/-
  Boxes of texts, lines and symbols, in the program.
-/
namespace Go.Proofs.YtdcmebegnekkcaaGreat
open Go.RowKit
set_option linter.unusedVariables false

theorem gl5_five (b : Int) : ∃ a0 a1 a2 a3 a4 : Int, gl5 b = [a0, a1, a2, a3, a4] := by
  unfold gl5
  split
  · exact ⟨_, _, _, _, _, rfl⟩
  · split
    · exact ⟨_, _, _, _, _, rfl⟩
    · exact ⟨_, _, _, _, _, rfl⟩
theorem glyL_of {b : Int} (h : hasG b = true) : glyL b = gl5 b := by
  unfold glyL gl5
  split
  · rfl
  · first | rfl | rw [if_pos h] | (rw [if_pos h, if_pos h])
theorem glyL_no {b : Int} (h : hasG b = false) : glyL b = [] := by
  unfold glyL
  rw [if_neg, if_neg (by rw [h]; simp)]
  intro e
  subst e
  cases h
set_option maxHeartbeats 4000000 in
theorem implGlyphRows_any (b : Int) (w : World) :
    Calls Tryz.prog 9 #[.int .i64 b] w fun e w' => (∃ a n cap, e = .returned (.tuple #[.slice a n cap, .int .i64 (glyC b)]) ∧ RowAt w' a n (glyL b)) ∧ Below w.heap.size w w' := by
  obtain ⟨a0, a1, a2, a3, a4, h5⟩ := gl5_five b
  have H5 := Lib.hid h5
  have HC := Lib.hid (show glyC b = if hasG b = true then 0 else 4 from rfl)
  have HL1 := Lib.hid (fun h => glyL_of (b := b) h)
  have HL2 := Lib.hid (fun h => glyL_no (b := b) h)
  clear h5
  go_enter Tryz.func9, Tryz.ntmps9
  go_wp2_with fail
  refine (glyph_any b _).mono ?_
  rintro e w2 ⟨rfl, hb2⟩
  have B2 := Lib.hid hb2
  rw [show gl5V b = .agg #[.int .i64 a0, .int .i64 a1, .int .i64 a2, .int .i64 a3, .int .i64 a4] from by unfold gl5V; rw [H5.out]; rfl]
  have B3 := Lib.hid (hb2.trans ((below1 w2 (.cells #[.int .i64 a0, .int .i64 a1, .int .i64 a2, .int .i64 a3, .int .i64 a4] A5T)).mono hb2.size))
  clear hb2
  cases hb : hasG b with
  | true =>
    have HC2 := Lib.hid (show glyC b = 0 from by rw [HC.out, if_pos hb])
    have HRW := Lib.hid (show RowAt (w2.alloc (.cells #[.int .i64 a0, .int .i64 a1, .int .i64 a2, .int .i64 a3, .int .i64 a4] A5T)) (some ⟨w2.heap.size, 0, none⟩) 5 (glyL b) from by
      rw [HL1.out hb, H5.out]
      exact row_of_heap (zs := [a0, a1, a2, a3, a4]) (heap_new _ _) rfl (by simp))
    clear hb
    go_wp2_with fail
    go_ret2
    exact ⟨⟨_, _, _, by rw [HC2.out]; rfl, HRW.out⟩, B3.out⟩
  | false =>
    have HC2 := Lib.hid (show glyC b = 4 from by rw [HC.out, if_neg (by rw [hb]; simp)])
    have HRW := Lib.hid (HL2.out hb)
    clear hb
    go_wp2_with fail
    go_ret2
    exact ⟨⟨none, 0, 0, by rw [HC2.out]; rfl, by rw [HRW.out]; exact ⟨rfl, by omega, fun h => by omega⟩⟩, B3.out⟩
/-- The box of a text. -/
def TxbE (x : It) (e : Ending) : Prop := (plainB x = true ∧ scaledB x = true ∧ textB x.tx = true ∧ e = .returned (.tuple #[.int .i64 (5 * x.sc), .int .i64 ((4 * (x.tx.length : Int) - 1) * x.sc), .bool true])) ∨
  ((plainB x && (scaledB x && textB x.tx)) = false ∧ e = .returned (.tuple #[.int .i64 0, .int .i64 0, .bool false]))
def LnbE (x : It) (e : Ending) : Prop := ((plainB x && (decide (x.sc = 0) && (decide (x.tx = []) && (inR x.tl 1 400 && inR x.wd 1 400)))) = true ∧ e = .returned (.tuple #[.int .i64 x.tl, .int .i64 x.wd, .bool true])) ∨
  ((plainB x && (decide (x.sc = 0) && (decide (x.tx = []) && (inR x.tl 1 400 && inR x.wd 1 400)))) = false ∧ e = .returned (.tuple #[.int .i64 0, .int .i64 0, .bool false]))
set_option maxHeartbeats 8000000 in
set_option maxRecDepth 100000 in
theorem lineBox_any (x : It) (w : World) :
    Calls Tryz.prog 112 #[itV x] w fun e w' => LnbE x e ∧ Below w.heap.size w w' := by
  have I0 := Lib.hid (ItB.new w x 105)
  have B0 := Lib.hid (below1 w (.cells (itL x).toArray 105))
  have n1 := str_nil_iff x.nm
  have n2 := str_nil_iff x.tx
  have HPB := Lib.hid (show plainB x = (decide (x.nm = []) && decide (x.lv = 0)) from rfl)
  have HP := Lib.hid (show ∀ e, LnbE x e = (((plainB x && (decide (x.sc = 0) && (decide (x.tx = []) && (inR x.tl 1 400 && inR x.wd 1 400)))) = true ∧ e = .returned (.tuple #[.int .i64 x.tl, .int .i64 x.wd, .bool true])) ∨
    ((plainB x && (decide (x.sc = 0) && (decide (x.tx = []) && (inR x.tl 1 400 && inR x.wd 1 400)))) = false ∧ e = .returned (.tuple #[.int .i64 0, .int .i64 0, .bool false]))) from fun _ => rfl)
  go_enter Tryz.func112, Tryz.ntmps112
  obtain ⟨X, hX⟩ : ∃ X, w.heap.size = X := ⟨_, rfl⟩
  obtain ⟨w1, hw1⟩ : ∃ w1, w.alloc (.cells (itL x).toArray 105) = w1 := ⟨_, rfl⟩
  rw [hw1, hX] at I0
  rw [hw1] at B0
  have hX1 := I0.out.lt
  have i0 := I0.out.c0
  have i1 := I0.out.c1
  have i2 := I0.out.c2
  have i3 := I0.out.c3
  have i4 := I0.out.c4
  have i5 := I0.out.c5
  have i6 := I0.out.c6
  have i7 := I0.out.c7
  have i8 := I0.out.c8
  go_wp2_with fail
  refine (inRange_any _ _ _ _).mono ?_
  rintro e w2 ⟨rfl, rfl⟩
  cases h1 : inR x.tl 1 400 with
  | false =>
    have HNO := Lib.hid (show (plainB x && (decide (x.sc = 0) && (decide (x.tx = []) && (inR x.tl 1 400 && inR x.wd 1 400)))) = false from by rw [h1]; simp)
    clear h1
    go_wp2_with fail
    go_ret3
    exact ⟨by rw [HP.out]; exact .inr ⟨HNO.out, rfl⟩, hX ▸ B0.out⟩
  | true =>
  have H1 := Lib.hid h1
  clear h1
  go_wp2_with fail
  refine (inRange_any _ _ _ _).mono ?_
  rintro e w2 ⟨rfl, rfl⟩
  cases h2 : inR x.wd 1 400 with
  | false =>
    have HNO := Lib.hid (show (plainB x && (decide (x.sc = 0) && (decide (x.tx = []) && (inR x.tl 1 400 && inR x.wd 1 400)))) = false from by rw [h2]; simp)
    clear h2
    go_wp2_with fail
    go_ret3
    exact ⟨by rw [HP.out]; exact .inr ⟨HNO.out, rfl⟩, hX ▸ B0.out⟩
  | true =>
  have H2 := Lib.hid h2
  clear h2
  by_cases h3 : x.sc = 0
  rotate_left
  · have e3 : (x.sc == 0) = false := by simp [h3]
    replace h3 := decide_eq_false h3
    have HNO := Lib.hid (show (plainB x && (decide (x.sc = 0) && (decide (x.tx = []) && (inR x.tl 1 400 && inR x.wd 1 400)))) = false from by rw [h3]; simp)
    clear h3
    go_wp2_with fail
    go_ret3
    exact ⟨by rw [HP.out]; exact .inr ⟨HNO.out, rfl⟩, hX ▸ B0.out⟩
  have e3 : (x.sc == 0) = true := by simp [h3]
  have H3 := Lib.hid (decide_eq_true h3)
  clear h3
  by_cases h4 : x.nm = []
  rotate_left
  · rw [decide_eq_false h4] at n1 HPB
    clear h4
    have HNO := Lib.hid (show (plainB x && (decide (x.sc = 0) && (decide (x.tx = []) && (inR x.tl 1 400 && inR x.wd 1 400)))) = false from by rw [HPB.out]; simp)
    go_wp2_with fail
    go_ret3
    exact ⟨by rw [HP.out]; exact .inr ⟨HNO.out, rfl⟩, hX ▸ B0.out⟩
  rw [decide_eq_true h4] at n1 HPB
  clear h4
  by_cases h5 : x.lv = 0
  rotate_left
  · have e5 : (x.lv == 0) = false := by simp [h5]
    rw [decide_eq_false h5] at HPB
    clear h5
    have HNO := Lib.hid (show (plainB x && (decide (x.sc = 0) && (decide (x.tx = []) && (inR x.tl 1 400 && inR x.wd 1 400)))) = false from by rw [HPB.out]; simp)
    go_wp2_with fail
    go_ret3
    exact ⟨by rw [HP.out]; exact .inr ⟨HNO.out, rfl⟩, hX ▸ B0.out⟩
  have e5 : (x.lv == 0) = true := by simp [h5]
  rw [decide_eq_true h5] at HPB
  clear h5
  by_cases h6 : x.tx = []
  rotate_left
  · rw [decide_eq_false h6] at n2
    replace h6 := decide_eq_false h6
    have HNO := Lib.hid (show (plainB x && (decide (x.sc = 0) && (decide (x.tx = []) && (inR x.tl 1 400 && inR x.wd 1 400)))) = false from by rw [h6]; simp)
    clear h6
    go_wp2_with fail
    go_ret3
    exact ⟨by rw [HP.out]; exact .inr ⟨HNO.out, rfl⟩, hX ▸ B0.out⟩
  rw [decide_eq_true h6] at n2
  have H6 := Lib.hid (decide_eq_true h6)
  clear h6
  have HY := Lib.hid (show (plainB x && (decide (x.sc = 0) && (decide (x.tx = []) && (inR x.tl 1 400 && inR x.wd 1 400)))) = true from by rw [HPB.out, H3.out, H6.out, H1.out, H2.out]; rfl)
  go_wp2_with fail
  go_quiet (fail)
  go_wp2_with fail
  go_ret3
  exact ⟨by rw [HP.out]; exact .inl ⟨HY.out, rfl⟩, hX ▸ B0.out.trans ((Drew.below ⟨_, rfl⟩ _).mono B0.out.size)⟩
set_option maxHeartbeats 8000000 in
set_option maxRecDepth 100000 in
theorem textBox_any (x : It) (hl : x.tx.length ≤ 1048576) (w : World) :
    Calls Tryz.prog 109 #[itV x] w fun e w' => TxbE x e ∧ Below w.heap.size w w' := by
  have I0 := Lib.hid (ItB.new w x 104)
  have B0 := Lib.hid (below1 w (.cells (itL x).toArray 104))
  have n1 := str_nil_iff x.nm
  have hsz := str_size x.tx
  have HPB := Lib.hid (show plainB x = (decide (x.nm = []) && decide (x.lv = 0)) from rfl)
  have HSB := Lib.hid (show scaledB x = (inR x.sc 1 8 && (decide (x.tl = 0) && decide (x.wd = 0))) from rfl)
  have HTB := Lib.hid (show textB x.tx = (txtB x.tx && inR (x.tx.length : Int) 1 40) from rfl)
  have HP := Lib.hid (show ∀ e, TxbE x e = ((plainB x = true ∧ scaledB x = true ∧ textB x.tx = true ∧ e = .returned (.tuple #[.int .i64 (5 * x.sc), .int .i64 ((4 * (x.tx.length : Int) - 1) * x.sc), .bool true])) ∨
    ((plainB x && (scaledB x && textB x.tx)) = false ∧ e = .returned (.tuple #[.int .i64 0, .int .i64 0, .bool false]))) from fun _ => rfl)
  have HA := Lib.hid (show txtB x.tx = true → ∀ i (h : i < x.tx.length), hasG (x.tx[i].toNat : Int) = true from fun h i hi => List.all_eq_true.1 h _ (List.getElem_mem hi))
  have HN := Lib.hid (show ∀ i (h : i < x.tx.length), hasG (x.tx[i].toNat : Int) = false → txtB x.tx = false from fun i hi h => by
    cases ht : txtB x.tx
    · rfl
    · rw [List.all_eq_true.1 ht _ (List.getElem_mem hi)] at h; cases h)
  have HF := Lib.hid (show (∀ i (h : i < x.tx.length), hasG (x.tx[i].toNat : Int) = true) → txtB x.tx = true from fun h => List.all_eq_true.2 fun b hb => by
    obtain ⟨i, hi, rfl⟩ := List.getElem_of_mem hb
    exact h i hi)
  go_enter Tryz.func109, Tryz.ntmps109
  obtain ⟨X, hX⟩ : ∃ X, w.heap.size = X := ⟨_, rfl⟩
  obtain ⟨w1, hw1⟩ : ∃ w1, w.alloc (.cells (itL x).toArray 104) = w1 := ⟨_, rfl⟩
  rw [hw1, hX] at I0
  rw [hw1] at B0
  have hX1 := I0.out.lt
  have i0 := I0.out.c0
  have i1 := I0.out.c1
  have i2 := I0.out.c2
  have i3 := I0.out.c3
  have i4 := I0.out.c4
  have i5 := I0.out.c5
  have i6 := I0.out.c6
  have i7 := I0.out.c7
  have i8 := I0.out.c8
  go_wp2_with fail
  refine (inRange_any _ _ _ _).mono ?_
  rintro e w2 ⟨rfl, rfl⟩
  cases h1 : inR (x.tx.length : Int) 1 40 with
  | false =>
    have HNO := Lib.hid (show (plainB x && (scaledB x && textB x.tx)) = false from by rw [HTB.out, h1]; simp)
    clear h1
    go_wp2_with fail
    go_ret3
    exact ⟨by rw [HP.out]; exact .inr ⟨HNO.out, rfl⟩, hX ▸ B0.out⟩
  | true =>
  obtain ⟨l1, l2⟩ := inR_iff.1 h1
  rw [h1] at HTB
  clear h1
  go_wp2_with fail
  refine (inRange_any _ _ _ _).mono ?_
  rintro e w2 ⟨rfl, rfl⟩
  cases h2 : inR x.sc 1 8 with
  | false =>
    have HNO := Lib.hid (show (plainB x && (scaledB x && textB x.tx)) = false from by rw [HSB.out, h2]; simp)
    clear h2
    go_wp2_with fail
    go_ret3
    exact ⟨by rw [HP.out]; exact .inr ⟨HNO.out, rfl⟩, hX ▸ B0.out⟩
  | true =>
  obtain ⟨s1, s2⟩ := inR_iff.1 h2
  rw [h2] at HSB
  clear h2
  by_cases h3 : x.tl = 0
  rotate_left
  · have e3 : (x.tl != 0) = true := by simp [h3]
    replace h3 := decide_eq_false h3
    have HNO := Lib.hid (show (plainB x && (scaledB x && textB x.tx)) = false from by rw [HSB.out, h3]; simp)
    clear h3
    go_wp2_with fail
    go_ret3
    exact ⟨by rw [HP.out]; exact .inr ⟨HNO.out, rfl⟩, hX ▸ B0.out⟩
  have e3 : (x.tl != 0) = false := by simp [h3]
  rw [decide_eq_true h3] at HSB
  clear h3
  by_cases h4 : x.wd = 0
  rotate_left
  · have e4 : (x.wd != 0) = true := by simp [h4]
    replace h4 := decide_eq_false h4
    have HNO := Lib.hid (show (plainB x && (scaledB x && textB x.tx)) = false from by rw [HSB.out, h4]; simp)
    clear h4
    go_wp2_with fail
    go_ret3
    exact ⟨by rw [HP.out]; exact .inr ⟨HNO.out, rfl⟩, hX ▸ B0.out⟩
  have e4 : (x.wd != 0) = false := by simp [h4]
  rw [decide_eq_true h4] at HSB
  clear h4
  by_cases h5 : x.nm = []
  rotate_left
  · rw [decide_eq_false h5] at n1 HPB
    clear h5
    have HNO := Lib.hid (show (plainB x && (scaledB x && textB x.tx)) = false from by rw [HPB.out]; simp)
    go_wp2_with fail
    go_ret3
    exact ⟨by rw [HP.out]; exact .inr ⟨HNO.out, rfl⟩, hX ▸ B0.out⟩
  rw [decide_eq_true h5] at n1 HPB
  clear h5
  by_cases h6 : x.lv = 0
  rotate_left
  · have e6 : (x.lv != 0) = true := by simp [h6]
    rw [decide_eq_false h6] at HPB
    clear h6
    have HNO := Lib.hid (show (plainB x && (scaledB x && textB x.tx)) = false from by rw [HPB.out]; simp)
    go_wp2_with fail
    go_ret3
    exact ⟨by rw [HP.out]; exact .inr ⟨HNO.out, rfl⟩, hX ▸ B0.out⟩
  have e6 : (x.lv != 0) = false := by simp [h6]
  rw [decide_eq_true h6] at HPB
  clear h6
  go_wp2_with fail
  go_loopw [6] (fun ti wr => ∃ i : Nat, i ≤ x.tx.length ∧ ti = .int .i64 (i : Int) ∧ Hid (∀ j (h : j < x.tx.length), j < i → hasG (x.tx[j].toNat : Int) = true) ∧ Hid (Below w1.heap.size w1 wr)) (fun ti _ => x.tx.length - (intOf ti).toNat)
  case atStart => exact ⟨0, by omega, rfl, Lib.hid (fun j hj h => by omega), Lib.hid (Below.refl _ _)⟩
  case round =>
    obtain ⟨i, hi, rfl, hH, hB⟩ := hrel
    have I2 := Lib.hid (I0.out.below hB.out)
    have B2 := Lib.hid (B0.out.trans (hB.out.mono B0.out.size))
    clear hX1 i0 i1 i2 i3 i4 i5 i6 i7 i8 I0 B0
    have hX1 := I2.out.lt
    have i0 := I2.out.c0
    have i1 := I2.out.c1
    have i2 := I2.out.c2
    have i3 := I2.out.c3
    have i4 := I2.out.c4
    have i5 := I2.out.c5
    have i6 := I2.out.c6
    have i7 := I2.out.c7
    have i8 := I2.out.c8
    by_cases hlt : i < x.tx.length
    · have hg : (((str x.tx)[i]'(by rw [hsz]; exact hlt)).toNat : Int) = (x.tx[i].toNat : Int) := by rw [str_get]
      have HM := Lib.hid (show hasG (x.tx[i].toNat : Int) = true → ∀ j (h : j < x.tx.length), j < i + 1 → hasG (x.tx[j].toNat : Int) = true from fun hh j hj h => by
        by_cases e : j = i
        · subst e; exact hh
        · exact hH.out j hj (by omega))
      have HNi := Lib.hid (HN.out i hlt)
      have hr : 0 ≤ (x.tx[i].toNat : Int) ∧ (x.tx[i].toNat : Int) ≤ 255 := by have := x.tx[i].toNat_lt; omega
      generalize (x.tx[i].toNat : Int) = b at *
      obtain ⟨a0, a1, a2, a3, a4, h5⟩ := gl5_five b
      have H5 := Lib.hid h5
      clear h5
      go_wp2_with fail
      refine (glyph_any b _).mono ?_
      rintro e w2 ⟨rfl, hb2⟩
      rw [show gl5V b = .agg #[.int .i64 a0, .int .i64 a1, .int .i64 a2, .int .i64 a3, .int .i64 a4] from by unfold gl5V; rw [H5.out]; rfl]
      have hb3 := hb2.trans ((below1 w2 (.cells #[.int .i64 a0, .int .i64 a1, .int .i64 a2, .int .i64 a3, .int .i64 a4] A5T)).mono hb2.size)
      have B3 := Lib.hid (hB.out.trans (hb3.mono hB.out.size))
      have B4 := Lib.hid (B2.out.trans (hb3.mono B2.out.size))
      clear hb2 hb3
      cases hb : hasG b with
      | true =>
        rw [hb] at HM
        clear hb
        have HM2 := Lib.hid (HM.out rfl)
        clear hr
        go_wp2_with fail
        go_roundw
        case rel => exact ⟨i + 1, by omega, by go_num, HM2, B3⟩
        case measure => simp [intOf]; omega
      | false =>
        rw [hb] at HNi
        have HE := Lib.hid (HNi.out rfl)
        clear hb
        have HNO := Lib.hid (show (plainB x && (scaledB x && textB x.tx)) = false from by rw [HTB.out, HE.out]; simp)
        go_wp2_with fail
        go_ret3
        exact ⟨by rw [HP.out]; exact .inr ⟨HNO.out, rfl⟩, hX ▸ B4.out⟩
    · obtain rfl : i = x.tx.length := by omega
      have HE := Lib.hid (HF.out fun j hj => hH.out j hj hj)
      have HY := Lib.hid (show plainB x = true ∧ scaledB x = true ∧ textB x.tx = true from ⟨by rw [HPB.out]; rfl, by rw [HSB.out]; rfl, by rw [HTB.out, HE.out]; rfl⟩)
      obtain ⟨pr, hpr⟩ : ∃ pr, (4 * (x.tx.length : Int) - 1) * x.sc = pr := ⟨_, rfl⟩
      obtain ⟨r1, r2⟩ := mul_bd (show 0 ≤ 4 * (x.tx.length : Int) - 1 by omega) (show 4 * (x.tx.length : Int) - 1 ≤ 159 by omega) (show 0 ≤ x.sc by omega) s2 (by omega)
      rw [hpr] at r1 r2
      rw [hpr] at HP
      go_wp2_with fail
      go_quiet (fail)
      go_wp2_with fail
      go_ret3
      exact ⟨by rw [HP.out]; exact .inl ⟨HY.out.1, HY.out.2.1, HY.out.2.2, rfl⟩, hX ▸ B2.out.trans ((Drew.below ⟨_, rfl⟩ _).mono B2.out.size)⟩
end Go.Proofs.YtdcmebegnekkcaaGreat
