/-
  The parts FamC, FamD, Once, FamE.
-/
import Derived.Test.YtdcmebegnekkcaaGreatFldO
import Derived.Defers
import Derived.Laws.Pointers
import Derived.Laws.LoneSync
import Derived.RegionTactic
import Derived.RegionCalls
import Derived.Maps.AppendAt
/-
  The families of the library; the reference's library.
-/
namespace Go.Proofs.YtdcmebegnekkcaaGreat
open Go.RowKit
set_option linter.unusedVariables false

abbrev FmT : TypeId := 90
/-- The five families: name, kind, power of the field, its polynomial, sizes, columns, levels. -/
def fnm (k : Nat) : List UInt8 := if k = 0 then [116, 105, 108, 101] else if k = 1 then [112, 97, 110, 101, 108] else if k = 2 then [112, 108, 97, 116, 101] else if k = 3 then [115, 116, 97, 99, 107] else [114, 105, 98, 98, 111, 110]
def fkd (k : Nat) : Int := if k ≤ 2 then 1 else 2
def fpw (k : Nat) : Nat := if k = 0 then 4 else if k = 1 then 6 else if k = 2 then 8 else 5
def fsq (k : Nat) : Int := if k = 0 then 16 else if k = 1 then 64 else if k = 2 then 256 else 32
def fg0 (k : Nat) : Int := if k = 0 then 19 else if k = 1 then 67 else if k = 2 then 285 else 37
def fsz (k : Nat) : List Int := if k = 0 then [17, 21, 25] else if k = 1 then [17, 21, 25, 29, 33] else if k = 2 then [17, 21, 25, 29, 33, 37, 41] else if k = 3 then [4, 6, 8, 12, 16, 24] else [3, 4, 5]
def fco (k : Nat) : Int := if k ≤ 2 then 0 else if k = 3 then 4 else 8
def flv (k : Nat) : List Int := if k = 0 then [20, 40] else if k = 1 then [15, 30, 60] else if k = 2 then [10, 20, 30, 50] else if k = 3 then [25, 50] else [30]
theorem flf (k : Nat) : LeastF (fpw k) (fsq k) (fg0 k) := by
  unfold fpw fsq fg0
  split
  · exact lf16
  · split
    · exact lf64
    · split
      · exact lf256
      · exact lf32
theorem fsz_len (k : Nat) : 3 ≤ (fsz k).length ∧ (fsz k).length ≤ 7 := by
  unfold fsz
  repeat' split
  all_goals simp
theorem flv_len (k : Nat) : 1 ≤ (flv k).length ∧ (flv k).length ≤ 4 := by
  unfold flv
  repeat' split
  all_goals simp
/-- The cells of a family whose lists lie in the blocks a and c. -/
def fcs (k a c : Nat) : List Value := [.string (str (fnm k)), .int .i64 (fkd k), .int .i64 2, .int .i64 ((fpw k : Nat) : Int), .int .i64 (fg0 k), .slice (some ⟨a, 0, none⟩) (fsz k).length (fsz k).length, .int .i64 (fco k), .slice (some ⟨c, 0, none⟩) (flv k).length (flv k).length]
abbrev fmV (k a c : Nat) : Value := .agg (fcs k a c).toArray
/-- The lists of a family lie in the blocks a and c. -/
structure FamR (w : World) (k a c : Nat) : Prop where
  sz : RowAt w (some ⟨a, 0, none⟩) (fsz k).length (fsz k)
  lv : RowAt w (some ⟨c, 0, none⟩) (flv k).length (flv k)
theorem FamR.below {w w' : World} {k a c : Nat} (h : FamR w k a c) (hb : Below w.heap.size w w') : FamR w' k a c := ⟨h.sz.below' hb, h.lv.below' hb⟩
/-- The library: a slice of the five families. -/
def LibAt (w : World) (M : Nat) (v : Value) : Prop := ∃ B cap, v = .slice (some ⟨B, 0, none⟩) 5 cap ∧ 5 ≤ cap ∧ cap ≤ maxLen ∧ B < w.heap.size ∧ M ≤ B ∧ ∃ A C : Nat → Nat, (∀ k, k < 5 → M ≤ A k ∧ M ≤ C k) ∧ ∀ k, k < 5 → FamR w k (A k) (C k) ∧ ∀ j, j < 8 → w.cell? ⟨B, k * 8 + j, none⟩ = (fcs k (A k) (C k))[j]?
theorem FamR.dr {w w' : World} {s k a c : Nat} (h : FamR w k a c) (hd : Dr s w w') (ha : a ≠ s) (hc : c ≠ s) : FamR w' k a c := ⟨h.sz.dr hd (fun x hx => by cases hx; exact ha), h.lv.dr hd (fun x hx => by cases hx; exact hc)⟩
/-- Several blocks more. -/
def allocs (w : World) : List Obj → World
  | [] => w
  | o :: l => allocs (w.alloc o) l
theorem allocs_below (w : World) (l : List Obj) : Below w.heap.size w (allocs w l) := by
  induction l generalizing w with
  | nil => exact Below.refl _ _
  | cons o l ih => exact (below1 w o).trans ((ih (w.alloc o)).mono (by simp))
theorem allocs_size (w : World) (l : List Obj) : (allocs w l).heap.size = w.heap.size + l.length := by
  induction l generalizing w with
  | nil => rfl
  | cons o l ih => rw [show allocs w (o :: l) = allocs (w.alloc o) l from rfl, ih]; simp; omega
theorem allocs_heap (w : World) (l : List Obj) : ∀ i (h : i < l.length), (allocs w l).heap[w.heap.size + i]? = some l[i] := by
  induction l generalizing w with
  | nil => intro i h; simp at h
  | cons o l ih =>
    intro i h
    rw [show allocs w (o :: l) = allocs (w.alloc o) l from rfl]
    cases i with
    | zero =>
      have := (allocs_below (w.alloc o) l).block w.heap.size (by simp)
      rw [Nat.add_zero, this]; exact heap_new _ _
    | succ i =>
      have := ih (w.alloc o) i (by simpa using h)
      rw [show (w.alloc o).heap.size = w.heap.size + 1 by simp] at this
      rw [show w.heap.size + (i + 1) = w.heap.size + 1 + i by omega, this]; rfl
theorem row_of_heap {w : World} {B : Nat} {cs : Array Value} {ty : TypeId} {zs : List Int} (h : w.heap[B]? = some (.cells cs ty (0, 0))) (hc : cs = (zs.map (Value.int .i64)).toArray) (hs : zs.length ≤ 1000) : RowAt w (some ⟨B, 0, none⟩) zs.length zs :=
  ⟨rfl, by omega, fun _ => ⟨B, 0, rfl, lt_of_heap h, fun j hj => by
    rw [cell_of_heap h, hc, Nat.zero_add]
    simp [List.getElem?_eq_getElem hj, gi, List.getD_eq_getElem?_getD]⟩⟩
def libO (b : Nat) : List Obj := [.cells #[.int .i64 17, .int .i64 21, .int .i64 25] 2,
  .cells #[.int .i64 20, .int .i64 40] 2,
  .cells #[.int .i64 17, .int .i64 21, .int .i64 25, .int .i64 29, .int .i64 33] 2,
  .cells #[.int .i64 15, .int .i64 30, .int .i64 60] 2,
  .cells #[.int .i64 17, .int .i64 21, .int .i64 25, .int .i64 29, .int .i64 33, .int .i64 37, .int .i64 41] 2,
  .cells #[.int .i64 10, .int .i64 20, .int .i64 30, .int .i64 50] 2,
  .cells #[.int .i64 4, .int .i64 6, .int .i64 8, .int .i64 12, .int .i64 16, .int .i64 24] 2,
  .cells #[.int .i64 25, .int .i64 50] 2,
  .cells #[.int .i64 3, .int .i64 4, .int .i64 5] 2,
  .cells #[.int .i64 30] 2,
  .cells #[.string { data := #[116, 105, 108, 101] }, .int .i64 1, .int .i64 2, .int .i64 4, .int .i64 19, .slice (some ⟨b + 0, 0, none⟩) 3 3, .int .i64 0, .slice (some ⟨b + 1, 0, none⟩) 2 2, .string { data := #[112, 97, 110, 101, 108] }, .int .i64 1, .int .i64 2, .int .i64 6, .int .i64 67, .slice (some ⟨b + 2, 0, none⟩) 5 5, .int .i64 0, .slice (some ⟨b + 3, 0, none⟩) 3 3, .string { data := #[112, 108, 97, 116, 101] }, .int .i64 1, .int .i64 2, .int .i64 8, .int .i64 285, .slice (some ⟨b + 4, 0, none⟩) 7 7, .int .i64 0, .slice (some ⟨b + 5, 0, none⟩) 4 4, .string { data := #[115, 116, 97, 99, 107] }, .int .i64 2, .int .i64 2, .int .i64 5, .int .i64 37, .slice (some ⟨b + 6, 0, none⟩) 6 6, .int .i64 4, .slice (some ⟨b + 7, 0, none⟩) 2 2, .string { data := #[114, 105, 98, 98, 111, 110] }, .int .i64 2, .int .i64 2, .int .i64 5, .int .i64 37, .slice (some ⟨b + 8, 0, none⟩) 3 3, .int .i64 8, .slice (some ⟨b + 9, 0, none⟩) 1 1] FmT]
theorem lib_made (w : World) (M : Nat) (hM : M ≤ w.heap.size) : LibAt (allocs w (libO w.heap.size)) M (.slice (some ⟨w.heap.size + 10, 0, none⟩) 5 5) := by
  have hh := allocs_heap w (libO w.heap.size)
  have hs := allocs_size w (libO w.heap.size)
  refine ⟨_, 5, rfl, by omega, by unfold maxLen; omega, by rw [hs]; show _ < _ + 11; omega, by omega, fun k => w.heap.size + 2 * k, fun k => w.heap.size + (2 * k + 1), fun k hk => ⟨Nat.le_trans hM (Nat.le_add_right _ _), Nat.le_trans hM (Nat.le_add_right _ _)⟩, fun k hk => ⟨?_, fun j hj => ?_⟩⟩
  · rcases (show k = 0 ∨ k = 1 ∨ k = 2 ∨ k = 3 ∨ k = 4 by omega) with rfl | rfl | rfl | rfl | rfl
    · exact ⟨row_of_heap (hh 0 (show 0 < 11 by omega)) rfl (by decide), row_of_heap (hh 1 (show 1 < 11 by omega)) rfl (by decide)⟩
    · exact ⟨row_of_heap (hh 2 (show 2 < 11 by omega)) rfl (by decide), row_of_heap (hh 3 (show 3 < 11 by omega)) rfl (by decide)⟩
    · exact ⟨row_of_heap (hh 4 (show 4 < 11 by omega)) rfl (by decide), row_of_heap (hh 5 (show 5 < 11 by omega)) rfl (by decide)⟩
    · exact ⟨row_of_heap (hh 6 (show 6 < 11 by omega)) rfl (by decide), row_of_heap (hh 7 (show 7 < 11 by omega)) rfl (by decide)⟩
    · exact ⟨row_of_heap (hh 8 (show 8 < 11 by omega)) rfl (by decide), row_of_heap (hh 9 (show 9 < 11 by omega)) rfl (by decide)⟩
  · have h10 := hh 10 (show 10 < 11 by omega)
    rw [cell_of_heap h10]
    rcases (show k = 0 ∨ k = 1 ∨ k = 2 ∨ k = 3 ∨ k = 4 by omega) with rfl | rfl | rfl | rfl | rfl
    all_goals
      rcases (show j = 0 ∨ j = 1 ∨ j = 2 ∨ j = 3 ∨ j = 4 ∨ j = 5 ∨ j = 6 ∨ j = 7 by omega) with rfl | rfl | rfl | rfl | rfl | rfl | rfl | rfl <;> rfl
set_option maxHeartbeats 8000000 in
set_option maxRecDepth 100000 in
theorem specLibrary_any (w : World) :
    Calls Tryz.prog 58 #[] w fun e w' => ∃ v, e = .returned v ∧ Below w.heap.size w w' ∧ LibAt w' w.heap.size v := by
  go_enter Tryz.func58, Tryz.ntmps58
  go_wp2_with fail
  refine (specFieldOf_at lf16 _).mono ?_
  rintro e w1 ⟨rfl, hb1⟩
  have B1 := hb1
  obtain ⟨Y1, hY1⟩ : ∃ Y, w1.heap.size = Y := ⟨_, rfl⟩
  obtain ⟨v1, hv1⟩ : ∃ v, w1.alloc (.cells #[.int .i64 2, .int .i64 4, .int .i64 19] FTa) = v := ⟨_, rfl⟩
  have BB : Below w1.heap.size w1 v1 := by rw [← hv1]; exact below1 _ _
  have X11 : FB v1 Y1 2 4 19 := by rw [← hv1, ← hY1]; exact FB.new _ _ _ _
  have BA1 := Lib.hid (B1.trans (BB.mono B1.size))
  clear hb1 BB B1
  go_wp2_with fail
  (try rw [hv1])
  (try rw [hY1])
  clear hv1 hY1
  refine (specFieldOf_at lf64 _).mono ?_
  rintro e w2 ⟨rfl, hb2⟩
  have B2 := BA1.out.trans (hb2.mono BA1.out.size)
  have X12 := X11.below hb2 X11.lt
  obtain ⟨Y2, hY2⟩ : ∃ Y, w2.heap.size = Y := ⟨_, rfl⟩
  obtain ⟨v2, hv2⟩ : ∃ v, w2.alloc (.cells #[.int .i64 2, .int .i64 6, .int .i64 67] FTa) = v := ⟨_, rfl⟩
  have BB : Below w2.heap.size w2 v2 := by rw [← hv2]; exact below1 _ _
  have X12 := X12.below BB X12.lt
  have X22 : FB v2 Y2 2 6 67 := by rw [← hv2, ← hY2]; exact FB.new _ _ _ _
  have BA2 := Lib.hid (B2.trans (BB.mono B2.size))
  clear hb2 BB B2
  go_wp2_with fail
  (try rw [hv2])
  (try rw [hY2])
  clear hv2 hY2
  refine (specFieldOf_at lf256 _).mono ?_
  rintro e w3 ⟨rfl, hb3⟩
  have B3 := BA2.out.trans (hb3.mono BA2.out.size)
  have X13 := X12.below hb3 X12.lt
  have X23 := X22.below hb3 X22.lt
  obtain ⟨Y3, hY3⟩ : ∃ Y, w3.heap.size = Y := ⟨_, rfl⟩
  obtain ⟨v3, hv3⟩ : ∃ v, w3.alloc (.cells #[.int .i64 2, .int .i64 8, .int .i64 285] FTa) = v := ⟨_, rfl⟩
  have BB : Below w3.heap.size w3 v3 := by rw [← hv3]; exact below1 _ _
  have X13 := X13.below BB X13.lt
  have X23 := X23.below BB X23.lt
  have X33 : FB v3 Y3 2 8 285 := by rw [← hv3, ← hY3]; exact FB.new _ _ _ _
  have BA3 := Lib.hid (B3.trans (BB.mono B3.size))
  clear hb3 BB B3
  go_wp2_with fail
  (try rw [hv3])
  (try rw [hY3])
  clear hv3 hY3
  refine (specFieldOf_at lf32 _).mono ?_
  rintro e w4 ⟨rfl, hb4⟩
  have B4 := BA3.out.trans (hb4.mono BA3.out.size)
  have X14 := X13.below hb4 X13.lt
  have X24 := X23.below hb4 X23.lt
  have X34 := X33.below hb4 X33.lt
  obtain ⟨Y4, hY4⟩ : ∃ Y, w4.heap.size = Y := ⟨_, rfl⟩
  obtain ⟨v4, hv4⟩ : ∃ v, w4.alloc (.cells #[.int .i64 2, .int .i64 5, .int .i64 37] FTa) = v := ⟨_, rfl⟩
  have BB : Below w4.heap.size w4 v4 := by rw [← hv4]; exact below1 _ _
  have X14 := X14.below BB X14.lt
  have X24 := X24.below BB X24.lt
  have X34 := X34.below BB X34.lt
  have X44 : FB v4 Y4 2 5 37 := by rw [← hv4, ← hY4]; exact FB.new _ _ _ _
  have BA4 := Lib.hid (B4.trans (BB.mono B4.size))
  clear hb4 BB B4
  have b1 : Below v4.heap.size v4 (v4.alloc (.cells #[.int .i64 17, .int .i64 21, .int .i64 25] 2)) := below1 _ _
  have b2 : Below v4.heap.size v4 ((v4.alloc (.cells #[.int .i64 17, .int .i64 21, .int .i64 25] 2)).alloc (.cells #[.int .i64 20, .int .i64 40] 2)) := b1.alloc (Nat.le_of_lt (by simp)) _
  have b3 : Below v4.heap.size v4 (((v4.alloc (.cells #[.int .i64 17, .int .i64 21, .int .i64 25] 2)).alloc (.cells #[.int .i64 20, .int .i64 40] 2)).alloc (.cells #[.int .i64 17, .int .i64 21, .int .i64 25, .int .i64 29, .int .i64 33] 2)) := b2.alloc (Nat.le_of_lt (by simp; omega)) _
  have b4 : Below v4.heap.size v4 ((((v4.alloc (.cells #[.int .i64 17, .int .i64 21, .int .i64 25] 2)).alloc (.cells #[.int .i64 20, .int .i64 40] 2)).alloc (.cells #[.int .i64 17, .int .i64 21, .int .i64 25, .int .i64 29, .int .i64 33] 2)).alloc (.cells #[.int .i64 15, .int .i64 30, .int .i64 60] 2)) := b3.alloc (Nat.le_of_lt (by simp; omega)) _
  have b5 : Below v4.heap.size v4 (((((v4.alloc (.cells #[.int .i64 17, .int .i64 21, .int .i64 25] 2)).alloc (.cells #[.int .i64 20, .int .i64 40] 2)).alloc (.cells #[.int .i64 17, .int .i64 21, .int .i64 25, .int .i64 29, .int .i64 33] 2)).alloc (.cells #[.int .i64 15, .int .i64 30, .int .i64 60] 2)).alloc (.cells #[.int .i64 17, .int .i64 21, .int .i64 25, .int .i64 29, .int .i64 33, .int .i64 37, .int .i64 41] 2)) := b4.alloc (Nat.le_of_lt (by simp; omega)) _
  have b6 : Below v4.heap.size v4 ((((((v4.alloc (.cells #[.int .i64 17, .int .i64 21, .int .i64 25] 2)).alloc (.cells #[.int .i64 20, .int .i64 40] 2)).alloc (.cells #[.int .i64 17, .int .i64 21, .int .i64 25, .int .i64 29, .int .i64 33] 2)).alloc (.cells #[.int .i64 15, .int .i64 30, .int .i64 60] 2)).alloc (.cells #[.int .i64 17, .int .i64 21, .int .i64 25, .int .i64 29, .int .i64 33, .int .i64 37, .int .i64 41] 2)).alloc (.cells #[.int .i64 10, .int .i64 20, .int .i64 30, .int .i64 50] 2)) := b5.alloc (Nat.le_of_lt (by simp; omega)) _
  have b7 : Below v4.heap.size v4 (((((((v4.alloc (.cells #[.int .i64 17, .int .i64 21, .int .i64 25] 2)).alloc (.cells #[.int .i64 20, .int .i64 40] 2)).alloc (.cells #[.int .i64 17, .int .i64 21, .int .i64 25, .int .i64 29, .int .i64 33] 2)).alloc (.cells #[.int .i64 15, .int .i64 30, .int .i64 60] 2)).alloc (.cells #[.int .i64 17, .int .i64 21, .int .i64 25, .int .i64 29, .int .i64 33, .int .i64 37, .int .i64 41] 2)).alloc (.cells #[.int .i64 10, .int .i64 20, .int .i64 30, .int .i64 50] 2)).alloc (.cells #[.int .i64 4, .int .i64 6, .int .i64 8, .int .i64 12, .int .i64 16, .int .i64 24] 2)) := b6.alloc (Nat.le_of_lt (by simp; omega)) _
  have b8 : Below v4.heap.size v4 ((((((((v4.alloc (.cells #[.int .i64 17, .int .i64 21, .int .i64 25] 2)).alloc (.cells #[.int .i64 20, .int .i64 40] 2)).alloc (.cells #[.int .i64 17, .int .i64 21, .int .i64 25, .int .i64 29, .int .i64 33] 2)).alloc (.cells #[.int .i64 15, .int .i64 30, .int .i64 60] 2)).alloc (.cells #[.int .i64 17, .int .i64 21, .int .i64 25, .int .i64 29, .int .i64 33, .int .i64 37, .int .i64 41] 2)).alloc (.cells #[.int .i64 10, .int .i64 20, .int .i64 30, .int .i64 50] 2)).alloc (.cells #[.int .i64 4, .int .i64 6, .int .i64 8, .int .i64 12, .int .i64 16, .int .i64 24] 2)).alloc (.cells #[.int .i64 25, .int .i64 50] 2)) := b7.alloc (Nat.le_of_lt (by simp; omega)) _
  have b9 : Below v4.heap.size v4 (((((((((v4.alloc (.cells #[.int .i64 17, .int .i64 21, .int .i64 25] 2)).alloc (.cells #[.int .i64 20, .int .i64 40] 2)).alloc (.cells #[.int .i64 17, .int .i64 21, .int .i64 25, .int .i64 29, .int .i64 33] 2)).alloc (.cells #[.int .i64 15, .int .i64 30, .int .i64 60] 2)).alloc (.cells #[.int .i64 17, .int .i64 21, .int .i64 25, .int .i64 29, .int .i64 33, .int .i64 37, .int .i64 41] 2)).alloc (.cells #[.int .i64 10, .int .i64 20, .int .i64 30, .int .i64 50] 2)).alloc (.cells #[.int .i64 4, .int .i64 6, .int .i64 8, .int .i64 12, .int .i64 16, .int .i64 24] 2)).alloc (.cells #[.int .i64 25, .int .i64 50] 2)).alloc (.cells #[.int .i64 3, .int .i64 4, .int .i64 5] 2)) := b8.alloc (Nat.le_of_lt (by simp; omega)) _
  have b10 : Below v4.heap.size v4 ((((((((((v4.alloc (.cells #[.int .i64 17, .int .i64 21, .int .i64 25] 2)).alloc (.cells #[.int .i64 20, .int .i64 40] 2)).alloc (.cells #[.int .i64 17, .int .i64 21, .int .i64 25, .int .i64 29, .int .i64 33] 2)).alloc (.cells #[.int .i64 15, .int .i64 30, .int .i64 60] 2)).alloc (.cells #[.int .i64 17, .int .i64 21, .int .i64 25, .int .i64 29, .int .i64 33, .int .i64 37, .int .i64 41] 2)).alloc (.cells #[.int .i64 10, .int .i64 20, .int .i64 30, .int .i64 50] 2)).alloc (.cells #[.int .i64 4, .int .i64 6, .int .i64 8, .int .i64 12, .int .i64 16, .int .i64 24] 2)).alloc (.cells #[.int .i64 25, .int .i64 50] 2)).alloc (.cells #[.int .i64 3, .int .i64 4, .int .i64 5] 2)).alloc (.cells #[.int .i64 30] 2)) := b9.alloc (Nat.le_of_lt (by simp; omega)) _
  have c10 := X14.c0
  have c11 := X14.c1
  have c12 := X14.c2
  have c202 := (X24.below b2 X24.lt).c0
  have c212 := (X24.below b2 X24.lt).c1
  have c222 := (X24.below b2 X24.lt).c2
  have c304 := (X34.below b4 X34.lt).c0
  have c314 := (X34.below b4 X34.lt).c1
  have c324 := (X34.below b4 X34.lt).c2
  have c406 := (X44.below b6 X44.lt).c0
  have c416 := (X44.below b6 X44.lt).c1
  have c426 := (X44.below b6 X44.lt).c2
  have c408 := (X44.below b8 X44.lt).c0
  have c418 := (X44.below b8 X44.lt).c1
  have c428 := (X44.below b8 X44.lt).c2
  have hl1 := X14.lt
  have hl2 := X24.lt
  have hl3 := X34.lt
  have hl4 := X44.lt
  have hb10 := Lib.hid b10
  clear b1 b2 b3 b4 b5 b6 b7 b8 b9 b10
  go_wp2_with fail
  (try rw [hv4])
  (try rw [hY4])
  clear hv4 hY4
  go_ret
  exact ⟨_, rfl, BA4.out.trans ((allocs_below v4 (libO v4.heap.size)).mono BA4.out.size), lib_made v4 _ BA4.out.size⟩
end Go.Proofs.YtdcmebegnekkcaaGreat
/-
  A family by its name, in the reference.
-/
namespace Go.Proofs.YtdcmebegnekkcaaGreat
open Go.RowKit
set_option linter.unusedVariables false

theorem fcs_len (k a c : Nat) : (fcs k a c).length = 8 := rfl
/-- The cells of a family, as a function of the index. -/
def fcF (k a c : Nat) (j : Nat) : Value := (fcs k a c).getD j undef
theorem fcs_at (k a c : Nat) {j : Nat} (hj : j < 8) : (fcs k a c)[j]? = some (fcF k a c j) := by
  unfold fcF
  rw [List.getD_eq_getElem?_getD]
  obtain ⟨v, hv⟩ : ∃ v, (fcs k a c)[j]? = some v := ⟨_, List.getElem?_eq_getElem (by rw [fcs_len]; exact hj)⟩
  rw [hv]; rfl
/-- A block of cells as an object. -/
theorem tf_obj {w : World} {B n : Nat} {ty : TypeId} {f : Nat → Value} (h : Tf w B n ty f) (l : List Value) (hl : l.length = n) (hf : ∀ i, i < n → l[i]? = some (f i)) : w.heap[B]? = some (.cells l.toArray ty (0, 0)) := by
  obtain ⟨cs, h1, h2, h3⟩ := h.blk
  rw [h1]
  congr 2
  apply Array.ext_getElem?
  intro i
  by_cases hi : i < n
  · rw [h3 i hi, List.getElem?_toArray, hf i hi]
  · rw [Array.getElem?_eq_none (by omega), List.getElem?_toArray, List.getElem?_eq_none (by omega)]
/-- Eight cells are written. -/
theorem tf_set8 {w : World} {B : Nat} {ty : TypeId} {f : Nat → Value} (h : Tf w B 8 ty f) (k a c : Nat) :
    Tf ((((((((w.setCell ⟨B, 0, none⟩ (.string (str (fnm k)))).setCell ⟨B, 1, none⟩ (.int .i64 (fkd k))).setCell ⟨B, 2, none⟩ (.int .i64 2)).setCell ⟨B, 3, none⟩ (.int .i64 ((fpw k : Nat) : Int))).setCell ⟨B, 4, none⟩ (.int .i64 (fg0 k))).setCell ⟨B, 5, none⟩ (.slice (some ⟨a, 0, none⟩) (fsz k).length (fsz k).length)).setCell ⟨B, 6, none⟩ (.int .i64 (fco k))).setCell ⟨B, 7, none⟩ (.slice (some ⟨c, 0, none⟩) (flv k).length (flv k).length)) B 8 ty (fcF k a c) :=
  ((((((((h.set 0 _).set 1 _).set 2 _).set 3 _).set 4 _).set 5 _).set 6 _).set 7 _).congr fun i hi => by
    rcases (show i = 0 ∨ i = 1 ∨ i = 2 ∨ i = 3 ∨ i = 4 ∨ i = 5 ∨ i = 6 ∨ i = 7 by omega) with rfl | rfl | rfl | rfl | rfl | rfl | rfl | rfl <;> rfl
theorem below_set8 {w0 w : World} {B M : Nat} (h : Below M w0 w) (hB : M ≤ B) (v0 v1 v2 v3 v4 v5 v6 v7 : Value) :
    Below M w0 ((((((((w.setCell ⟨B, 0, none⟩ v0).setCell ⟨B, 1, none⟩ v1).setCell ⟨B, 2, none⟩ v2).setCell ⟨B, 3, none⟩ v3).setCell ⟨B, 4, none⟩ v4).setCell ⟨B, 5, none⟩ v5).setCell ⟨B, 6, none⟩ v6).setCell ⟨B, 7, none⟩ v7) :=
  (((((((h.setCell (p := ⟨B, 0, none⟩) hB _).setCell (p := ⟨B, 1, none⟩) hB _).setCell (p := ⟨B, 2, none⟩) hB _).setCell (p := ⟨B, 3, none⟩) hB _).setCell (p := ⟨B, 4, none⟩) hB _).setCell (p := ⟨B, 5, none⟩) hB _).setCell (p := ⟨B, 6, none⟩) hB _).setCell (p := ⟨B, 7, none⟩) hB _
theorem dr_set8 (B : Nat) (w : World) (v0 v1 v2 v3 v4 v5 v6 v7 : Value) :
    Dr B w ((((((((w.setCell ⟨B, 0, none⟩ v0).setCell ⟨B, 1, none⟩ v1).setCell ⟨B, 2, none⟩ v2).setCell ⟨B, 3, none⟩ v3).setCell ⟨B, 4, none⟩ v4).setCell ⟨B, 5, none⟩ v5).setCell ⟨B, 6, none⟩ v6).setCell ⟨B, 7, none⟩ v7) :=
  (((((((Dr.set B 0 w v0).trans (Dr.set B 1 _ v1)).trans (Dr.set B 2 _ v2)).trans (Dr.set B 3 _ v3)).trans (Dr.set B 4 _ v4)).trans (Dr.set B 5 _ v5)).trans (Dr.set B 6 _ v6)).trans (Dr.set B 7 _ v7)
/-- The zero of a family. -/
abbrev fmZ : Array Value := #[.string { data := #[] }, .int .i64 0, .int .i64 0, .int .i64 0, .int .i64 0, .slice none 0 0, .int .i64 0, .slice none 0 0]
theorem tf_setZ {w : World} {B : Nat} {ty : TypeId} {f : Nat → Value} (h : Tf w B 8 ty f) :
    Tf ((((((((w.setCell ⟨B, 0, none⟩ (.string { data := #[] })).setCell ⟨B, 1, none⟩ (.int .i64 0)).setCell ⟨B, 2, none⟩ (.int .i64 0)).setCell ⟨B, 3, none⟩ (.int .i64 0)).setCell ⟨B, 4, none⟩ (.int .i64 0)).setCell ⟨B, 5, none⟩ (.slice none 0 0)).setCell ⟨B, 6, none⟩ (.int .i64 0)).setCell ⟨B, 7, none⟩ (.slice none 0 0)) B 8 ty (fun j => fmZ[j]!) :=
  ((((((((h.set 0 _).set 1 _).set 2 _).set 3 _).set 4 _).set 5 _).set 6 _).set 7 _).congr fun i hi => by
    rcases (show i = 0 ∨ i = 1 ∨ i = 2 ∨ i = 3 ∨ i = 4 ∨ i = 5 ∨ i = 6 ∨ i = 7 by omega) with rfl | rfl | rfl | rfl | rfl | rfl | rfl | rfl <;> rfl
/-- The index of a family by its name; 5 if there is none. -/
def fix (x : List UInt8) : Nat := if fnm 0 = x then 0 else if fnm 1 = x then 1 else if fnm 2 = x then 2 else if fnm 3 = x then 3 else if fnm 4 = x then 4 else 5
/-- What FamilyNamed hands back. -/
def FamE (x : List UInt8) (w' : World) (e : Ending) : Prop :=
  (∃ k a c, k < 5 ∧ x = fnm k ∧ e = .returned (.tuple #[fmV k a c, .int .i64 0]) ∧ FamR w' k a c) ∨
  ((∀ k, k < 5 → fnm k ≠ x) ∧ e = .returned (.tuple #[.agg fmZ, .int .i64 4]))
theorem lib_cell {w : World} {B : Nat} {A C : Nat → Nat} (h : ∀ k, k < 5 → FamR w k (A k) (C k) ∧ ∀ j, j < 8 → w.cell? ⟨B, k * 8 + j, none⟩ = (fcs k (A k) (C k))[j]?) {k : Nat} (hk : k < 5) {j : Nat} (hj : j < 8) : w.cell? ⟨B, k * 8 + j, none⟩ = some (fcF k (A k) (C k) j) := by
  rw [(h k hk).2 j hj, fcs_at _ _ _ hj]
set_option maxHeartbeats 8000000 in
set_option maxRecDepth 100000 in
theorem specFamilyNamed_any (x : List UInt8) (w : World) :
    Calls Tryz.prog 49 #[.string (str x)] w fun e w' => Below w.heap.size w w' ∧ FamE x w' e := by
  have T0 := Lib.hid (Tf.mkd w fmZ FmT)
  have B0 := Lib.hid (below1 w (.cells fmZ FmT))
  have HRES := Lib.hid (show Tryz.f49.results = #[.cell 2 FmT, .tmp 3] by kernel_rfl)
  go_enter Tryz.func49, Tryz.ntmps49
  go_wp2_with fail
  refine (specLibrary_any _).mono ?_
  rintro e w1 ⟨v, rfl, hb1, hL⟩
  have T1 := Lib.hid (T0.out.below hb1 T0.out.lt)
  have B1 := Lib.hid (B0.out.trans (hb1.mono B0.out.size))
  obtain ⟨B, cap, rfl, hc1, hc2, hB, -, A, C, hM, hK⟩ := hL
  have HK := Lib.hid hK
  obtain ⟨X, hX⟩ : ∃ X, w.heap.size = X := ⟨_, rfl⟩
  have HM := Lib.hid (show ∀ k, k < 5 → X + 1 ≤ A k ∧ X + 1 ≤ C k from fun k hk => by have := hM k hk; simp at this; omega)
  rw [hX] at T1 B1
  rw [hX]
  clear hb1 hK T0 B0 hM
  go_wp2_with fail
  go_loopw [5] (fun ti wr => ∃ i : Nat, i ≤ 5 ∧ ti = .int .i64 (i : Int) ∧ Hid (∀ k, k < i → fnm k ≠ x) ∧ wr = w1) (fun ti _ => 5 - (intOf ti).toNat)
  case atStart => exact ⟨0, by omega, rfl, Lib.hid (fun k hk => by omega), rfl⟩
  case round =>
    obtain ⟨i, hi, rfl, hN, rfl⟩ := hrel
    by_cases hlt : i < 5
    · have hc := fun j (hj : j < 8) => lib_cell HK.out hlt hj
      have HR := Lib.hid (HK.out i hlt).1
      have HNE := Lib.hid (show A i ≠ X ∧ C i ≠ X from by have := HM.out i hlt; omega)
      generalize A i = a at *
      generalize C i = c at *
      have hi5 : (i : Int) < 5 := by omega
      have g0 : wr.cell? ⟨B, i * 8, none⟩ = some (.string (str (fnm i))) := hc 0 (by omega)
      have hEB := str_eqB (fnm i) x
      by_cases hx : fnm i = x
      · rw [decide_eq_true hx] at hEB
        have HX := Lib.hid hx
        clear hx
        have g1 : wr.cell? ⟨B, i * 8 + 1, none⟩ = some (.int .i64 (fkd i)) := hc 1 (by omega)
        have g2 : wr.cell? ⟨B, i * 8 + 2, none⟩ = some (.int .i64 2) := hc 2 (by omega)
        have g3 : wr.cell? ⟨B, i * 8 + 3, none⟩ = some (.int .i64 ((fpw i : Nat) : Int)) := hc 3 (by omega)
        have g4 : wr.cell? ⟨B, i * 8 + 4, none⟩ = some (.int .i64 (fg0 i)) := hc 4 (by omega)
        have g5 : wr.cell? ⟨B, i * 8 + 5, none⟩ = some (.slice (some ⟨a, 0, none⟩) (fsz i).length (fsz i).length) := hc 5 (by omega)
        have g6 : wr.cell? ⟨B, i * 8 + 6, none⟩ = some (.int .i64 (fco i)) := hc 6 (by omega)
        have g7 : wr.cell? ⟨B, i * 8 + 7, none⟩ = some (.slice (some ⟨c, 0, none⟩) (flv i).length (flv i).length) := hc 7 (by omega)
        have t0 := T1.out.cell (i := 0) (by decide)
        have t1 := T1.out.cell (i := 1) (by decide)
        have t2 := T1.out.cell (i := 2) (by decide)
        have t3 := T1.out.cell (i := 3) (by decide)
        have t4 := T1.out.cell (i := 4) (by decide)
        have t5 := T1.out.cell (i := 5) (by decide)
        have t6 := T1.out.cell (i := 6) (by decide)
        have t7 := T1.out.cell (i := 7) (by decide)
        have z := T1.out.fz
        have z0 := z 0
        have z1 := z 1
        have z2 := z 2
        have z3 := z 3
        have z4 := z 4
        have z5 := z 5
        have z6 := z 6
        have z7 := z 7
        have HS := Lib.hid (tf_obj (tf_set8 (show Tf wr X 8 FmT _ from T1.out) i a c) (fcs i a c) rfl fun j hj => fcs_at i a c hj)
        have HB := Lib.hid (below_set8 B1.out (Nat.le_refl _) (.string (str (fnm i))) (.int .i64 (fkd i)) (.int .i64 2) (.int .i64 ((fpw i : Nat) : Int)) (.int .i64 (fg0 i)) (.slice (some ⟨a, 0, none⟩) (fsz i).length (fsz i).length) (.int .i64 (fco i)) (.slice (some ⟨c, 0, none⟩) (flv i).length (flv i).length))
        have HD := Lib.hid (dr_set8 X wr (.string (str (fnm i))) (.int .i64 (fkd i)) (.int .i64 2) (.int .i64 ((fpw i : Nat) : Int)) (.int .i64 (fg0 i)) (.slice (some ⟨a, 0, none⟩) (fsz i).length (fsz i).length) (.int .i64 (fco i)) (.slice (some ⟨c, 0, none⟩) (flv i).length (flv i).length))
        clear z hc
        go_wp2_with fail
        (try simp only [Exit.inBlock, Exit.then])
        exact ret_cell2 HRES.out Tryz.underlying90 rfl (by kernel_rfl) rfl rfl HS.out ⟨hX ▸ HB.out, .inl ⟨i, a, c, hlt, HX.out.symm, rfl, HR.out.dr HD.out HNE.out.1 HNE.out.2⟩⟩
      · rw [decide_eq_false hx] at hEB
        have HN2 := Lib.hid (show ∀ k, k < i + 1 → fnm k ≠ x from fun k hk => by
          by_cases e : k = i
          · rw [e]; exact hx
          · exact hN.out k (by omega))
        clear hx hc
        go_wp2_with fail
        go_roundw
        case rel => exact ⟨i + 1, by omega, by go_num, HN2, trivial⟩
        case measure => simp [intOf]; omega
    · obtain rfl : i = 5 := by omega
      have t0 := T1.out.cell (i := 0) (by decide)
      have t1 := T1.out.cell (i := 1) (by decide)
      have t2 := T1.out.cell (i := 2) (by decide)
      have t3 := T1.out.cell (i := 3) (by decide)
      have t4 := T1.out.cell (i := 4) (by decide)
      have t5 := T1.out.cell (i := 5) (by decide)
      have t6 := T1.out.cell (i := 6) (by decide)
      have t7 := T1.out.cell (i := 7) (by decide)
      have z := T1.out.fz
      have z0 := z 0
      have z1 := z 1
      have z2 := z 2
      have z3 := z 3
      have z4 := z 4
      have z5 := z 5
      have z6 := z 6
      have z7 := z 7
      have HS := Lib.hid (tf_obj (tf_setZ (show Tf wr X 8 FmT _ from T1.out)) fmZ.toList rfl fun j hj => by rcases (show j = 0 ∨ j = 1 ∨ j = 2 ∨ j = 3 ∨ j = 4 ∨ j = 5 ∨ j = 6 ∨ j = 7 by omega) with rfl | rfl | rfl | rfl | rfl | rfl | rfl | rfl <;> rfl)
      have HB := Lib.hid (below_set8 B1.out (Nat.le_refl _) (.string { data := #[] }) (.int .i64 0) (.int .i64 0) (.int .i64 0) (.int .i64 0) (.slice none 0 0) (.int .i64 0) (.slice none 0 0))
      have HN5 := Lib.hid hN.out
      clear z
      go_wp2_with fail
      (try simp only [Exit.inBlock, Exit.then])
      exact ret_cell2 HRES.out Tryz.underlying90 rfl (by kernel_rfl) rfl rfl HS.out ⟨hX ▸ HB.out, .inr ⟨HN5.out, rfl⟩⟩
end Go.Proofs.YtdcmebegnekkcaaGreat
/-
  A function that is called once (sync.Once), one goroutine: the parts.
-/
namespace Go.Proofs.YtdcmebegnekkcaaGreat
open Go.RowKit
set_option linter.unusedVariables false

theorem race_disable (w : World) : (callFunc 174 #[]).run Tryz.prog w = .ok (.value (.tuple #[])) w := run_call_mark0 Tryz.func174 (by kernel_rfl) (by kernel_rfl) (by kernel_rfl) .disable (by kernel_rfl) w
theorem race_enable (w : World) : (callFunc 176 #[]).run Tryz.prog w = .ok (.value (.tuple #[])) w := run_call_mark0 Tryz.func176 (by kernel_rfl) (by kernel_rfl) (by kernel_rfl) .enable (by kernel_rfl) w
theorem race_acquire (a : Addr) (w : World) : (callFunc 177 #[.pointer (some a)]).run Tryz.prog w = .ok (.value (.tuple #[])) w := run_call_marked Tryz.func177 (by kernel_rfl) (by kernel_rfl) (by kernel_rfl) .acquire (by kernel_rfl) a w
theorem race_release (a : Addr) (w : World) : (callFunc 179 #[.pointer (some a)]).run Tryz.prog w = .ok (.value (.tuple #[])) w := run_call_marked Tryz.func179 (by kernel_rfl) (by kernel_rfl) (by kernel_rfl) .releaseMerge (by kernel_rfl) a w
set_option maxRecDepth 100000 in
/-- The store of 'done', as a deferred call. -/
theorem store_deferred (a : Addr) (x : Value) (u : FrameMode) (w : World) (hc : w.cell? a = some x) (hz : w.frozen? a = false) :
    CallsD Tryz.prog 161 #[.pointer (some a), .bool true] u w fun e u' w' => u' = u ∧ (e = .returned (.tuple #[]) ∧ w' = w.drew.setCell a (.int .u32 1)) := by
  have hc' : w.drew.cell? a = some x := by go_simp
  have hz' : w.drew.frozen? a = false := by go_simp
  have hst := run_call_store (P := Tryz.prog) Tryz.func168 (by kernel_rfl) (by kernel_rfl) (by kernel_rfl) (by kernel_rfl) (k := .u32) (y := 1) hc' hz'
  go_enter_d Tryz.func161, Tryz.ntmps161
  go_wp2
  go_region_calls
  all_goals (go_end0; exact ⟨rfl, rfl⟩)
set_option maxRecDepth 100000 in
/-- The lock is let go, as a deferred call. -/
theorem unlock_deferred (a : Addr) (u : FrameMode) (w : World) (hc : w.cell? a = some (.int .i32 1)) (hz : w.frozen? a = false) :
    CallsD Tryz.prog 160 #[.pointer (some a)] u w fun e u' w' => u' = u ∧ (e = .returned (.tuple #[]) ∧ w' = w.setCell a (.int .i32 0)) := by
  have hd := race_disable
  have he := race_enable
  have hr := race_release
  have hadd := run_call_add (P := Tryz.prog) Tryz.func180 (by kernel_rfl) (by kernel_rfl) (by kernel_rfl) .i32 (by kernel_rfl) (y := -1) (s := 0) hc hz (by simp [go_sem]; rfl)
  have hcv := run_convert_to_unsafe (P := Tryz.prog) (src := 237) (dst := 241) Tryz.underlying237 Tryz.underlying241 (by kernel_rfl) hc
  go_enter_d Tryz.func160, Tryz.ntmps160
  go_wp2
  go_end0
  go_wp2
  go_end0
  exact ⟨rfl, rfl⟩
set_option maxRecDepth 100000 in
/-- The lock, free, is taken. -/
theorem lock_free (a : Addr) (w : World) (hc : w.cell? a = some (.int .i32 0)) (hz : w.frozen? a = false) :
    Calls Tryz.prog 159 #[.pointer (some a)] w fun e w' => e = .returned (.tuple #[]) ∧ w' = w.setCell a (.int .i32 1) := by
  have hd := race_disable
  have he := race_enable
  have ha := race_acquire
  have hcas := run_call_cas_hit (P := Tryz.prog) Tryz.func175 (by kernel_rfl) (by kernel_rfl) (by kernel_rfl) .i32 (by kernel_rfl) (y := 1) hc hz
  have hc' : (w.setCell a (.int .i32 1)).cell? a = some (.int .i32 1) := World.cell?_setCell_same w a _ hc
  have hcv := run_convert_to_unsafe (P := Tryz.prog) (src := 237) (dst := 241) Tryz.underlying237 Tryz.underlying241 (by kernel_rfl) hc'
  go_enter Tryz.func159, Tryz.ntmps159
  go_wp2
  first | go_end0 | (simp only [Exit.inBlock, Exit.then]; refine bodyPost_ret (results_none rfl _ _ _) rfl ?_) | refine bodyPost_ret (results_none rfl _ _ _) rfl ?_
  go_wp2
  go_end0
  exact ⟨rfl, rfl⟩
end Go.Proofs.YtdcmebegnekkcaaGreat
/-
  The program's library: a family is added to the shelf.
-/
namespace Go.Proofs.YtdcmebegnekkcaaGreat
open Go.RowKit
set_option linter.unusedVariables false

abbrev ShT : TypeId := 183
def fcL (A C : Nat → Nat) : Nat → List Value
  | 0 => []
  | k + 1 => fcL A C k ++ fcs k (A k) (C k)
theorem fcL_len (A C : Nat → Nat) (k : Nat) : (fcL A C k).length = k * 8 := by
  induction k with
  | zero => rfl
  | succ k ih => rw [fcL, List.length_append, ih, fcs_len]; omega
theorem fcL_congr {A C A' C' : Nat → Nat} {k : Nat} (h : ∀ i, i < k → A i = A' i ∧ C i = C' i) : fcL A C k = fcL A' C' k := by
  induction k with
  | zero => rfl
  | succ k ih => rw [fcL, fcL, ih (fun i hi => h i (by omega)), (h k (by omega)).1, (h k (by omega)).2]
theorem fcL_at (A C : Nat → Nat) {k i j : Nat} (hi : i < k) (hj : j < 8) : (fcL A C k)[i * 8 + j]? = (fcs i (A i) (C i))[j]? := by
  induction k with
  | zero => omega
  | succ k ih =>
    rw [fcL]
    by_cases e : i < k
    · rw [List.getElem?_append_left (by rw [fcL_len]; omega)]; exact ih e
    · obtain rfl : i = k := by omega
      rw [List.getElem?_append_right (by rw [fcL_len]; omega), fcL_len, Nat.add_sub_cancel_left]
def shF (d s : Int) (v : Value) (i : Nat) : Value := if i = 0 then .int .u32 d else if i = 1 then .int .i32 s else if i = 2 then .int .u32 0 else v
/-- The shelf while it is filled: k families stand on it. -/
structure ShI (w0 w : World) (Sb Vb M k : Nat) (v : Value) (A C : Nat → Nat) : Prop where
  own : w.ownsRow M FmT 8 v k (fcL A C k)
  sh : Tf w Sb 4 ShT (shF 0 1 v)
  vb : w.cell? ⟨Vb, 0, none⟩ = some (.pointer (some ⟨Sb, 0, none⟩))
  rows : ∀ i, i < k → FamR w i (A i) (C i)
  new : ∀ i, i < k → M ≤ A i ∧ M ≤ C i
  ne : ∀ i, i < k → v.ownBlock ≠ some (A i) ∧ v.ownBlock ≠ some (C i)
  os : w.os = w0.os
  tape : w.tape = w0.tape
  output : w.output = w0.output
  kp : ∀ j, j < M → j ≠ Sb → w.heap[j]? = w0.heap[j]?
  sb : Sb < M
  vm : Vb < M
  sv : Sb ≠ Vb
  sz : M ≤ w.heap.size
theorem ownsRow_below {w w' : World} {M : Nat} {e : TypeId} {s : Nat} {v : Value} {n : Nat} {xs : List Value} (h : w.ownsRow M e s v n xs) (hb : Below w.heap.size w w') : w'.ownsRow M e s v n xs := by
  refine ⟨h.1, ?_⟩
  rcases h.2 with h2 | ⟨g, cap, cur, rfl, hg, hh, r⟩
  · exact .inl h2
  · exact .inr ⟨g, cap, cur, rfl, hg, (hb.block g (Array.getElem?_eq_some_iff.1 hh).1).trans hh, r⟩
theorem ShI.below {w0 w w' : World} {Sb Vb M k : Nat} {v : Value} {A C : Nat → Nat} (h : ShI w0 w Sb Vb M k v A C) (hb : Below w.heap.size w w') : ShI w0 w' Sb Vb M k v A C :=
  have hs := h.sz
  ⟨ownsRow_below h.own hb, h.sh.below hb h.sh.lt, keep_cell hb h.vb, fun i hi => (h.rows i hi).below hb, h.new, h.ne, hb.os.trans h.os, hb.tape.trans h.tape, hb.output.trans h.output,
   fun j hj hn => (hb.block j (by omega)).trans (h.kp j hj hn), h.sb, h.vm, h.sv, Nat.le_trans hs hb.size⟩
theorem info_fam : (Tryz.prog.info? FmT).map (fun i => (i.zero, i.size, i.bytes)) = some (some (.agg fmZ), 8, 104) := by kernel_rfl
theorem step_app {W0 : World} {ops : Array Oper} {o : Oper} {a : Act} {K : Act → World → Prop} {Q : Exit → Act → World → Prop} {E : Prop} (hgd : o.guard = none) (s x : Operand) (t : TypeId)
    (ho : o.op = .call { callee := .builtin .append, args := #[s, x], argTypes := #[t, t] }) {v v2 v' : Value} {w' : World}
    (hrun : (Builtin.append_ #[t, t] o.type #[v, v2]).run Tryz.prog W0 = .ok v' w') (hs : a.eval s = v) (hx : a.eval x = v2) (h : K (a.put o.dst v') w') :
    if Region.wanted o (yielded ops a.tmps) = true then Oper.wp Tryz.prog o a W0 K Q else E := by
  have hw : Region.wanted o (yielded ops a.tmps) = true := by simp [Region.wanted, hgd]
  rw [if_pos hw]
  unfold Oper.wp
  simp [execOp, ho, resolve, invoke, builtin, hs, hx, hrun, Result.andThen]
  exact h
/-- The families behind one more. -/
theorem ShI.more {w0 w w' : World} {Sb Vb M k : Nat} {v v' : Value} {A C : Nat → Nat} (h : ShI w0 w Sb Vb M k v A C) {a c : Nat} (hR : FamR w k a c) (ha : M ≤ a) (hc : M ≤ c) (hne : v.ownBlock ≠ some a ∧ v.ownBlock ≠ some c)
    (hal : a < w.heap.size) (hcl : c < w.heap.size)
    (hown : w'.ownsRow M FmT 8 v' (k + 1) (fcL A C k ++ fcs k a c)) (hg : w.grownBy w' v.ownBlock) (hloc : v'.ownBlock = v.ownBlock ∨ ∃ q, v'.ownBlock = some q ∧ w.heap.size ≤ q) :
    ShI w0 (w'.setCell ⟨Sb, 3, none⟩ v') Sb Vb M (k + 1) v' (fun i => if i = k then a else A i) (fun i => if i = k then c else C i) := by
  have hs := h.sz
  have hsb := h.sb
  have hvm := h.vm
  have hbl : ∀ q, v.ownBlock = some q → M ≤ q := fun q hq => (h.own.lt q hq).1
  have hA : ∀ i, i < k → A i < w.heap.size ∧ C i < w.heap.size := fun i hi => by
    obtain ⟨b, off, e, hlt, _⟩ := (h.rows i hi).sz.at' (by have := fsz_len i; omega)
    obtain ⟨b2, off2, e2, hlt2, _⟩ := (h.rows i hi).lv.at' (by have := flv_len i; omega)
    simp only [Option.some.injEq, Addr.mk.injEq] at e e2
    omega
  have hold : ∀ j, j < w.heap.size → j ≠ Sb → v.ownBlock ≠ some j → (w'.setCell ⟨Sb, 3, none⟩ v').heap[j]? = w.heap[j]? := fun j hj hn ho =>
    (Below.heap_setCell _ _ _ _ hn).trans (hg.block j hj (fun e => ho e.symm))
  have hfam : ∀ i a c, FamR w i a c → a < w.heap.size → c < w.heap.size → a ≠ Sb → c ≠ Sb → v.ownBlock ≠ some a → v.ownBlock ≠ some c → FamR (w'.setCell ⟨Sb, 3, none⟩ v') i a c := fun i a c hr h1 h2 h3 h4 h5 h6 => by
    have hsz : w.heap.size ≤ (w'.setCell ⟨Sb, 3, none⟩ v').heap.size := by simpa [World.setCell] using hg.size
    refine ⟨⟨hr.sz.len, hr.sz.small, fun hn => ?_⟩, ⟨hr.lv.len, hr.lv.small, fun hn => ?_⟩⟩
    · obtain ⟨b, off, e, hlt, hcs⟩ := hr.sz.at' hn
      refine ⟨b, off, e, Nat.lt_of_lt_of_le hlt hsz, fun j hj => ?_⟩
      simp only [Option.some.injEq, Addr.mk.injEq] at e
      obtain ⟨rfl, rfl, -⟩ := e
      exact (World.cell?_of_block (w := w) (a := ⟨a, 0 + j, none⟩) (hold a h1 h3 h5)).trans (hcs j hj)
    · obtain ⟨b, off, e, hlt, hcs⟩ := hr.lv.at' hn
      refine ⟨b, off, e, Nat.lt_of_lt_of_le hlt hsz, fun j hj => ?_⟩
      simp only [Option.some.injEq, Addr.mk.injEq] at e
      obtain ⟨rfl, rfl, -⟩ := e
      exact (World.cell?_of_block (w := w) (a := ⟨c, 0 + j, none⟩) (hold c h2 h4 h6)).trans (hcs j hj)
  have hnb : v'.ownBlock ≠ some a ∧ v'.ownBlock ≠ some c ∧ ∀ i, i < k → v'.ownBlock ≠ some (A i) ∧ v'.ownBlock ≠ some (C i) := by
    rcases hloc with e | ⟨q, e, hq⟩
    · rw [e]; exact ⟨hne.1, hne.2, h.ne⟩
    · rw [e]
      exact ⟨fun h1 => by cases h1; omega, fun h1 => by cases h1; omega, fun i hi => by have := hA i hi; exact ⟨fun h1 => by cases h1; omega, fun h1 => by cases h1; omega⟩⟩
  have hSo : v.ownBlock ≠ some Sb := fun e => by have := hbl Sb e; omega
  have hSo' : v'.ownBlock ≠ some Sb := fun e => by have := (hown.lt Sb e).1; omega
  refine ⟨?_, ?_, ?_, fun i hi => ?_, fun i hi => ?_, fun i hi => ?_, hg.os.trans h.os, hg.tape.trans h.tape, hg.output.trans h.output, fun j hj hn => ?_, h.sb, h.vm, h.sv, ?_⟩
  · have e : fcL (fun i => if i = k then a else A i) (fun i => if i = k then c else C i) (k + 1) = fcL A C k ++ fcs k a c := by
      rw [fcL, if_pos rfl, if_pos rfl, fcL_congr (A' := A) (C' := C) fun i hi => ⟨if_neg (by omega), if_neg (by omega)⟩]
    rw [e]
    exact ownsRow_setCell_below hown (a := ⟨Sb, 3, none⟩) (by show Sb < M; omega) v'
  · have h1 : Tf w' Sb 4 ShT (shF 0 1 v) := by
      obtain ⟨cs, h1, h2⟩ := h.sh.blk
      exact ⟨cs, (hg.block Sb h.sh.lt (fun e => hSo e.symm)).trans h1, h2⟩
    refine (h1.set 3 v').congr fun i hi => ?_
    unfold upd shF
    by_cases e : i = 3
    · subst e; rfl
    · rw [if_neg e]
      rcases (show i = 0 ∨ i = 1 ∨ i = 2 by omega) with rfl | rfl | rfl <;> rfl
  · have hv := World.block_lt_of_cell? _ _ h.vb
    exact (World.cell?_of_block (w := w) (a := ⟨Vb, 0, none⟩) (hold Vb (by omega) (Ne.symm h.sv) (fun e => by have := hbl Vb e; omega))).trans h.vb
  · by_cases e : i = k
    · subst e
      simp only [if_pos]
      exact hfam i a c hR hal hcl (by omega) (by omega) hne.1 hne.2
    · have hi' : i < k := by omega
      have h1 := h.new i hi'
      have h2 := hA i hi'
      simp only [if_neg e]
      exact hfam i _ _ (h.rows i hi') h2.1 h2.2 (by omega) (by omega) (h.ne i hi').1 (h.ne i hi').2
  · by_cases e : i = k
    · simp only [if_pos e]; exact ⟨ha, hc⟩
    · simp only [if_neg e]; exact h.new i (by omega)
  · by_cases e : i = k
    · simp only [if_pos e]; exact ⟨hnb.1, hnb.2.1⟩
    · simp only [if_neg e]; exact hnb.2.2 i (by omega)
  · exact (hold j (by omega) hn (fun e => by have := hbl j e; omega)).trans (h.kp j hj hn)
  · have := hg.size; simp [World.setCell]; omega
end Go.Proofs.YtdcmebegnekkcaaGreat
