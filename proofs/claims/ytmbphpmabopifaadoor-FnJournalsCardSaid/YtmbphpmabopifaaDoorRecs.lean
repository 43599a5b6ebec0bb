/-
  Slices of records: the walks of the laws' helpers on them.
-/
import Derived.Test.YtmbphpmabopifaaDoorRec
import Derived.Test.YtmbphpmabopifaaDoorOwn
import Derived.Deep.RegionHeld3
namespace Go.Proofs.YtmbphpmabopifaaDoor
open Go.RowKit
set_option linter.unusedVariables false

def gr (L : List (Int × Int)) (j : Nat) : Int × Int := L.getD j (0, 0)
/-- A slice of records. -/
structure RecsAt (w : World) (a : Option Addr) (n : Nat) (L : List (Int × Int)) : Prop where
  len : L.length = n
  small : n ≤ 9223372036854775807
  at' : 0 < n → ∃ b off, a = some ⟨b, off, none⟩ ∧ b < w.heap.size ∧ ∀ j, j < n → w.cell? ⟨b, off + j * 2, none⟩ = some (.int .i64 (gr L j).1) ∧ w.cell? ⟨b, off + j * 2 + 1, none⟩ = some (.int .i64 (gr L j).2)
theorem RecsAt.below {w w' : World} {a : Option Addr} {n : Nat} {L : List (Int × Int)} (h : RecsAt w a n L) (hb : Below w.heap.size w w') : RecsAt w' a n L :=
  ⟨h.len, h.small, fun hn => by
    obtain ⟨b, off, rfl, hlt, hc⟩ := h.at' hn
    exact ⟨b, off, rfl, by have := hb.size; omega, fun j hj => ⟨(hb.cell (p := ⟨b, off + j * 2, none⟩) hlt).trans (hc j hj).1, (hb.cell (p := ⟨b, off + j * 2 + 1, none⟩) hlt).trans (hc j hj).2⟩⟩⟩
theorem RecsAt.drew {w : World} {a : Option Addr} {n : Nat} {L : List (Int × Int)} (h : RecsAt w a n L) (q : Nat) : RecsAt (w.drewN q) a n L := h.below (below_drewN (Below.refl _ _) q)
/-- A slice of records in a block of its own, between two numbers, of which the first m are known. -/
structure RecsOwn (w : World) (lo hi : Nat) (a : Option Addr) (n m : Nat) (L : List (Int × Int)) : Prop where
  at' : 0 < n → ∃ b cur, a = some ⟨b, 0, none⟩ ∧ lo ≤ b ∧ b < hi ∧ b < w.heap.size ∧ w.heap[b]? = some (.cells cur 36 (0, 0)) ∧ n * 2 ≤ cur.size ∧ (∀ j, j < n → ∃ x y, cur[j * 2]? = some (.int .i64 x) ∧ cur[j * 2 + 1]? = some (.int .i64 y)) ∧
    ∀ j, j < m → j < n → cur[j * 2]? = some (.int .i64 (gr L j).1) ∧ cur[j * 2 + 1]? = some (.int .i64 (gr L j).2)
theorem RecsOwn.below {w w' : World} {lo hi : Nat} {a : Option Addr} {n m : Nat} {L : List (Int × Int)} (h : RecsOwn w lo hi a n m L) (hb : Below w.heap.size w w') : RecsOwn w' lo hi a n m L :=
  ⟨fun hn => by
    obtain ⟨b, cur, e, h1, h2, h3, h4, r⟩ := h.at' hn
    exact ⟨b, cur, e, h1, h2, by have := hb.size; omega, (hb.block b h3).trans h4, r⟩⟩
theorem RecsOwn.recs {w : World} {lo hi : Nat} {a : Option Addr} {n : Nat} {L : List (Int × Int)} (h : RecsOwn w lo hi a n n L) (hl : L.length = n) (hs : n ≤ 9223372036854775807) : RecsAt w a n L :=
  ⟨hl, hs, fun hn => by
    obtain ⟨b, cur, e, h1, h2, h3, h4, h5, h6, h7⟩ := h.at' hn
    refine ⟨b, 0, e, h3, fun j hj => ?_⟩
    rw [cell_of_heap h4, cell_of_heap h4, Nat.zero_add]
    exact h7 j hj hj⟩
theorem RecsOwn.chg {w w' : World} {lo hi lo' hi' : Nat} {a : Option Addr} {n m : Nat} {L : List (Int × Int)} (h : RecsOwn w lo hi a n m L) (hc : Chg lo' hi' w w') (hd : hi ≤ lo' ∨ hi' ≤ lo) : RecsOwn w' lo hi a n m L :=
  ⟨fun hn => by
    obtain ⟨b, cur, e, h1, h2, h3, h4, r⟩ := h.at' hn
    exact ⟨b, cur, e, h1, h2, by have := hc.size; omega, (hc.block b (by omega)).trans h4, r⟩⟩
theorem set_get (cur : Array Value) (i j : Nat) (v : Value) (hi : i < cur.size) : (cur.setIfInBounds i v)[j]? = if j = i then some v else cur[j]? := by
  by_cases e : j = i
  · subst e; rw [if_pos rfl, Array.getElem?_setIfInBounds_self_of_lt hi]
  · rw [if_neg e, Array.getElem?_setIfInBounds_ne (by omega)]
theorem RecsOwn.set2 {w : World} {lo hi b : Nat} {n m : Nat} {L : List (Int × Int)} (h : RecsOwn w lo hi (some ⟨b, 0, none⟩) n m L) (hm : m < n) :
    RecsOwn ((w.setCell ⟨b, m * 2, none⟩ (.int .i64 (gr L m).1)).setCell ⟨b, m * 2 + 1, none⟩ (.int .i64 (gr L m).2)) lo hi (some ⟨b, 0, none⟩) n (m + 1) L :=
  ⟨fun hn => by
    obtain ⟨g, cur, e, h1, h2, h3, h4, h5, h6, h7⟩ := h.at' hn
    simp only [Option.some.injEq, Addr.mk.injEq, and_true] at e
    subst e
    refine ⟨b, _, rfl, h1, h2, by simpa [World.setCell] using h3, heap_setCell_self _ _ _ _ _ _ _ (heap_setCell_self _ _ _ _ _ _ _ h4), by simpa using h5, fun j hj => ?_, fun j hj hjn => ?_⟩
    · obtain ⟨x, y, hx, hy⟩ := h6 j hj
      by_cases e : j = m
      · subst e
        exact ⟨_, _, by rw [set_get _ _ _ _ (by simp; omega), if_neg (by omega), set_get _ _ _ _ (by omega), if_pos rfl], by rw [set_get _ _ _ _ (by simp; omega), if_pos rfl]⟩
      · exact ⟨x, y, by rw [set_get _ _ _ _ (by simp; omega), if_neg (by omega), set_get _ _ _ _ (by omega), if_neg (by omega)]; exact hx, by rw [set_get _ _ _ _ (by simp; omega), if_neg (by omega), set_get _ _ _ _ (by omega), if_neg (by omega)]; exact hy⟩
    · by_cases e : j = m
      · subst e
        exact ⟨by rw [set_get _ _ _ _ (by simp; omega), if_neg (by omega), set_get _ _ _ _ (by omega), if_pos rfl], by rw [set_get _ _ _ _ (by simp; omega), if_pos rfl]⟩
      · obtain ⟨hx, hy⟩ := h7 j (by omega) hjn
        exact ⟨by rw [set_get _ _ _ _ (by simp; omega), if_neg (by omega), set_get _ _ _ _ (by omega), if_neg (by omega)]; exact hx, by rw [set_get _ _ _ _ (by simp; omega), if_neg (by omega), set_get _ _ _ _ (by omega), if_neg (by omega)]; exact hy⟩⟩
/-- One cell is written; nothing is known of the contents behind it but its shape. -/
theorem RecsOwn.spoil {w : World} {lo hi b : Nat} {n m : Nat} {L : List (Int × Int)} (h : RecsOwn w lo hi (some ⟨b, 0, none⟩) n m L) {c : Nat} (hc : c < n * 2) (v : Int) :
    RecsOwn (w.setCell ⟨b, c, none⟩ (.int .i64 v)) lo hi (some ⟨b, 0, none⟩) n 0 L :=
  ⟨fun hn => by
    obtain ⟨g, cur, e, h1, h2, h3, h4, h5, h6, h7⟩ := h.at' hn
    simp only [Option.some.injEq, Addr.mk.injEq, and_true] at e
    subst e
    refine ⟨b, _, rfl, h1, h2, by simpa [World.setCell] using h3, heap_setCell_self _ _ _ _ _ _ _ h4, by simpa using h5, fun j hj => ?_, fun j hj => by omega⟩
    obtain ⟨x, y, hx, hy⟩ := h6 j hj
    rw [set_get _ _ _ _ (by omega), set_get _ _ _ _ (by omega)]
    by_cases e1 : j * 2 = c
    · rw [if_pos e1, if_neg (by omega)]; exact ⟨_, _, rfl, hy⟩
    · by_cases e2 : j * 2 + 1 = c
      · rw [if_neg e1, if_pos e2]; exact ⟨_, _, hx, rfl⟩
      · rw [if_neg e1, if_neg e2]; exact ⟨_, _, hx, hy⟩⟩
theorem szRecordS_any {w : World} {a : Option Addr} {n cap : Nat} (left : Int) (hn : n ≤ 9223372036854775807) (h0 : 0 ≤ left) (h1 : left ≤ 1048576) :
    Calls Tryd.prog 9 #[.slice a n cap, .int .i64 left] w fun e w' => e = .returned (.int .i64 (if (n : Int) ≤ left then left - n else -1)) ∧ w = w' := by
  by_cases h : (n : Int) ≤ left
  · rw [if_pos h]
    go_enter Tryd.func9, Tryd.ntmps9
    go_wp2
    go_ret
    exact ⟨rfl, rfl⟩
  · rw [if_neg h]
    have h' : left - (n : Int) < 0 := by omega
    go_enter Tryd.func9, Tryd.ntmps9
    go_wp2
    go_ret
    exact ⟨rfl, rfl⟩
theorem info_rec : (Tryd.prog.info? 36).map (fun i => (i.zero, i.size, i.bytes)) = some (some (.agg #[.int .i64 0, .int .i64 0]), 2, 16) := by kernel_rfl
theorem run_make_recs (w : World) (n : Int) (h0 : 0 ≤ n) (hn : n ≤ 16777216) :
    (Instr.makeSlice 26 (.int .i64 n) (.int .i64 n)).run Tryd.prog w = .ok (.slice (some ⟨w.heap.size, 0, none⟩) n.toNat n.toNat) (w.alloc (.cells (madeCells #[.int .i64 0, .int .i64 0] (n.toNat * 2)) 36)) := by
  obtain ⟨i0, hi, hz0, hz1, hz2⟩ := info_parts info_rec
  have := run_make (P := Tryd.prog) w 26 36 i0 _ Tryd.underlying26 hi hz0 .i64 .i64 n n h0 (Int.le_refl _) (by rw [hz2]; omega) (by omega)
  rw [hz1] at this
  exact this
theorem recs_new (w : World) (n : Nat) (L : List (Int × Int)) : RecsOwn (w.alloc (.cells (madeCells #[.int .i64 0, .int .i64 0] (n * 2)) 36)) w.heap.size (w.heap.size + 1) (some ⟨w.heap.size, 0, none⟩) n 0 L :=
  ⟨fun hn => ⟨_, _, rfl, Nat.le_refl _, by omega, by simp, heap_alloc_new w _, by simp [madeCells], fun j hj => ⟨0, 0, by
    have h1 : j * 2 < n * 2 := by omega
    have h2 : j * 2 + 1 < n * 2 := by omega
    simp [madeCells, h1, h2], by
    have h1 : j * 2 < n * 2 := by omega
    have h2 : j * 2 + 1 < n * 2 := by omega
    simp [madeCells, h1, h2]⟩, fun j h => by omega⟩⟩
set_option maxHeartbeats 1000000 in
theorem toRecordS_any {w : World} {a : Option Addr} {n cap : Nat} {L : List (Int × Int)} (h : RecsAt w a n L) (hn : n ≤ 1048576) :
    Calls Tryd.prog 11 #[.slice a n cap] w fun e w' => ∃ a', e = .returned (.slice a' n n) ∧ Below w.heap.size w w' ∧ RecsOwn w' w.heap.size (w.heap.size + 1) a' n n L ∧ w.heap.size < w'.heap.size := by
  have H := Lib.hid h
  clear h
  have hmk := fun w => run_make_recs w (n : Int) (by omega) (by omega)
  simp only [Int.toNat_natCast] at hmk
  have HO0 := Lib.hid (recs_new w n L)
  go_enter Tryd.func11, Tryd.ntmps11
  go_wp2_with fail
  clear hmk
  go_loopw [4] (fun t wr => ∃ k : Nat, k ≤ n ∧ t = .int .i64 k ∧ Hid (RecsOwn wr w.heap.size (w.heap.size + 1) (some ⟨w.heap.size, 0, none⟩) n k L) ∧ Hid (Below w.heap.size w wr) ∧ Hid (w.heap.size < wr.heap.size)) (fun t _ => (n - intOf t).toNat)
  case atStart => exact ⟨0, by omega, rfl, HO0, Lib.hid (below1 _ _), Lib.hid (by simp)⟩
  case round =>
    obtain ⟨k, hk, rfl, ho, hb, hsz⟩ := hrel
    clear HO0
    by_cases hlt : k < n
    · obtain ⟨b1, o1, rfl, hb1, hcs⟩ := (H.out.below hb.out).at' (by omega)
      obtain ⟨hc0, hc1⟩ := hcs k hlt
      clear hcs
      obtain ⟨g, cur, eg, hg1, hg2, hg3, hg4, hg5, hg6, hg7⟩ := ho.out.at' (by omega)
      simp only [Option.some.injEq, Addr.mk.injEq, and_true] at eg
      subst eg
      have HO := Lib.hid ho.out
      have HH := Lib.hid hg4
      go_wp2_with fail
      refine (toRecord_any _ _ _).mono ?_
      rintro e w2 ⟨rfl, hb2⟩
      have hh2 := (hb2.block w.heap.size hg3).trans HH.out
      obtain ⟨x0, y0, hx0, hy0⟩ := hg6 k hlt
      have d0 := (cell_of_heap hh2 (k * 2)).trans hx0
      have d1 := (cell_of_heap hh2 (k * 2 + 1)).trans hy0
      have f0 := frozen_of_heap hh2 (k * 2)
      have f1 := frozen_of_heap hh2 (k * 2 + 1)
      clear hg4 hg6 hg7 hx0 hy0
      go_wp2_with fail
      have hB3 := Lib.hid (((hb.out.trans (hb2.mono hb.out.size)).setCell (p := ⟨w.heap.size, k * 2, none⟩) (Nat.le_refl _) (.int .i64 (gr L k).1)).setCell (p := ⟨w.heap.size, k * 2 + 1, none⟩) (Nat.le_refl _) (.int .i64 (gr L k).2))
      have hO3 := Lib.hid ((HO.out.below hb2).set2 hlt)
      have hS3 := Lib.hid (show w.heap.size < ((w2.setCell ⟨w.heap.size, k * 2, none⟩ (.int .i64 (gr L k).1)).setCell ⟨w.heap.size, k * 2 + 1, none⟩ (.int .i64 (gr L k).2)).heap.size by have h1 := hb2.size; have h2 := hsz.out; simp [World.setCell]; omega)
      exact ⟨⟨k + 1, by omega, by go_num, hO3, hB3, hS3⟩, by simp [intOf]; omega⟩
    · obtain rfl : k = n := by omega
      go_wp2_with fail
      go_ret
      exact ⟨_, rfl, hb.out, ho.out, hsz.out⟩
/-- Whether two lists of records are equal. -/
def eqR (L M : List (Int × Int)) : Bool := decide (L = M)
theorem keep_cellR {W W' : World} {a : Addr} {v : Value} (hb : Below W.heap.size W W') (h : W.cell? a = some v) : W'.cell? a = some v := (hb.cell (World.block_lt_of_cell? _ a h)).trans h
theorem eqRecord_same (x y : Int) (w : World) :
    Calls Tryd.prog 33 #[rV x y, rV x y] w fun e w' => e = .returned (.bool true) ∧ Below w.heap.size w w' := by
  go_enter Tryd.func33, Tryd.ntmps33
  go_wp2
  go_ret
  exact ⟨rfl, (below1 _ _).alloc (by simp) _⟩
set_option maxHeartbeats 1000000 in
theorem eqRecordS_same {w : World} {a b : Option Addr} {n cap cap' : Nat} {L : List (Int × Int)} (hx : RecsAt w a n L) (hy : RecsAt w b n L) :
    Calls Tryd.prog 13 #[.slice a n cap, .slice b n cap'] w fun e w' => e = .returned (.bool true) ∧ Below w.heap.size w w' := by
  have HX := Lib.hid hx
  have HY := Lib.hid hy
  have hsm := hx.small
  clear hx hy
  go_enter Tryd.func13, Tryd.ntmps13
  go_wp2_with fail
  go_loopw [5] (fun t wr => ∃ k : Nat, k ≤ n ∧ t = .int .i64 k ∧ Hid (Below w.heap.size w wr)) (fun t _ => (n - intOf t).toNat)
  case atStart => exact ⟨0, by omega, rfl, Lib.hid (Below.refl _ _)⟩
  case round =>
    obtain ⟨k, hk, rfl, hb⟩ := hrel
    by_cases hlt : k < n
    · obtain ⟨b1, o1, rfl, hb1, hcs⟩ := (HX.out.below hb.out).at' (by omega)
      obtain ⟨hc0, hc1⟩ := hcs k hlt
      obtain ⟨b2, o2, rfl, hb2, hcs'⟩ := (HY.out.below hb.out).at' (by omega)
      obtain ⟨hd0, hd1⟩ := hcs' k hlt
      clear hcs hcs'
      generalize gr L k = r at *
      obtain ⟨x, y⟩ := r
      dsimp only at hc0 hc1 hd0 hd1
      go_wp2_with fail
      go_region_held3 (fun w' => w'.cell? ⟨b1, o1 + k * 2, none⟩ = some (.int .i64 x) ∧ w'.cell? ⟨b1, o1 + k * 2 + 1, none⟩ = some (.int .i64 y) ∧ w'.cell? ⟨b2, o2 + k * 2, none⟩ = some (.int .i64 x) ∧ w'.cell? ⟨b2, o2 + k * 2 + 1, none⟩ = some (.int .i64 y))
        (first | go_keep | ((try (dsimp only)); go_split_ands; (repeat' apply And.intro); all_goals (first | go_keep | exact keep_cellR hbE (by assumption))))
        (first | (go_at_call 33; refine (eqRecord_same x y _).mono ?_; rintro e w2 ⟨rfl, hbE⟩))
      have hB2 := Lib.hid (hb.out.trans (((Below.refl _ wr).drew.trans hbE).mono hb.out.size))
      go_wp2_with fail
      go_roundw
      case rel => exact ⟨k + 1, by omega, by go_num, hB2⟩
      case measure => simp [intOf]; omega
    · obtain rfl : k = n := by omega
      go_wp2_with fail
      go_ret
      exact ⟨rfl, hb.out⟩
set_option maxHeartbeats 1000000 in
theorem markRecordS_any {w : World} {lo hi n cap : Nat} {a : Option Addr} {L : List (Int × Int)} (h : RecsOwn w lo hi a n n L) (hn : n ≤ 1048576) (k : Int) (hk0 : 0 ≤ k) (hk : k ≤ 4194304) :
    Calls Tryd.prog 23 #[.slice a n cap, .int .i64 k] w fun e w' => e = .returned (.int .i64 (k + n + n)) ∧ Chg lo hi w w' := by
  have H := Lib.hid h
  clear h
  go_enter Tryd.func23, Tryd.ntmps23
  go_wp2_with fail
  go_loopw [1, 5] (fun kk t wr => ∃ m j : Nat, m ≤ n ∧ t = .int .i64 m ∧ kk = .int .i64 (k + m + m) ∧ Hid (RecsOwn wr lo hi a n j L) ∧ Hid (Chg lo hi w wr)) (fun _ t _ => n - (intOf t).toNat)
  case atStart => exact ⟨0, n, by omega, rfl, by simp, H, Lib.hid (Chg.refl _ _ _)⟩
  case round =>
    obtain ⟨m, j, hm, rfl, rfl, ho, hg⟩ := hrel
    by_cases hlt : m < n
    · obtain ⟨b, cur, rfl, hg1, hg2, hg3, hg4, hg5, hg6, hg7⟩ := ho.out.at' (by omega)
      obtain ⟨x0, y0, hx0, hy0⟩ := hg6 m hlt
      have d0 := (cell_of_heap hg4 (m * 2)).trans hx0
      have d1 := (cell_of_heap hg4 (m * 2 + 1)).trans hy0
      have f0 := frozen_of_heap hg4 (m * 2)
      have f1 := frozen_of_heap hg4 (m * 2 + 1)
      have hO2 := Lib.hid ((ho.out.spoil (c := m * 2) (by omega) (k + m + m)).spoil (c := m * 2 + 1) (by omega) (k + m + m + 1))
      have hG2 := Lib.hid ((hg.out.set hg1 hg2 (m * 2) (.int .i64 (k + m + m))).set hg1 hg2 (m * 2 + 1) (.int .i64 (k + m + m + 1)))
      have e1 := Lib.hid (show k + (m : Int) + m + 1 + 1 = k + ((m + 1 : Nat) : Int) + ((m + 1 : Nat) : Int) by omega)
      clear hg4 hg6 hg7 hx0 hy0
      go_wp2_with fail
      go_roundw
      case rel => exact ⟨m + 1, 0, by omega, by go_num, by rw [e1.out], hO2, hG2⟩
      case measure => simp [intOf]; omega
    · obtain rfl : m = n := by omega
      go_wp2_with fail
      go_ret
      exact ⟨rfl, hg.out⟩
end Go.Proofs.YtmbphpmabopifaaDoor
