/-
  The parts Slices, Slices2, IsPoly, Eval, FieldAdd.
-/
import Derived.Test.YtfhkkpfiflgofaaSpecFl
import Derived.Laws.MakeOwn
import Derived.OwnWalk
import Derived.Deep.QuietTactic
import Derived.BigQuiet
import Derived.WalkSmall
import Derived.Deep.RegionHeld3
/-
  Slices of integers that a call owns; the walks of the laws' helpers on them.
-/
namespace Go.Proofs.Ytfhkkpfiflgofaa
open Go.RowKit
set_option linter.unusedVariables false

/-- A slice of integers in a block of the call's own, from B on. -/
structure OwnAt (w : World) (B : Nat) (a : Option Addr) (n : Nat) (zs : List Int) : Prop where
  len : zs.length = n
  small : n ≤ 9223372036854775807
  at' : 0 < n → ∃ b cur, a = some ⟨b, 0, none⟩ ∧ B ≤ b ∧ w.heap[b]? = some (.cells cur 2 (0, 0)) ∧ n ≤ cur.size ∧ ∀ j, j < n → cur[j]? = some (.int .i64 (gi zs j))
theorem cell_of_heap {w : World} {b : Nat} {cur : Array Value} {t : TypeId} {fz : Nat × Nat} (h : w.heap[b]? = some (.cells cur t fz)) (o : Nat) : w.cell? ⟨b, o, none⟩ = cur[o]? := by
  unfold World.cell?; rw [h]; rfl
theorem frozen_of_heap {w : World} {b : Nat} {cur : Array Value} {t : TypeId} (h : w.heap[b]? = some (.cells cur t (0, 0))) (o : Nat) : w.frozen? ⟨b, o, none⟩ = false := by
  unfold World.frozen?; rw [h]; simp
theorem lt_of_heap {w : World} {b : Nat} {o : Obj} (h : w.heap[b]? = some o) : b < w.heap.size := (Array.getElem?_eq_some_iff.1 h).1
theorem OwnAt.row {w : World} {B n : Nat} {a : Option Addr} {zs : List Int} (h : OwnAt w B a n zs) : RowAt w a n zs :=
  ⟨h.len, h.small, fun hn => by
    obtain ⟨b, cur, rfl, _, hb, _, hc⟩ := h.at' hn
    exact ⟨b, 0, rfl, lt_of_heap hb, fun j hj => by rw [cell_of_heap hb, Nat.zero_add]; exact hc j hj⟩⟩
theorem OwnAt.grown {w w' : World} {B n : Nat} {a : Option Addr} {zs : List Int} (h : OwnAt w B a n zs) {r : Option Nat} (hg : w.grownBy w' r) (hr : ∀ b, r = some b → b < B) : OwnAt w' B a n zs :=
  ⟨h.len, h.small, fun hn => by
    obtain ⟨b, cur, rfl, hB, hb, hs, hc⟩ := h.at' hn
    exact ⟨b, cur, rfl, hB, (hg.block b (lt_of_heap hb) (fun e => by have := hr b e.symm; omega)).trans hb, hs, hc⟩⟩
theorem OwnAt.below {w w' : World} {B n : Nat} {a : Option Addr} {zs : List Int} (h : OwnAt w B a n zs) (hb : Below w.heap.size w w') : OwnAt w' B a n zs :=
  ⟨h.len, h.small, fun hn => by
    obtain ⟨b, cur, rfl, hB, hbk, hs, hc⟩ := h.at' hn
    exact ⟨b, cur, rfl, hB, (hb.block b (lt_of_heap hbk)).trans hbk, hs, hc⟩⟩
theorem OwnAt.mono {w : World} {B B' n : Nat} {a : Option Addr} {zs : List Int} (h : OwnAt w B a n zs) (hB : B' ≤ B) : OwnAt w B' a n zs :=
  ⟨h.len, h.small, fun hn => by
    obtain ⟨b, cur, rfl, hb, r⟩ := h.at' hn
    exact ⟨b, cur, rfl, by omega, r⟩⟩
theorem OwnAt.nil (w : World) (B : Nat) (a : Option Addr) : OwnAt w B a 0 [] := ⟨rfl, by omega, fun h => by omega⟩
/-- The block of an address. -/
def blk (a : Option Addr) : Option Nat := a.map (·.block)
theorem RowAt.grown {w w' : World} {n : Nat} {a : Option Addr} {zs : List Int} (h : RowAt w a n zs) {r : Option Nat} (hg : w.grownBy w' r) (hr : ∀ b, blk a = some b → r ≠ some b) : RowAt w' a n zs :=
  ⟨h.len, h.small, fun hn => by
    obtain ⟨b, off, rfl, hlt, hc⟩ := h.at' hn
    exact ⟨b, off, rfl, by have := hg.size; omega, fun j hj => (World.cell?_of_block (hg.block b hlt (fun e => hr b rfl e.symm))).trans (hc j hj)⟩⟩
/-- The numbers from k on. -/
def upFrom (k : Int) : Nat → List Int
  | 0 => []
  | n + 1 => upFrom k n ++ [k + n]
theorem upFrom_length (k : Int) (n : Nat) : (upFrom k n).length = n := by
  induction n with
  | zero => rfl
  | succ n ih => simp [upFrom, ih]
theorem upFrom_gi (k : Int) (n j : Nat) (hj : j < n) : gi (upFrom k n) j = k + j := by
  induction n with
  | zero => omega
  | succ n ih =>
    unfold gi at *
    show (upFrom k n ++ [k + n]).getD j 0 = _
    by_cases e : j = n
    · subst e
      rw [List.getD_eq_getElem?_getD, List.getElem?_append_right (by rw [upFrom_length]; omega), upFrom_length]; simp
    · rw [List.getD_eq_getElem?_getD, List.getElem?_append_left (by rw [upFrom_length]; omega), ← List.getD_eq_getElem?_getD]; exact ih (by omega)
theorem grownBy_refl (w : World) (r : Option Nat) : w.grownBy w r := ⟨rfl, rfl, rfl, Nat.le_refl _, fun _ _ _ => rfl⟩
theorem grownBy_set (w : World) (b o : Nat) (v : Value) : w.grownBy (w.setCell ⟨b, o, none⟩ v) (some b) :=
  ⟨rfl, rfl, rfl, by simp [World.setCell], fun k _ h => Below.heap_setCell _ _ _ _ (fun e => h (by rw [e]))⟩
theorem grownBy_trans {w w1 w2 : World} {r : Option Nat} (h : w.grownBy w1 r) (h2 : w1.grownBy w2 r) : w.grownBy w2 r :=
  ⟨h2.os.trans h.os, h2.tape.trans h.tape, h2.output.trans h.output, Nat.le_trans h.size h2.size, fun k hk hr => (h2.block k (Nat.lt_of_lt_of_le hk h.size) hr).trans (h.block k hk hr)⟩
theorem below_of_grown {w w' : World} {r : Option Nat} {B : Nat} (h : w.grownBy w' r) (hB : B ≤ w.heap.size) (hr : ∀ b, r = some b → B ≤ b) : Below B w w' :=
  (Below.refl B w).grown h hB hr
/-- A list behind a store, as far as marks have come. -/
def markTo (zs : List Int) (k : Int) (m : Nat) : List Int := upFrom k m ++ zs.drop m
theorem markTo_length (zs : List Int) (k : Int) (m : Nat) (h : m ≤ zs.length) : (markTo zs k m).length = zs.length := by
  unfold markTo; rw [List.length_append, upFrom_length, List.length_drop]; omega
theorem gi_append_left {l m : List Int} {j : Nat} (h : j < l.length) : gi (l ++ m) j = gi l j := by
  unfold gi; rw [List.getD_eq_getElem?_getD, List.getElem?_append_left h, ← List.getD_eq_getElem?_getD]
theorem gi_append_right {l m : List Int} {j : Nat} (h : l.length ≤ j) : gi (l ++ m) j = gi m (j - l.length) := by
  unfold gi; rw [List.getD_eq_getElem?_getD, List.getElem?_append_right h, ← List.getD_eq_getElem?_getD]
theorem gi_drop (l : List Int) (m j : Nat) : gi (l.drop m) j = gi l (m + j) := by
  unfold gi; rw [List.getD_eq_getElem?_getD, List.getElem?_drop, ← List.getD_eq_getElem?_getD]
theorem gi_set {l : List Int} {i j : Nat} {v : Int} (hi : i < l.length) : gi (l.set i v) j = if j = i then v else gi l j := by
  unfold gi
  rw [List.getD_eq_getElem?_getD]
  by_cases e : j = i
  · subst e; rw [if_pos rfl, List.getElem?_set_self hi]; rfl
  · rw [if_neg e, List.getElem?_set_ne (by omega), ← List.getD_eq_getElem?_getD]
theorem markTo_set (zs : List Int) (k : Int) (m : Nat) (h : m < zs.length) : markTo zs k (m + 1) = (markTo zs k m).set m (k + m) := by
  apply List.ext_getElem
  · rw [List.length_set, markTo_length _ _ _ h, markTo_length _ _ _ (by omega)]
  · intro j h1 h2
    have e1 : ∀ (l : List Int) (hj : j < l.length), l[j] = gi l j := fun l hj => by unfold gi; rw [List.getD_eq_getElem?_getD, List.getElem?_eq_getElem hj]; rfl
    rw [e1, e1, gi_set (by rw [markTo_length _ _ _ (by omega)]; exact h)]
    rw [markTo_length _ _ _ h] at h1
    unfold markTo
    by_cases hj : j < m
    · rw [if_neg (by omega), gi_append_left (by rw [upFrom_length]; omega), gi_append_left (by rw [upFrom_length]; omega), upFrom_gi _ _ _ (by omega), upFrom_gi _ _ _ hj]
    · by_cases e : j = m
      · subst e; rw [if_pos rfl, gi_append_left (by rw [upFrom_length]; omega), upFrom_gi _ _ _ (by omega)]
      · rw [if_neg e, gi_append_right (by rw [upFrom_length]; omega), gi_append_right (by rw [upFrom_length]; omega), upFrom_length, upFrom_length, gi_drop, gi_drop]
        congr 1; omega
theorem OwnAt.set {w : World} {B n b : Nat} {zs : List Int} (h : OwnAt w B (some ⟨b, 0, none⟩) n zs) {i : Nat} (hi : i < n) (v : Int) : OwnAt (w.setCell ⟨b, i, none⟩ (.int .i64 v)) B (some ⟨b, 0, none⟩) n (zs.set i v) :=
  ⟨by rw [List.length_set]; exact h.len, h.small, fun hn => by
    obtain ⟨b', cur, e, hB, hb, hs, hc⟩ := h.at' hn
    obtain rfl : b = b' := by simpa using e
    refine ⟨b, _, rfl, hB, heap_setCell_self _ _ _ _ _ _ _ hb, by simpa using hs, fun j hj => ?_⟩
    rw [gi_set (by rw [h.len]; exact hi)]
    by_cases e : j = i
    · subst e; rw [if_pos rfl, Array.getElem?_setIfInBounds_self_of_lt (by omega)]
    · rw [if_neg e, Array.getElem?_setIfInBounds_ne (by omega)]; exact hc j hj⟩
/-- What a walk needs of one place of an owned slice. -/
theorem OwnAt.place {w : World} {B n b : Nat} {zs : List Int} (h : OwnAt w B (some ⟨b, 0, none⟩) n zs) {i : Nat} (hi : i < n) : w.cell? ⟨b, i, none⟩ = some (.int .i64 (gi zs i)) ∧ w.frozen? ⟨b, i, none⟩ = false ∧ b < w.heap.size := by
  obtain ⟨b', cur, e, hB, hb, hs, hc⟩ := h.at' (by omega)
  obtain rfl : b = b' := by simpa using e
  exact ⟨by rw [cell_of_heap hb]; exact hc i hi, frozen_of_heap hb i, lt_of_heap hb⟩
set_option maxHeartbeats 400000 in
theorem mark_any {w : World} {B n cap : Nat} {a : Option Addr} {zs : List Int} (h : OwnAt w B a n zs) (hn : n ≤ 1048576) (k : Int) (hk0 : 0 ≤ k) (hk : k ≤ 4194304) :
    Calls Try.prog 15 #[.slice a n cap, .int .i64 k] w fun e w' => e = .returned (.int .i64 (k + n)) ∧ w.grownBy w' (blk a) ∧ OwnAt w' B a n (upFrom k n) := by
  have H := Lib.hid h
  have hlen := h.len
  clear h
  go_enter Try.func15, Try.ntmps15
  go_wp2_with fail
  go_loopw [1, 5] (fun kk t wr => ∃ m : Nat, m ≤ n ∧ t = .int .i64 m ∧ kk = .int .i64 (k + m) ∧ Hid (OwnAt wr B a n (markTo zs k m)) ∧ Hid (w.grownBy wr (blk a))) (fun _ t _ => n - (intOf t).toNat)
  case atStart => exact ⟨0, by omega, rfl, by simp, H, grownBy_refl _ _⟩
  case round =>
    obtain ⟨m, hm, rfl, rfl, ho, hg⟩ := hrel
    by_cases hlt : m < n
    · obtain ⟨b, cur, rfl, _⟩ := ho.out.at' (by omega)
      obtain ⟨hc, hf, hb⟩ := ho.out.place hlt
      have ho2 := Lib.hid (by have := ho.out.set hlt (k + m); rw [← markTo_set _ _ _ (by omega)] at this; exact this)
      have hg2 := Lib.hid (grownBy_trans hg.out (grownBy_set wr b m (.int .i64 (k + m))))
      have e1 : k + (m : Int) + 1 = k + ((m + 1 : Nat) : Int) := by omega
      have E1 := Lib.hid e1
      clear hlen e1
      go_wp2_with fail
      go_roundw
      case rel => exact ⟨m + 1, by omega, by go_num, by rw [E1.out], ho2, hg2⟩
      case measure => simp [intOf]; omega
    · obtain rfl : m = n := by omega
      have hfin := Lib.hid (show OwnAt wr B a m (upFrom k m) by have := ho.out; unfold markTo at this; rw [List.drop_of_length_le (by omega), List.append_nil] at this; exact this)
      clear hlen
      go_wp2_with fail
      go_ret
      exact ⟨rfl, hg.out, hfin.out⟩
end Go.Proofs.Ytfhkkpfiflgofaa
/-
  The walks of the laws' helpers: comparing, checking the marks, copying.
-/
namespace Go.Proofs.Ytfhkkpfiflgofaa
open Go.RowKit
set_option linter.unusedVariables false

theorem held_any {w : World} {n cap : Nat} {a : Option Addr} (k : Int) (h : RowAt w a n (upFrom k n)) (hn : n ≤ 1048576) (hk0 : 0 ≤ k) (hk : k ≤ 4194304) :
    Calls Try.prog 16 #[.slice a n cap, .int .i64 k] w fun e w' => e = .returned (.int .i64 (k + n)) ∧ w = w' := by
  have H := Lib.hid h
  clear h
  go_enter Try.func16, Try.ntmps16
  go_wp2_with fail
  go_loop [1, 5] (fun kk t => ∃ m : Nat, m ≤ n ∧ t = .int .i64 m ∧ kk = .int .i64 (k + m)) (fun _ t => n - (intOf t).toNat)
  case atStart => exact ⟨0, by omega, rfl, by simp⟩
  case round =>
    obtain ⟨m, hm, rfl, rfl⟩ := hrel
    by_cases hlt : m < n
    · obtain ⟨b, off, rfl, hb, hcs⟩ := H.out.at' (by omega)
      have hc := hcs m hlt
      rw [upFrom_gi k n m hlt] at hc
      clear hcs
      have hne : (k + (m : Int) != k + (m : Int)) = false := by simp
      have e1 : k + (m : Int) + 1 = k + ((m + 1 : Nat) : Int) := by omega
      have E1 := Lib.hid e1
      clear e1 hne
      go_wp2_with fail
      go_round
      case rel => exact ⟨m + 1, by omega, by go_num, by rw [E1.out]⟩
      case measure => simp [intOf]; omega
    · obtain rfl : m = n := by omega
      go_wp2_with fail
      go_ret
      exact ⟨rfl, rfl⟩
theorem RowAt.drewN {w : World} {n : Nat} {a : Option Addr} {zs : List Int} (h : RowAt w a n zs) (m : Nat) : RowAt (w.drewN m) a n zs :=
  ⟨h.len, h.small, fun hn => by
    obtain ⟨b, off, rfl, hlt, hc⟩ := h.at' hn
    exact ⟨b, off, rfl, hlt, fun j hj => (World.cell?_of_block rfl).trans (hc j hj)⟩⟩
theorem list_ext_gi {l m : List Int} (h : l.length = m.length) (he : ∀ j, j < l.length → gi l j = gi m j) : l = m := by
  apply List.ext_getElem h
  intro j h1 h2
  have := he j h1
  unfold gi at this
  rw [List.getD_eq_getElem?_getD, List.getD_eq_getElem?_getD, List.getElem?_eq_getElem h1, List.getElem?_eq_getElem h2] at this
  exact this
theorem drewN_drewN (w : World) (a b : Nat) : (w.drewN a).drewN b = w.drewN (a + b) := by
  unfold World.drewN; simp [Nat.add_assoc]
set_option maxHeartbeats 400000 in
theorem eqRow_any {w : World} {n m cap cap' : Nat} {a b : Option Addr} {xs ys : List Int} (hx : RowAt w a n xs) (hy : RowAt w b m ys) :
    Calls Try.prog 14 #[.slice a n cap, .slice b m cap'] w fun e w' => e = .returned (.bool (decide (xs = ys))) ∧ ∃ q, w' = w.drewN q := by
  have HX := Lib.hid hx
  have HY := Lib.hid hy
  have hsn := hx.small
  have hlx := hx.len
  have hly := hy.len
  clear hx hy
  by_cases hnm : n = m
  · have hb : ((n : Int) != (m : Int)) = false := by simp [hnm]
    subst hnm
    go_enter Try.func14, Try.ntmps14
    go_wp2_with fail
    have HLX := Lib.hid hlx
    have HLY := Lib.hid hly
    clear hlx hly hb
    go_loopw [5] (fun t wr => ∃ k q : Nat, k ≤ n ∧ t = .int .i64 k ∧ wr = w.drewN q ∧ Hid (∀ j, j < k → gi xs j = gi ys j)) (fun t _ => n - (intOf t).toNat)
    case atStart => exact ⟨0, 0, by omega, rfl, rfl, fun j hj => by omega⟩
    case round =>
      obtain ⟨k, q, hk, rfl, rfl, heq⟩ := hrel
      by_cases hlt : k < n
      · obtain ⟨b1, o1, rfl, hb1, hc1⟩ := HX.out.at' (by omega)
        obtain ⟨b2, o2, rfl, hb2, hc2⟩ := HY.out.at' (by omega)
        have hc1 := hc1 k hlt
        have hc2 := hc2 k hlt
        by_cases he : gi xs k = gi ys k
        · have hh : (gi xs k != gi ys k) = false := by simp [he]
          have heq2 := Lib.hid (show ∀ j, j < k + 1 → gi xs j = gi ys j from fun j hj => by
            by_cases e : j = k
            · rw [e, he]
            · exact heq.out j (by omega))
          clear he
          go_wp2_with fail
          go_quiet (fail)
          go_wp2_with fail
          go_roundw
          case rel => exact ⟨k + 1, q + nq, by omega, by go_num, rfl, heq2⟩
          case measure => simp [intOf]; omega
        · have hh : (gi xs k != gi ys k) = true := by simp [he]
          have hf := Lib.hid (show decide (xs = ys) = false by
            simp only [decide_eq_false_iff_not]; intro e; exact he (by rw [e]))
          clear he
          go_wp2_with fail
          go_quiet (fail)
          go_wp2_with fail
          go_ret
          exact ⟨ret_bool hf.out.symm, _, drewN_drewN _ _ _⟩
      · have hf := Lib.hid (show decide (xs = ys) = true by
          simp only [decide_eq_true_eq]
          exact list_ext_gi (by rw [HLX.out, HLY.out]) (fun j hj => heq.out j (by rw [HLX.out] at hj; omega)))
        go_wp2_with fail
        go_ret
        exact ⟨ret_bool hf.out.symm, _, rfl⟩
  · have hb : ((n : Int) != (m : Int)) = true := by simp; omega
    have hf := Lib.hid (show decide (xs = ys) = false by
      simp only [decide_eq_false_iff_not]; intro e; apply hnm; rw [← hlx, ← hly, e])
    clear hlx hly hnm
    go_enter Try.func14, Try.ntmps14
    go_wp2_with fail
    go_ret
    exact ⟨ret_bool hf.out.symm, 0, rfl⟩

theorem info_int : (Try.prog.info? 2).map (fun i => (i.zero, i.size, i.bytes)) = some (some (.int .i64 0), 1, 8) := by kernel_rfl
/-- A new row of zeros. -/
theorem own_zeros (w : World) (n : Nat) (hn : n ≤ 9223372036854775807) : OwnAt (w.alloc (.cells (madeCells #[.int .i64 0] n) 2)) w.heap.size (some ⟨w.heap.size, 0, none⟩) n (List.replicate n 0) :=
  ⟨List.length_replicate, hn, fun _ => ⟨_, _, rfl, Nat.le_refl _, heap_alloc_new w _, by simp [madeCells], fun j hj => by
    have e : gi (List.replicate n 0) j = 0 := by unfold gi; rw [List.getD_eq_getElem?_getD, List.getElem?_replicate]; split <;> rfl
    rw [e]; simp [madeCells, hj, Nat.mod_one]⟩⟩
theorem run_make_ints (w : World) (t : TypeId) (ht : Try.prog.underlying t = some (.slice 2)) (n : Int) (h0 : 0 ≤ n) (hn : n ≤ 16777216) :
    (Instr.makeSlice t (.int .i64 n) (.int .i64 n)).run Try.prog w = .ok (.slice (some ⟨w.heap.size, 0, none⟩) n.toNat n.toNat) (w.alloc (.cells (madeCells #[.int .i64 0] n.toNat) 2)) := by
  obtain ⟨i0, hi, hz0, hz1, hz2⟩ := info_parts info_int
  have := run_make (P := Try.prog) w t 2 i0 _ ht hi hz0 .i64 .i64 n n h0 (Int.le_refl _) (by rw [hz2]; omega) (by omega)
  rw [hz1, Nat.mul_one] at this
  exact this
/-- A copy, as far as it has come. -/
def copyTo (zs : List Int) (k : Nat) : List Int := zs.take k ++ List.replicate (zs.length - k) 0
theorem copyTo_length (zs : List Int) (k : Nat) (h : k ≤ zs.length) : (copyTo zs k).length = zs.length := by
  unfold copyTo; rw [List.length_append, List.length_take, List.length_replicate]; omega
theorem copyTo_end (zs : List Int) (k : Nat) (h : zs.length ≤ k) : copyTo zs k = zs := by
  unfold copyTo; rw [List.take_of_length_le h, show zs.length - k = 0 by omega]; simp
theorem gi_take {l : List Int} {k j : Nat} (h : j < k) : gi (l.take k) j = gi l j := by
  unfold gi; rw [VF.getD_take, if_pos h]
theorem gi_replicate (n j : Nat) : gi (List.replicate n 0) j = 0 := by
  unfold gi; rw [List.getD_eq_getElem?_getD, List.getElem?_replicate]; split <;> rfl
theorem copyTo_set (zs : List Int) (k : Nat) (h : k < zs.length) : copyTo zs (k + 1) = (copyTo zs k).set k (gi zs k) := by
  apply list_ext_gi
  · rw [List.length_set, copyTo_length _ _ h, copyTo_length _ _ (by omega)]
  · intro j hj
    rw [copyTo_length _ _ h] at hj
    rw [gi_set (by rw [copyTo_length _ _ (by omega)]; exact h)]
    unfold copyTo
    by_cases h1 : j < k
    · rw [if_neg (by omega), gi_append_left (by rw [List.length_take]; omega), gi_append_left (by rw [List.length_take]; omega), gi_take (by omega), gi_take h1]
    · by_cases e : j = k
      · subst e; rw [if_pos rfl, gi_append_left (by rw [List.length_take]; omega), gi_take (by omega)]
      · rw [if_neg e, gi_append_right (by rw [List.length_take]; omega), gi_append_right (by rw [List.length_take]; omega), gi_replicate, gi_replicate]
set_option maxHeartbeats 400000 in
theorem toRow_any {w : World} {n cap : Nat} {a : Option Addr} {zs : List Int} (h : RowAt w a n zs) (hn : n ≤ 1048576) :
    Calls Try.prog 12 #[.slice a n cap] w fun e w' => ∃ a' cap', e = .returned (.slice a' n cap') ∧ Below w.heap.size w w' ∧ OwnAt w' w.heap.size a' n zs ∧ (a' = none → cap' = 0) ∧ n ≤ cap' := by
  have H := Lib.hid h
  have hlen := h.len
  clear h
  have hmk := fun w => run_make_ints w 26 Try.underlying26 (n : Int) (by omega) (by omega)
  simp only [Int.toNat_natCast] at hmk
  have hz : copyTo zs 0 = List.replicate n 0 := by unfold copyTo; simp [hlen]
  have HZ := Lib.hid hz
  have HLEN := Lib.hid hlen
  clear hz hlen
  go_enter Try.func12, Try.ntmps12
  go_wp2_with fail
  clear hmk
  have hb0 : Below w.heap.size w (w.alloc (.cells (madeCells #[.int .i64 0] n) 2)) := below1 _ _
  have ho0 := own_zeros w n (by omega)
  rw [← HZ.out] at ho0
  go_loopw [4] (fun t wr => ∃ k : Nat, k ≤ n ∧ t = .int .i64 k ∧ Hid (Below w.heap.size w wr) ∧ Hid (OwnAt wr w.heap.size (some ⟨w.heap.size, 0, none⟩) n (copyTo zs k)) ∧ w.heap.size < wr.heap.size) (fun t _ => n - (intOf t).toNat)
  case atStart => exact ⟨0, by omega, rfl, hb0, ho0, by simp⟩
  case round =>
    obtain ⟨k, hk, rfl, hb, ho, hsz⟩ := hrel
    have hrow := H.out.below' (hb.out)
    clear hb0 ho0
    by_cases hlt : k < n
    · obtain ⟨b1, o1, rfl, hb1, hcs⟩ := hrow.at' (by omega)
      have hc := hcs k hlt
      obtain ⟨hp, hf, _⟩ := ho.out.place hlt
      have ho2 := Lib.hid (by have := ho.out.set hlt (gi zs k); rw [← copyTo_set _ _ (by rw [HLEN.out]; exact hlt)] at this; exact this)
      have hb2 := Lib.hid (hb.out.setCell (p := ⟨w.heap.size, k, none⟩) (Nat.le_refl _) (.int .i64 (gi zs k)))
      have hsz2 : w.heap.size < (wr.setCell ⟨w.heap.size, k, none⟩ (.int .i64 (gi zs k))).heap.size := by simp [World.setCell]; omega
      have HS2 := Lib.hid hsz2
      clear hcs hrow hsz2
      go_wp2_with fail
      go_roundw
      case rel => exact ⟨k + 1, by omega, by go_num, hb2, ho2, HS2.out⟩
      case measure => simp [intOf]; omega
    · obtain rfl : k = n := by omega
      have hfin := Lib.hid (show OwnAt wr w.heap.size (some ⟨w.heap.size, 0, none⟩) k zs by have := ho.out; rw [copyTo_end _ _ (by rw [HLEN.out]; omega)] at this; exact this)
      clear hrow
      go_wp2_with fail
      go_ret
      exact ⟨_, _, rfl, hb.out, hfin.out, (fun h => by cases h), Nat.le_refl _⟩
end Go.Proofs.Ytfhkkpfiflgofaa
/-
  The walks of the checks of polynomials.
-/
namespace Go.Proofs.Ytfhkkpfiflgofaa
open Go.RowKit
set_option linter.unusedVariables false

/-- No zero at the end, as a Bool. -/
def tightB (zs : List Int) : Bool := zs.length == 0 || gi zs (zs.length - 1) != 0
/-- Whether a list is a polynomial. -/
def polyB (F : FF) (zs : List Int) : Bool := decide (zs.length ≤ 512) && (allB F zs && tightB zs)
theorem polyB_long {F : FF} {zs : List Int} (h : 512 < zs.length) : polyB F zs = false := by
  unfold polyB; rw [decide_eq_false (by omega)]; rfl
theorem polyB_all {F : FF} {zs : List Int} (h : allB F zs = false) : polyB F zs = false := by
  unfold polyB; rw [h]; simp
theorem polyB_rest {F : FF} {zs : List Int} (h : zs.length ≤ 512) (h2 : allB F zs = true) : polyB F zs = tightB zs := by
  unfold polyB; rw [decide_eq_true h, h2]; rfl
theorem tightB_nil {zs : List Int} (h : zs.length = 0) : tightB zs = true := by unfold tightB; simp [h]
theorem tightB_last {zs : List Int} {n : Nat} (hn : zs.length = n) (h : 0 < n) : tightB zs = (gi zs (n - 1) != 0) := by
  unfold tightB; rw [hn]
  have : (n == 0) = false := by simp; omega
  rw [this]; rfl
theorem isOver_any {w : World} {b : Nat} {F : FF} (hc : Cal w b F) {a : Option Addr} {n cap : Nat} {zs : List Int} (hr : RowAt w a n zs) :
    Calls Try.prog 73 #[.slice a n cap, .pointer (some ⟨b, 0, none⟩)] w fun e w' => e = .returned (.bool (polyB F zs)) ∧ w = w' := by
  have HR := Lib.hid hr
  have hl := hr.len
  have hsm := hr.small
  clear hr
  by_cases h1 : n ≤ 512
  · cases hall : allB F zs
    · have hf := Lib.hid (polyB_all hall)
      clear hl
      go_enter Try.func73, Try.ntmps73
      go_wp2_with fail
      refine (hasAll_any hc HR.out).mono ?_
      rintro e w' ⟨rfl, rfl⟩
      go_wp2_with fail
      go_ret
      exact ⟨ret_bool hf.out.symm, rfl⟩
    · by_cases h0 : n = 0
      · subst h0
        have hf := Lib.hid ((polyB_rest (by omega) hall).trans (tightB_nil hl))
        clear hl
        go_enter Try.func73, Try.ntmps73
        go_wp2_with fail
        refine (hasAll_any hc HR.out).mono ?_
        rintro e w' ⟨rfl, rfl⟩
        go_wp2_with fail
        go_ret
        exact ⟨ret_bool hf.out.symm, rfl⟩
      · have hf := Lib.hid ((polyB_rest (by omega) hall).trans (tightB_last hl (by omega)))
        obtain ⟨b1, o1, rfl, hb1, hcs⟩ := HR.out.at' (by omega)
        have hcell := hcs (n - 1) (by omega)
        have hn0 : ((n : Int) == 0) = false := by simp; omega
        have ei : ((n : Int) - 1).toNat = n - 1 := by omega
        clear hcs hl
        go_enter Try.func73, Try.ntmps73
        go_wp2_with fail
        refine (hasAll_any hc HR.out).mono ?_
        rintro e w' ⟨rfl, rfl⟩
        go_wp2_with fail
        go_ret
        exact ⟨ret_bool hf.out.symm, rfl⟩
  · have hf := Lib.hid (polyB_long (F := F) (show 512 < zs.length by omega))
    clear hl
    go_enter Try.func73, Try.ntmps73
    go_wp2_with fail
    go_ret
    exact ⟨ret_bool hf.out.symm, rfl⟩
end Go.Proofs.Ytfhkkpfiflgofaa
/-
  The walks of the value of a polynomial, in the program and in the reference.
-/
namespace Go.Proofs.Ytfhkkpfiflgofaa
open Go.RowKit
set_option linter.unusedVariables false

theorem Cal.drewN {w : World} {b : Nat} {F : FF} (h : Cal w b F) (n : Nat) : Cal (w.drewN n) b F :=
  ⟨h.ok, h.lt, (World.cell?_of_block rfl).trans h.bin, (World.cell?_of_block rfl).trans h.size, fun m hm => (World.cell?_of_block rfl).trans (h.exp m hm), fun a ha h0 => (World.cell?_of_block rfl).trans (h.log a ha h0)⟩
theorem Cal.below {w w' : World} {b : Nat} {F : FF} (h : Cal w b F) (hb : Below w.heap.size w w') : Cal w' b F :=
  ⟨h.ok, by have := hb.size; have := h.lt; omega, (hb.cell (p := ⟨b, 0, none⟩) h.lt).trans h.bin, (hb.cell (p := ⟨b, 1, none⟩) h.lt).trans h.size,
    fun m hm => (hb.cell (p := ⟨b, 2 + m, none⟩) h.lt).trans (h.exp m hm), fun a ha h0 => (hb.cell (p := ⟨b, 1023 + a.toNat, none⟩) h.lt).trans (h.log a ha h0)⟩
/-- The value of a polynomial, as both reckon it. -/
def evI (F : FF) : List Int → Int → Int
  | [], _ => 0
  | a :: l, x => F.add (F.mul (evI F l x) x) a
theorem evI_drop (F : FF) (l : List Int) (x : Int) (k : Nat) (hk : k < l.length) : evI F (l.drop k) x = F.add (F.mul (evI F (l.drop (k + 1)) x) x) (gi l k) := by
  rw [VF.drop_getD l k hk]; rfl
theorem evI_el {F : FF} (h : F.ok) {l : List Int} (hl : ∀ z ∈ l, F.el z) (x : Int) : F.el (evI F l x) := by
  induction l with
  | nil => exact FF.zero_el h
  | cons a l ih => exact FF.add_el h (FF.mul_el h _ _) (hl a (by simp))
theorem el_gi {F : FF} (h : F.ok) {l : List Int} (hl : ∀ z ∈ l, F.el z) (k : Nat) : F.el (gi l k) := VF.els.getD (V := ⟨F, h⟩) hl k
/-- The later world is the earlier one but for draws. -/
def Drew (w w' : World) : Prop := ∃ q, w' = w.drewN q
theorem Drew.refl (w : World) : Drew w w := ⟨0, rfl⟩
theorem Drew.more {w w' : World} (h : Drew w w') (n : Nat) : Drew w (w'.drewN n) := by
  obtain ⟨q, rfl⟩ := h; exact ⟨_, drewN_drewN _ _ _⟩
theorem Drew.cal {w w' : World} (h : Drew w w') {b : Nat} {F : FF} (hc : Cal w b F) : Cal w' b F := by
  obtain ⟨q, rfl⟩ := h; exact hc.drewN q
theorem Drew.row {w w' : World} (h : Drew w w') {n : Nat} {a : Option Addr} {zs : List Int} (hr : RowAt w a n zs) : RowAt w' a n zs := by
  obtain ⟨q, rfl⟩ := h; exact hr.drewN q
theorem Drew.own {w w' : World} (h : Drew w w') {n B : Nat} {a : Option Addr} {zs : List Int} (hr : OwnAt w B a n zs) : OwnAt w' B a n zs := by
  obtain ⟨q, rfl⟩ := h; exact ⟨hr.len, hr.small, hr.at'⟩
theorem Drew.below {w w' : World} (h : Drew w w') (B : Nat) : Below B w w' := by
  obtain ⟨q, rfl⟩ := h; exact below_drewN (Below.refl _ _) q
theorem Drew.trans {a b c : World} (h : Drew a b) (h2 : Drew b c) : Drew a c := by
  obtain ⟨q, rfl⟩ := h; obtain ⟨r, rfl⟩ := h2; exact ⟨_, drewN_drewN _ _ _⟩
set_option maxHeartbeats 400000 in
theorem at_any {w : World} {b : Nat} {F : FF} (hc : Cal w b F) {a : Option Addr} {n cap : Nat} {zs : List Int} (hr : RowAt w a n zs) (hel : ∀ z ∈ zs, F.el z) (x : Int) (hx : F.el x) :
    Calls Try.prog 166 #[.slice a n cap, .pointer (some ⟨b, 0, none⟩), .int .i64 x] w fun e w' => e = .returned (.int .i64 (evI F zs x)) ∧ ∃ q, w' = w.drewN q := by
  have HR := Lib.hid hr
  have HC := Lib.hid hc
  have HE := Lib.hid hel
  have HX := Lib.hid hx
  have hok := Lib.hid hc.ok
  have hl := Lib.hid hr.len
  have hsm := hr.small
  clear hr hc hel hx
  go_enter Try.func166, Try.ntmps166
  go_wp2_with fail
  go_loopw [7, 8] (fun o t wr => ∃ k : Nat, k ≤ n ∧ t = .int .i64 ((k : Int) - 1) ∧ o = .int .i64 (evI F (zs.drop k) x) ∧ Drew w wr) (fun _ t _ => (intOf t + 1).toNat)
  case atStart => exact ⟨n, by omega, rfl, by rw [List.drop_of_length_le (by rw [hl.out]; omega)]; rfl, Drew.refl _⟩
  case round =>
    obtain ⟨k, hk, rfl, rfl, hd⟩ := hrel
    have hrow := hd.row HR.out
    have hcal := hd.cal HC.out
    by_cases h0 : 0 < k
    · obtain ⟨i, rfl⟩ : ∃ i, k = i + 1 := ⟨k - 1, by omega⟩
      have et : ((i + 1 : Nat) : Int) - 1 = (i : Int) := by omega
      rw [et]
      obtain ⟨b1, o1, rfl, hb1, hcs⟩ := hrow.at' (by omega)
      have hcell := hcs i (by omega)
      have hstep := Lib.hid (evI_drop F zs x i (by rw [hl.out]; omega))
      have hel1 := Lib.hid (evI_el hok.out (l := zs.drop (i + 1)) (fun z hz => HE.out z (List.mem_of_mem_drop hz)) x)
      have hel2 := Lib.hid (el_gi hok.out HE.out i)
      have hm := fun m => mul_any (hcal.drewN m) _ x hel1.out HX.out
      have ha := fun m => add_any (hcal.drewN m) (F.mul (evI F (zs.drop (i + 1)) x) x) (gi zs i) (FF.mul_el hok.out _ _) hel2.out
      have HM := Lib.hid hm
      have HA := Lib.hid ha
      clear hcs et hm ha hrow hcal
      generalize evI F (zs.drop (i + 1)) x = v at *
      go_wp2_with fail
      go_quiet (first | (go_at_call 66; exact Calls.quiet_of (HM.out _)) | (go_at_call 74; exact Calls.quiet_of_same ((HA.out _).mono fun e w' h => ⟨h.1, h.2.symm⟩)))
      go_wp2_with fail
      go_roundw
      case rel => exact ⟨i, by omega, rfl, by rw [hstep.out], hd.more _⟩
      case measure => simp [intOf]
    · obtain rfl : k = 0 := by omega
      clear hrow hcal
      go_wp2_with fail
      go_ret
      exact ⟨rfl, hd⟩

set_option maxHeartbeats 1000000 in
theorem l03Eval_any (p pw g : Int) (hv : validB p pw g = true) {w : World} {a : Option Addr} {n cap : Nat} {zs : List Int} (hr : RowAt w a n zs) (hel : ∀ z ∈ zs, (ffOf p pw g).el z) (x : Int) (hx : (ffOf p pw g).el x) :
    Calls Try.prog 139 #[fV p pw g, .slice a n cap, .int .i64 x] w fun e w' => e = .returned (.int .i64 (evI (ffOf p pw g) zs x)) ∧ Below w.heap.size w w' := by
  have hok := Lib.hid (ffOf_ok hv)
  have HM := Lib.hid (fun W v (h : (ffOf p pw g).el v) => l02Mul_any p pw g hv v x h hx W)
  have HA := Lib.hid (fun W v z (h : (ffOf p pw g).el v) (h2 : (ffOf p pw g).el z) => l02Add_any p pw g hv v z h h2 W)
  have HR := Lib.hid hr
  have HE := Lib.hid hel
  have hl := Lib.hid hr.len
  have hsm := hr.small
  clear hr hel hx hv
  generalize ffOf p pw g = F at *
  go_enter Try.func139, Try.ntmps139
  go_wp2_with fail
  go_loopw [7, 8] (fun o t wr => ∃ k : Nat, k ≤ n ∧ t = .int .i64 ((k : Int) - 1) ∧ o = .int .i64 (evI F (zs.drop k) x) ∧ Below w.heap.size w wr ∧ Box wr w.heap.size p pw g) (fun _ t _ => (intOf t + 1).toNat)
  case atStart => exact ⟨n, by omega, rfl, by rw [List.drop_of_length_le (by rw [hl.out]; omega)]; rfl, below1 _ _, box_new _ _ _ _ _⟩
  case round =>
    obtain ⟨k, hk, rfl, rfl, hbel, hbox⟩ := hrel
    have hrow := HR.out.below' hbel
    have HB := Lib.hid hbel
    have HBX := Lib.hid hbox
    obtain ⟨hlt, c0, c1, c2⟩ := hbox
    clear hbel
    by_cases h0 : 0 < k
    · obtain ⟨i, rfl⟩ : ∃ i, k = i + 1 := ⟨k - 1, by omega⟩
      have et : ((i + 1 : Nat) : Int) - 1 = (i : Int) := by omega
      rw [et]
      obtain ⟨b1, o1, rfl, hb1, hcs⟩ := hrow.at' (by omega)
      have hcell := hcs i (by omega)
      have hstep := Lib.hid (evI_drop F zs x i (by rw [hl.out]; omega))
      have hel1 := Lib.hid (evI_el hok.out (l := zs.drop (i + 1)) (fun z hz => HE.out z (List.mem_of_mem_drop hz)) x)
      have hel2 := Lib.hid (el_gi hok.out HE.out i)
      have hel3 := Lib.hid (FF.mul_el hok.out (evI F (zs.drop (i + 1)) x) x)
      clear hcs et hrow
      generalize evI F (zs.drop (i + 1)) x = v at *
      generalize gi zs i = z at *
      have hi : i < n := by omega
      go_wp2_with fail
      go_region_held3 (fun w' => w'.cell? ⟨b1, o1 + i, none⟩ = some (.int .i64 z) ∧ w'.cell? ⟨w.heap.size, 0, none⟩ = some (.int .i64 p) ∧ w'.cell? ⟨w.heap.size, 1, none⟩ = some (.int .i64 pw) ∧ w'.cell? ⟨w.heap.size, 2, none⟩ = some (.int .i64 g))
        (first | go_keep | ((try (dsimp only)); go_split_ands; refine ⟨?_, ?_, ?_, ?_⟩; all_goals (first | go_keep | (rw [hb2.cell (by have h9 := hb1'.size; simp at h9 ⊢; omega)]; assumption) | (rw [hb1'.cell (by simp; omega)]; assumption))))
        (first | (go_at_call 126; refine (HM.out _ v hel1.out).mono ?_; rintro e w1 ⟨rfl, hb1'⟩) | (go_at_call 82; refine (HA.out _ _ z hel3.out hel2.out).mono ?_; rintro e w2 ⟨rfl, hb2⟩))
      all_goals
        have hb1 : Below wr.heap.size wr w1 := (Below.refl _ wr).drew.trans hb1'
        have hs1 := hb1.size
        have hbb : Below wr.heap.size wr w2 := hb1.trans (hb2.mono hs1)
        have hB2 := Lib.hid (HB.out.trans (hbb.mono (by omega)))
        have hX2 := Lib.hid (HBX.out.below hbb hlt)
        clear hb1' hb2 hb1 hbb
        go_wp2_with fail
        go_roundw
        case rel => exact ⟨i, by omega, rfl, by rw [hstep.out], hB2.out, hX2.out⟩
        case measure => simp [intOf]
    · obtain rfl : k = 0 := by omega
      clear hrow
      go_wp2_with fail
      go_ret
      exact ⟨rfl, HB.out⟩
end Go.Proofs.Ytfhkkpfiflgofaa
/-
  The program's FieldAdd and the reference's; the law that they agree.
-/
namespace Go.Proofs.Ytfhkkpfiflgofaa
open Go.RowKit
set_option linter.unusedVariables false

theorem row_one (W : World) (x : Int) (t : TypeId) (b : Nat) (hb : b = W.heap.size) : RowAt (W.alloc (.cells #[.int .i64 x] t)) (some ⟨b, 0, none⟩) 1 [x] := by
  subst hb
  exact ⟨rfl, by omega, fun _ => ⟨_, 0, rfl, by simp, fun j hj => by
    obtain rfl : j = 0 := by omega
    simp [go_sem]; rfl⟩⟩
theorem row_two (W : World) (x y : Int) (t : TypeId) (b : Nat) (hb : b = W.heap.size) : RowAt (W.alloc (.cells #[.int .i64 x, .int .i64 y] t)) (some ⟨b, 0, none⟩) 2 [x, y] := by
  subst hb
  exact ⟨rfl, by omega, fun _ => ⟨_, 0, rfl, by simp, fun j hj => by
    rcases (show j = 0 ∨ j = 1 by omega) with rfl | rfl
    · simp [go_sem]; rfl
    · simp [go_sem]; rfl⟩⟩
theorem codeE_zero {p pw g : Int} {zs : List Int} (h : codeE p pw g zs = 0) : validB p pw g = true ∧ ∀ z ∈ zs, (ffOf p pw g).el z := by
  unfold codeE at h
  split at h
  · rename_i h1
    split at h
    · rename_i h2; exact ⟨h1, allB_iff.1 h2⟩
    · omega
  · omega
/-- What FieldAdd answers. -/
noncomputable def faddR (p pw g x y : Int) : Int := if codeE p pw g [x, y] = 0 then (ffOf p pw g).add x y else 0
/-- What 'elements' leaves. -/
def ElemPost (p pw g : Int) (zs : List Int) (w : World) (e : Ending) (w' : World) : Prop :=
  ∃ v, e = .returned (.tuple #[v, .int .i64 (codeE p pw g zs)]) ∧ Below w.heap.size w w' ∧ (codeE p pw g zs = 0 → ∃ b, v = .pointer (some ⟨b, 0, none⟩) ∧ w.heap.size ≤ b ∧ Cal w' b (ffOf p pw g))
end Go.Proofs.Ytfhkkpfiflgofaa
