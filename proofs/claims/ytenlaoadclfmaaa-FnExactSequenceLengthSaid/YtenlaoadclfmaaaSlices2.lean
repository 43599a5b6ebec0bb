/-
  The walks of the laws' helpers: comparing, checking the marks, copying.
-/
import Derived.Test.YtenlaoadclfmaaaSlices
import Derived.Deep.QuietTactic
import Derived.BigQuiet
import Derived.WalkSmall
namespace Go.Proofs.Ytenlaoadclfmaaa
open Go.RowKit
set_option linter.unusedVariables false

theorem held_any {w : World} {n cap : Nat} {a : Option Addr} (k : Int) (h : RowAt w a n (upFrom k n)) (hn : n ≤ 1048576) (hk0 : 0 ≤ k) (hk : k ≤ 4194304) :
    Calls Try.prog 21 #[.slice a n cap, .int .i64 k] w fun e w' => e = .returned (.int .i64 (k + n)) ∧ w = w' := by
  have H := Lib.hid h
  clear h
  go_enter Try.func21, Try.ntmps21
  go_wp2_with fail
  go_loop [1, 5] (fun kk t => ∃ m : Nat, m ≤ n ∧ t = .int .i64 m ∧ kk = .int .i64 (k + m)) (fun _ t => n - (intOf t).toNat)
  case atStart => exact ⟨0, by omega, rfl, by simp⟩
  case round =>
    obtain ⟨m, hm, rfl, rfl⟩ := hrel
    by_cases hlt : m < n
    · obtain ⟨b, off, rfl, hb, hcs⟩ := H.out.at' (by omega)
      have hc := hcs m hlt
      rw [upFrom_gi k n m hlt] at hc
      clear hcs
      have hne : (k + (m : Int) != k + (m : Int)) = false := by simp
      have e1 : k + (m : Int) + 1 = k + ((m + 1 : Nat) : Int) := by omega
      have E1 := Lib.hid e1
      clear e1 hne
      go_wp2_with fail
      go_round
      case rel => exact ⟨m + 1, by omega, by go_num, by rw [E1.out]⟩
      case measure => simp [intOf]; omega
    · obtain rfl : m = n := by omega
      go_wp2_with fail
      go_ret
      exact ⟨rfl, rfl⟩
theorem RowAt.drewN {w : World} {n : Nat} {a : Option Addr} {zs : List Int} (h : RowAt w a n zs) (m : Nat) : RowAt (w.drewN m) a n zs :=
  ⟨h.len, h.small, fun hn => by
    obtain ⟨b, off, rfl, hlt, hc⟩ := h.at' hn
    exact ⟨b, off, rfl, hlt, fun j hj => (World.cell?_of_block rfl).trans (hc j hj)⟩⟩
theorem list_ext_gi {l m : List Int} (h : l.length = m.length) (he : ∀ j, j < l.length → gi l j = gi m j) : l = m := by
  apply List.ext_getElem h
  intro j h1 h2
  have := he j h1
  unfold gi at this
  rw [List.getD_eq_getElem?_getD, List.getD_eq_getElem?_getD, List.getElem?_eq_getElem h1, List.getElem?_eq_getElem h2] at this
  exact this
theorem drewN_drewN (w : World) (a b : Nat) : (w.drewN a).drewN b = w.drewN (a + b) := by
  unfold World.drewN; simp [Nat.add_assoc]
set_option maxHeartbeats 400000 in
theorem eqRow_any {w : World} {n m cap cap' : Nat} {a b : Option Addr} {xs ys : List Int} (hx : RowAt w a n xs) (hy : RowAt w b m ys) :
    Calls Try.prog 19 #[.slice a n cap, .slice b m cap'] w fun e w' => e = .returned (.bool (decide (xs = ys))) ∧ ∃ q, w' = w.drewN q := by
  have HX := Lib.hid hx
  have HY := Lib.hid hy
  have hsn := hx.small
  have hlx := hx.len
  have hly := hy.len
  clear hx hy
  by_cases hnm : n = m
  · have hb : ((n : Int) != (m : Int)) = false := by simp [hnm]
    subst hnm
    go_enter Try.func19, Try.ntmps19
    go_wp2_with fail
    have HLX := Lib.hid hlx
    have HLY := Lib.hid hly
    clear hlx hly hb
    go_loopw [5] (fun t wr => ∃ k q : Nat, k ≤ n ∧ t = .int .i64 k ∧ wr = w.drewN q ∧ Hid (∀ j, j < k → gi xs j = gi ys j)) (fun t _ => n - (intOf t).toNat)
    case atStart => exact ⟨0, 0, by omega, rfl, rfl, fun j hj => by omega⟩
    case round =>
      obtain ⟨k, q, hk, rfl, rfl, heq⟩ := hrel
      by_cases hlt : k < n
      · obtain ⟨b1, o1, rfl, hb1, hc1⟩ := HX.out.at' (by omega)
        obtain ⟨b2, o2, rfl, hb2, hc2⟩ := HY.out.at' (by omega)
        have hc1 := hc1 k hlt
        have hc2 := hc2 k hlt
        by_cases he : gi xs k = gi ys k
        · have hh : (gi xs k != gi ys k) = false := by simp [he]
          have heq2 := Lib.hid (show ∀ j, j < k + 1 → gi xs j = gi ys j from fun j hj => by
            by_cases e : j = k
            · rw [e, he]
            · exact heq.out j (by omega))
          clear he
          go_wp2_with fail
          go_quiet (fail)
          go_wp2_with fail
          go_roundw
          case rel => exact ⟨k + 1, q + nq, by omega, by go_num, rfl, heq2⟩
          case measure => simp [intOf]; omega
        · have hh : (gi xs k != gi ys k) = true := by simp [he]
          have hf := Lib.hid (show decide (xs = ys) = false by
            simp only [decide_eq_false_iff_not]; intro e; exact he (by rw [e]))
          clear he
          go_wp2_with fail
          go_quiet (fail)
          go_wp2_with fail
          go_ret
          exact ⟨ret_bool hf.out.symm, _, drewN_drewN _ _ _⟩
      · have hf := Lib.hid (show decide (xs = ys) = true by
          simp only [decide_eq_true_eq]
          exact list_ext_gi (by rw [HLX.out, HLY.out]) (fun j hj => heq.out j (by rw [HLX.out] at hj; omega)))
        go_wp2_with fail
        go_ret
        exact ⟨ret_bool hf.out.symm, _, rfl⟩
  · have hb : ((n : Int) != (m : Int)) = true := by simp; omega
    have hf := Lib.hid (show decide (xs = ys) = false by
      simp only [decide_eq_false_iff_not]; intro e; apply hnm; rw [← hlx, ← hly, e])
    clear hlx hly hnm
    go_enter Try.func19, Try.ntmps19
    go_wp2_with fail
    go_ret
    exact ⟨ret_bool hf.out.symm, 0, rfl⟩

theorem info_int : (Try.prog.info? 2).map (fun i => (i.zero, i.size, i.bytes)) = some (some (.int .i64 0), 1, 8) := by kernel_rfl
/-- A new row of zeros. -/
theorem own_zeros (w : World) (n : Nat) (hn : n ≤ 9223372036854775807) : OwnAt (w.alloc (.cells (madeCells #[.int .i64 0] n) 2)) w.heap.size (some ⟨w.heap.size, 0, none⟩) n (List.replicate n 0) :=
  ⟨List.length_replicate, hn, fun _ => ⟨_, _, rfl, Nat.le_refl _, heap_alloc_new w _, by simp [madeCells], fun j hj => by
    have e : gi (List.replicate n 0) j = 0 := by unfold gi; rw [List.getD_eq_getElem?_getD, List.getElem?_replicate]; split <;> rfl
    rw [e]; simp [madeCells, hj, Nat.mod_one]⟩⟩
theorem run_make_ints (w : World) (t : TypeId) (ht : Try.prog.underlying t = some (.slice 2)) (n : Int) (h0 : 0 ≤ n) (hn : n ≤ 16777216) :
    (Instr.makeSlice t (.int .i64 n) (.int .i64 n)).run Try.prog w = .ok (.slice (some ⟨w.heap.size, 0, none⟩) n.toNat n.toNat) (w.alloc (.cells (madeCells #[.int .i64 0] n.toNat) 2)) := by
  obtain ⟨i0, hi, hz0, hz1, hz2⟩ := info_parts info_int
  have := run_make (P := Try.prog) w t 2 i0 _ ht hi hz0 .i64 .i64 n n h0 (Int.le_refl _) (by rw [hz2]; omega) (by omega)
  rw [hz1, Nat.mul_one] at this
  exact this
/-- A copy, as far as it has come. -/
def copyTo (zs : List Int) (k : Nat) : List Int := zs.take k ++ List.replicate (zs.length - k) 0
theorem copyTo_length (zs : List Int) (k : Nat) (h : k ≤ zs.length) : (copyTo zs k).length = zs.length := by
  unfold copyTo; rw [List.length_append, List.length_take, List.length_replicate]; omega
theorem copyTo_end (zs : List Int) (k : Nat) (h : zs.length ≤ k) : copyTo zs k = zs := by
  unfold copyTo; rw [List.take_of_length_le h, show zs.length - k = 0 by omega]; simp
theorem gi_take {l : List Int} {k j : Nat} (h : j < k) : gi (l.take k) j = gi l j := by
  unfold gi; rw [VF.getD_take, if_pos h]
theorem gi_replicate (n j : Nat) : gi (List.replicate n 0) j = 0 := by
  unfold gi; rw [List.getD_eq_getElem?_getD, List.getElem?_replicate]; split <;> rfl
theorem copyTo_set (zs : List Int) (k : Nat) (h : k < zs.length) : copyTo zs (k + 1) = (copyTo zs k).set k (gi zs k) := by
  apply list_ext_gi
  · rw [List.length_set, copyTo_length _ _ h, copyTo_length _ _ (by omega)]
  · intro j hj
    rw [copyTo_length _ _ h] at hj
    rw [gi_set (by rw [copyTo_length _ _ (by omega)]; exact h)]
    unfold copyTo
    by_cases h1 : j < k
    · rw [if_neg (by omega), gi_append_left (by rw [List.length_take]; omega), gi_append_left (by rw [List.length_take]; omega), gi_take (by omega), gi_take h1]
    · by_cases e : j = k
      · subst e; rw [if_pos rfl, gi_append_left (by rw [List.length_take]; omega), gi_take (by omega)]
      · rw [if_neg e, gi_append_right (by rw [List.length_take]; omega), gi_append_right (by rw [List.length_take]; omega), gi_replicate, gi_replicate]
set_option maxHeartbeats 400000 in
theorem toRow_any {w : World} {n cap : Nat} {a : Option Addr} {zs : List Int} (h : RowAt w a n zs) (hn : n ≤ 1048576) :
    Calls Try.prog 17 #[.slice a n cap] w fun e w' => ∃ a' cap', e = .returned (.slice a' n cap') ∧ Below w.heap.size w w' ∧ OwnAt w' w.heap.size a' n zs ∧ (a' = none → cap' = 0) ∧ n ≤ cap' := by
  have H := Lib.hid h
  have hlen := h.len
  clear h
  have hmk := fun w => run_make_ints w 24 Try.underlying24 (n : Int) (by omega) (by omega)
  simp only [Int.toNat_natCast] at hmk
  have hz : copyTo zs 0 = List.replicate n 0 := by unfold copyTo; simp [hlen]
  have HZ := Lib.hid hz
  have HLEN := Lib.hid hlen
  clear hz hlen
  go_enter Try.func17, Try.ntmps17
  go_wp2_with fail
  clear hmk
  have hb0 : Below w.heap.size w (w.alloc (.cells (madeCells #[.int .i64 0] n) 2)) := below1 _ _
  have ho0 := own_zeros w n (by omega)
  rw [← HZ.out] at ho0
  go_loopw [4] (fun t wr => ∃ k : Nat, k ≤ n ∧ t = .int .i64 k ∧ Hid (Below w.heap.size w wr) ∧ Hid (OwnAt wr w.heap.size (some ⟨w.heap.size, 0, none⟩) n (copyTo zs k)) ∧ w.heap.size < wr.heap.size) (fun t _ => n - (intOf t).toNat)
  case atStart => exact ⟨0, by omega, rfl, hb0, ho0, by simp⟩
  case round =>
    obtain ⟨k, hk, rfl, hb, ho, hsz⟩ := hrel
    have hrow := H.out.below' (hb.out)
    clear hb0 ho0
    by_cases hlt : k < n
    · obtain ⟨b1, o1, rfl, hb1, hcs⟩ := hrow.at' (by omega)
      have hc := hcs k hlt
      obtain ⟨hp, hf, _⟩ := ho.out.place hlt
      have ho2 := Lib.hid (by have := ho.out.set hlt (gi zs k); rw [← copyTo_set _ _ (by rw [HLEN.out]; exact hlt)] at this; exact this)
      have hb2 := Lib.hid (hb.out.setCell (p := ⟨w.heap.size, k, none⟩) (Nat.le_refl _) (.int .i64 (gi zs k)))
      have hsz2 : w.heap.size < (wr.setCell ⟨w.heap.size, k, none⟩ (.int .i64 (gi zs k))).heap.size := by simp [World.setCell]; omega
      have HS2 := Lib.hid hsz2
      clear hcs hrow hsz2
      go_wp2_with fail
      go_roundw
      case rel => exact ⟨k + 1, by omega, by go_num, hb2, ho2, HS2.out⟩
      case measure => simp [intOf]; omega
    · obtain rfl : k = n := by omega
      have hfin := Lib.hid (show OwnAt wr w.heap.size (some ⟨w.heap.size, 0, none⟩) k zs by have := ho.out; rw [copyTo_end _ _ (by rw [HLEN.out]; omega)] at this; exact this)
      clear hrow
      go_wp2_with fail
      go_ret
      exact ⟨_, _, rfl, hb.out, hfin.out, (fun h => by cases h), Nat.le_refl _⟩
end Go.Proofs.Ytenlaoadclfmaaa
