/-
  The walks of the two CountRecords.
-/
import Derived.Test.YtmbphpmabopifaaDoorRecs
namespace Go.Proofs.YtmbphpmabopifaaDoor
open Go.RowKit
set_option linter.unusedVariables false

def recsB (L : List (Int × Int)) : Bool := L.all fun r => recB r.1 r.2
def recsC (L : List (Int × Int)) : Int := if L.length ≤ 300 then (if recsB L = true then 0 else 1) else 3
theorem gr_take_succ (L : List (Int × Int)) (k : Nat) (hk : k < L.length) : L.take (k + 1) = L.take k ++ [gr L k] := by
  rw [List.take_succ_eq_append_getElem hk]; unfold gr; rw [List.getD_eq_getElem?_getD, List.getElem?_eq_getElem hk]; rfl
theorem recsB_snoc {L : List (Int × Int)} {k : Nat} (hk : k < L.length) (h : recsB (L.take k) = true) (h1 : recB (gr L k).1 (gr L k).2 = true) : recsB (L.take (k + 1)) = true := by
  rw [gr_take_succ L k hk]; unfold recsB at *; rw [List.all_append, h]; simp [h1]
theorem recsB_not {L : List (Int × Int)} {k : Nat} (hk : k < L.length) (h1 : recB (gr L k).1 (gr L k).2 = false) : recsB L = false := by
  cases h : recsB L
  · rfl
  · unfold recsB at h
    rw [List.all_eq_true] at h
    have h2 : gr L k ∈ L := by unfold gr; rw [List.getD_eq_getElem?_getD, List.getElem?_eq_getElem hk]; exact List.getElem_mem hk
    rw [h _ h2] at h1; cases h1
theorem recsC_long {L : List (Int × Int)} {n : Nat} (hl : L.length = n) (h : 300 < n) : recsC L = 3 := by unfold recsC; rw [if_neg (by omega)]
theorem recsC_bad {L : List (Int × Int)} {n : Nat} (hl : L.length = n) (h : n ≤ 300) (hb : recsB L = false) : recsC L = 1 := by unfold recsC; rw [if_pos (by omega), if_neg (by simp [hb])]
theorem recsC_ok {L : List (Int × Int)} {n : Nat} (hl : L.length = n) (h : n ≤ 300) (hb : recsB L = true) : recsC L = 0 := by unfold recsC; rw [if_pos (by omega), if_pos hb]
theorem recsC_zero {L : List (Int × Int)} (h : recsC L = 0) : L.length ≤ 300 ∧ ∀ k, k < L.length → recB (gr L k).1 (gr L k).2 = true := by
  unfold recsC at h
  split at h
  · split at h
    · rename_i h1 h2
      refine ⟨h1, fun k hk => ?_⟩
      cases h3 : recB (gr L k).1 (gr L k).2
      · rw [recsB_not hk h3] at h2; cases h2
      · rfl
    · omega
  · omega
theorem recB_kind {k i : Int} (h : recB k i = true) : 1 ≤ k ∧ k ≤ 4 := by
  unfold recB at h; simp only [Bool.and_eq_true] at h; exact inR_iff.1 h.1
set_option maxHeartbeats 1000000 in
theorem recordsCode_any {w : World} {a : Option Addr} {n cap : Nat} {L : List (Int × Int)} (h : RecsAt w a n L) :
    Calls Tryd.prog 31 #[.slice a n cap] w fun e w' => e = .returned (.int .i64 (recsC L)) ∧ Below w.heap.size w w' := by
  have H := Lib.hid h
  have hl := Lib.hid h.len
  have hsm := h.small
  clear h
  by_cases h3 : 300 < n
  · have hf := Lib.hid (recsC_long hl.out h3)
    go_enter Tryd.func31, Tryd.ntmps31
    go_wp2_with fail
    go_ret
    exact ⟨ret_int hf.out.symm, Below.refl _ _⟩
  · go_enter Tryd.func31, Tryd.ntmps31
    go_wp2_with fail
    go_loopw [10] (fun t wr => ∃ k : Nat, k ≤ n ∧ t = .int .i64 k ∧ Hid (recsB (L.take k) = true) ∧ Hid (Below w.heap.size w wr)) (fun t _ => (n - intOf t).toNat)
    case atStart => exact ⟨0, by omega, rfl, rfl, Lib.hid (Below.refl _ _)⟩
    case round =>
      obtain ⟨k, hk, rfl, hall, hb⟩ := hrel
      by_cases hlt : k < n
      · obtain ⟨b1, o1, rfl, hb1, hcs⟩ := (H.out.below hb.out).at' (by omega)
        obtain ⟨hc0, hc1⟩ := hcs k hlt
        have HS := Lib.hid (recsB_snoc (by rw [hl.out]; exact hlt) hall.out)
        have HN := Lib.hid (recsB_not (L := L) (k := k) (by rw [hl.out]; exact hlt))
        clear hcs
        generalize gr L k = r at *
        obtain ⟨x, y⟩ := r
        dsimp only at hc0 hc1
        go_wp2_with fail
        refine (implIsRecord_any x y _).mono ?_
        rintro e w2 ⟨rfl, hb2⟩
        have HB2 := Lib.hid (hb.out.trans ((Below.trans (below1 wr _) (hb2.mono (by simp))).mono hb.out.size))
        clear hb2
        cases hr : recB x y
        · have hf := Lib.hid (recsC_bad hl.out (by omega) (HN.out hr))
          go_wp2_with fail
          go_ret
          exact ⟨ret_int hf.out.symm, HB2.out⟩
        · have hs := Lib.hid (HS.out hr)
          go_wp2_with fail
          go_roundw
          case rel => exact ⟨k + 1, by omega, by go_num, hs, HB2⟩
          case measure => simp [intOf]; omega
      · obtain rfl : k = n := by omega
        have hf := Lib.hid (recsC_ok hl.out (by omega) (by have := hall.out; rw [List.take_of_length_le (by rw [hl.out]; omega)] at this; exact this))
        go_wp2_with fail
        go_ret
        exact ⟨ret_int hf.out.symm, hb.out⟩
set_option maxHeartbeats 1000000 in
theorem l32Code_any {w : World} {a : Option Addr} {n cap : Nat} {L : List (Int × Int)} (h : RecsAt w a n L) :
    Calls Tryd.prog 29 #[.slice a n cap] w fun e w' => e = .returned (.int .i64 (recsC L)) ∧ Below w.heap.size w w' := by
  have H := Lib.hid h
  have hl := Lib.hid h.len
  have hsm := h.small
  clear h
  by_cases h3 : 300 < n
  · have hf := Lib.hid (recsC_long hl.out h3)
    go_enter Tryd.func29, Tryd.ntmps29
    go_wp2_with fail
    go_ret
    exact ⟨ret_int hf.out.symm, Below.refl _ _⟩
  · go_enter Tryd.func29, Tryd.ntmps29
    go_wp2_with fail
    go_loopw [3] (fun t wr => ∃ k : Nat, k ≤ n ∧ t = .int .i64 k ∧ Hid (recsB (L.take k) = true) ∧ Hid (Below w.heap.size w wr)) (fun t _ => (n - intOf t).toNat)
    case atStart => exact ⟨0, by omega, rfl, rfl, Lib.hid (Below.refl _ _)⟩
    case round =>
      obtain ⟨k, hk, rfl, hall, hb⟩ := hrel
      by_cases hlt : k < n
      · obtain ⟨b1, o1, rfl, hb1, hcs⟩ := (H.out.below hb.out).at' (by omega)
        obtain ⟨hc0, hc1⟩ := hcs k hlt
        have HS := Lib.hid (recsB_snoc (by rw [hl.out]; exact hlt) hall.out)
        have HN := Lib.hid (recsB_not (L := L) (k := k) (by rw [hl.out]; exact hlt))
        clear hcs
        generalize gr L k = r at *
        obtain ⟨x, y⟩ := r
        dsimp only at hc0 hc1
        go_wp2_with fail
        refine (specIsRecord_any x y _).mono ?_
        rintro e w2 ⟨rfl, hb2⟩
        have HB2 := Lib.hid (hb.out.trans (hb2.mono hb.out.size))
        clear hb2
        cases hr : recB x y
        · have hf := Lib.hid (recsC_bad hl.out (by omega) (HN.out hr))
          go_wp2_with fail
          go_ret
          exact ⟨ret_int hf.out.symm, HB2.out⟩
        · have hs := Lib.hid (HS.out hr)
          go_wp2_with fail
          go_roundw
          case rel => exact ⟨k + 1, by omega, by go_num, hs, HB2⟩
          case measure => simp [intOf]; omega
      · obtain rfl : k = n := by omega
        have hf := Lib.hid (recsC_ok hl.out (by omega) (by have := hall.out; rw [List.take_of_length_le (by rw [hl.out]; omega)] at this; exact this))
        go_wp2_with fail
        go_ret
        exact ⟨ret_int hf.out.symm, hb.out⟩
/-- The counts of the first k records. -/
def cntTo (L : List (Int × Int)) (idx : Int) : Nat → List Int
  | 0 => [0, 0, 0, 0]
  | k + 1 => if (gr L k).2 = idx then (cntTo L idx k).set ((gr L k).1 - 1).toNat (gi (cntTo L idx k) ((gr L k).1 - 1).toNat + 1) else cntTo L idx k
theorem cntTo_len (L : List (Int × Int)) (idx : Int) (k : Nat) : (cntTo L idx k).length = 4 := by
  induction k with
  | zero => rfl
  | succ k ih => unfold cntTo; split <;> simp [ih]
theorem cntTo_bd (L : List (Int × Int)) (idx : Int) (k : Nat) : ∀ j, 0 ≤ gi (cntTo L idx k) j ∧ gi (cntTo L idx k) j ≤ k := by
  induction k with
  | zero => intro j; match j with
    | 0 => simp [cntTo, gi]
    | 1 => simp [cntTo, gi]
    | 2 => simp [cntTo, gi]
    | 3 => simp [cntTo, gi]
    | j + 4 => simp [cntTo, gi]
  | succ k ih =>
    intro j
    unfold cntTo
    split
    · by_cases hi : ((gr L k).1 - 1).toNat < 4
      · rw [gi_set (by rw [cntTo_len]; exact hi)]
        have h1 := ih ((gr L k).1 - 1).toNat
        have h2 := ih j
        split <;> omega
      · rw [List.set_eq_of_length_le (by rw [cntTo_len]; omega)]
        have := ih j; omega
    · have := ih j; omega
def cntC (L : List (Int × Int)) (idx : Int) : Int := if recsC L = 0 then (if inR idx 0 199 = true then 0 else 2) else recsC L
def cntR (L : List (Int × Int)) (idx : Int) : List Int := if recsC L = 0 ∧ inR idx 0 199 = true then cntTo L idx L.length else []
theorem cntR_len (L : List (Int × Int)) (idx : Int) : (cntR L idx).length ≤ 1048576 := by
  unfold cntR; split
  · rw [cntTo_len]; omega
  · simp
theorem cnt_bad {L : List (Int × Int)} {idx : Int} (h : ¬ recsC L = 0) : cntC L idx = recsC L ∧ cntR L idx = [] := by
  unfold cntC cntR; rw [if_neg h, if_neg (fun h' => h h'.1)]; exact ⟨rfl, rfl⟩
theorem cnt_range {L : List (Int × Int)} {idx : Int} (h : recsC L = 0) (h2 : inR idx 0 199 = false) : cntC L idx = 2 ∧ cntR L idx = [] := by
  unfold cntC cntR; rw [if_pos h, if_neg (by simp [h2]), if_neg (by simp [h2])]; exact ⟨rfl, rfl⟩
theorem cnt_ok {L : List (Int × Int)} {idx : Int} {n : Nat} (hl : L.length = n) (h : recsC L = 0) (h2 : inR idx 0 199 = true) : cntC L idx = 0 ∧ cntR L idx = cntTo L idx n := by
  unfold cntC cntR; rw [if_pos h, if_pos h2, if_pos ⟨h, h2⟩, hl]; exact ⟨rfl, rfl⟩
theorem cnt_yes {L : List (Int × Int)} {idx : Int} {k : Nat} (h : (gr L k).2 = idx) : cntTo L idx (k + 1) = (cntTo L idx k).set ((gr L k).1 - 1).toNat (gi (cntTo L idx k) ((gr L k).1 - 1).toNat + 1) := by
  conv => lhs; unfold cntTo
  rw [if_pos h]
theorem cnt_no {L : List (Int × Int)} {idx : Int} {k : Nat} (h : ¬ (gr L k).2 = idx) : cntTo L idx (k + 1) = cntTo L idx k := by
  conv => lhs; unfold cntTo
  rw [if_neg h]
theorem own_lit4 (w : World) (t : TypeId) (ht : t = 2) : OwnAt (w.alloc (.cells #[.int .i64 0, .int .i64 0, .int .i64 0, .int .i64 0] t)) w.heap.size (some ⟨w.heap.size, 0, none⟩) 4 [0, 0, 0, 0] := by
  subst ht
  exact ⟨rfl, by omega, fun _ => ⟨_, _, rfl, Nat.le_refl _, heap_alloc_new w _, by simp, fun j hj => by
    match j, hj with
    | 0, _ => rfl
    | 1, _ => rfl
    | 2, _ => rfl
    | 3, _ => rfl⟩⟩
end Go.Proofs.YtmbphpmabopifaaDoor
