/-
  Slices of records: marked, and held.
-/
import Derived.Test.YtmbphpmabopifaaDoorRcvL
namespace Go.Proofs.YtmbphpmabopifaaDoor
open Go.RowKit
set_option linter.unusedVariables false

/-- The marks. -/
def mkR (k : Int) (n : Nat) : List (Int × Int) := (List.range n).map fun (m : Nat) => (k + (m : Int) + (m : Int), k + (m : Int) + (m : Int) + 1)
theorem mkR_length (k : Int) (n : Nat) : (mkR k n).length = n := by simp [mkR]
theorem mkR_gr (k : Int) {n m : Nat} (h : m < n) : gr (mkR k n) m = (k + m + m, k + m + m + 1) := by unfold gr mkR; simp [List.getD, h]
theorem RecsOwn.none_known {w : World} {lo hi : Nat} {a : Option Addr} {n m : Nat} {L M : List (Int × Int)} (h : RecsOwn w lo hi a n m L) : RecsOwn w lo hi a n 0 M :=
  ⟨fun hn => by
    obtain ⟨b, cur, e, h1, h2, h3, h4, h5, h6, h7⟩ := h.at' hn
    exact ⟨b, cur, e, h1, h2, h3, h4, h5, h6, fun j hj => by omega⟩⟩
set_option maxHeartbeats 1000000 in
theorem markRecordS2_any {w : World} {lo hi n cap : Nat} {a : Option Addr} {L : List (Int × Int)} (h : RecsOwn w lo hi a n n L) (hn : n ≤ 1048576) (k : Int) (hk0 : 0 ≤ k) (hk : k ≤ 4194304) :
    Calls Tryd.prog 23 #[.slice a n cap, .int .i64 k] w fun e w' => e = .returned (.int .i64 (k + n + n)) ∧ Chg lo hi w w' ∧ RecsOwn w' lo hi a n n (mkR k n) := by
  have H := Lib.hid (h.none_known (M := mkR k n))
  clear h
  go_enter Tryd.func23, Tryd.ntmps23
  go_wp2_with fail
  go_loopw [1, 5] (fun kk t wr => ∃ m : Nat, m ≤ n ∧ t = .int .i64 m ∧ kk = .int .i64 (k + m + m) ∧ Hid (RecsOwn wr lo hi a n m (mkR k n)) ∧ Hid (Chg lo hi w wr)) (fun _ t _ => n - (intOf t).toNat)
  case atStart => exact ⟨0, by omega, rfl, by simp, H, Lib.hid (Chg.refl _ _ _)⟩
  case round =>
    obtain ⟨m, hm, rfl, rfl, ho, hg⟩ := hrel
    by_cases hlt : m < n
    · obtain ⟨b, cur, rfl, hg1, hg2, hg3, hg4, hg5, hg6, hg7⟩ := ho.out.at' (by omega)
      obtain ⟨x0, y0, hx0, hy0⟩ := hg6 m hlt
      have d0 := (cell_of_heap hg4 (m * 2)).trans hx0
      have d1 := (cell_of_heap hg4 (m * 2 + 1)).trans hy0
      have f0 := frozen_of_heap hg4 (m * 2)
      have f1 := frozen_of_heap hg4 (m * 2 + 1)
      have hO2 := Lib.hid (ho.out.set2 hlt)
      rw [mkR_gr k hlt] at hO2
      have hG2 := Lib.hid ((hg.out.set hg1 hg2 (m * 2) (.int .i64 (k + m + m))).set hg1 hg2 (m * 2 + 1) (.int .i64 (k + m + m + 1)))
      have e1 := Lib.hid (show k + (m : Int) + m + 1 + 1 = k + ((m + 1 : Nat) : Int) + ((m + 1 : Nat) : Int) by omega)
      clear hg4 hg6 hg7 hx0 hy0
      go_wp2_with fail
      go_roundw
      case rel => exact ⟨m + 1, by omega, by go_num, by rw [e1.out], hO2, hG2⟩
      case measure => simp [intOf]; omega
    · obtain rfl : m = n := by omega
      go_wp2_with fail
      go_ret
      exact ⟨rfl, hg.out, ho.out⟩
set_option maxHeartbeats 1000000 in
theorem heldRecordS_any {w : World} {n cap : Nat} {a : Option Addr} (k : Int) (h : RecsAt w a n (mkR k n)) (hn : n ≤ 1048576) (hk0 : 0 ≤ k) (hk : k ≤ 4194304) :
    Calls Tryd.prog 24 #[.slice a n cap, .int .i64 k] w fun e w' => e = .returned (.int .i64 (k + n + n)) ∧ w' = w := by
  have H := Lib.hid h
  clear h
  go_enter Tryd.func24, Tryd.ntmps24
  go_wp2_with fail
  go_loopw [1, 5] (fun kk t wr => ∃ m : Nat, m ≤ n ∧ t = .int .i64 m ∧ kk = .int .i64 (k + m + m) ∧ wr = w) (fun _ t _ => n - (intOf t).toNat)
  case atStart => exact ⟨0, by omega, rfl, by simp, rfl⟩
  case round =>
    obtain ⟨m, hm, rfl, rfl, rfl⟩ := hrel
    by_cases hlt : m < n
    · obtain ⟨b, o, rfl, hb, hcs⟩ := H.out.at' (by omega)
      obtain ⟨d0, d1⟩ := hcs m hlt
      rw [mkR_gr k hlt] at d0 d1
      dsimp only at d0 d1
      have e1 := Lib.hid (show k + (m : Int) + m + 1 + 1 = k + ((m + 1 : Nat) : Int) + ((m + 1 : Nat) : Int) by omega)
      clear hcs
      go_wp2_with fail
      go_roundw
      case rel => exact ⟨m + 1, by omega, by go_num, by rw [e1.out], trivial⟩
      case measure => simp [intOf]; omega
    · obtain rfl : m = n := by omega
      go_wp2_with fail
      go_ret
      exact ⟨rfl, rfl⟩
theorem OwnR.own {w : World} {B : Nat} {L : List (Int × Int)} {a : Option Addr} {cap : Nat} (h : OwnR w B (.slice a L.length cap) L) : RecsOwn w B w.heap.size a L.length L.length L :=
  ⟨fun hn => by
    obtain ⟨hB, hl, h2⟩ := h
    rcases h2 with ⟨hv, h1⟩ | ⟨g, cp, cur, hv, hg, hh, hc, hm, hs, ht⟩
    · omega
    · injection hv with e1 e2 e3
      subst e1
      have hget : ∀ j, j < L.length → cur[j * 2]? = some (.int .i64 (gr L j).1) ∧ cur[j * 2 + 1]? = some (.int .i64 (gr L j).2) := fun j hj => by
        obtain ⟨h1, h2⟩ := recC_get L j hj
        rw [← ht, List.getElem?_take_of_lt (by omega), Array.getElem?_toList] at h1 h2
        exact ⟨h1, h2⟩
      exact ⟨g, cur, rfl, hg, lt_of_heap hh, lt_of_heap hh, hh, by rw [hs]; exact Nat.mul_le_mul_right 2 hc, fun j hj => ⟨_, _, hget j hj⟩, fun j hj _ => hget j hj⟩⟩
end Go.Proofs.YtmbphpmabopifaaDoor
