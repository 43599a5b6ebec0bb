/-
  The walks of the draws of elements; what the laws of fields draw.
-/
import Derived.Test.YtnhpdenneplapaaDraw2
namespace Go.Proofs.Ytnhpdenneplapaa
open Go.RowKit
set_option linter.unusedVariables false

theorem set3_cell {w : World} {R X o : Nat} {v v0 v1 v2 : Value} (hn : X ≠ R) (h : w.cell? ⟨X, o, none⟩ = some v) : (((w.setCell ⟨R, 0, none⟩ v0).setCell ⟨R, 1, none⟩ v1).setCell ⟨R, 2, none⟩ v2).cell? ⟨X, o, none⟩ = some v :=
  ((((Dr.refl R w).trans (.set R 0 w v0)).trans (.set R 1 _ v1)).trans (.set R 2 _ v2)).cell h hn
set_option maxHeartbeats 1000000 in
theorem l02DrawElement_any {w : World} {s : Nat} (hs : Src w s) (p pw g : Int) :
    Calls Try.prog 113 #[.pointer (some ⟨s, 0, none⟩), fV p pw g] w fun e w' => ∃ r, e = .returned (.int .i64 r) ∧ Dr s w w' ∧ Src w' s := by
  have B0 := Lib.hid (below1 w (.cells #[.int .i64 p, .int .i64 pw, .int .i64 g] FTa))
  have hsz := hs.lt
  have HS := Lib.hid (hs.below B0.out)
  have D0 := Lib.hid (Dr.of (s := s) B0.out)
  have F0 := FB.new w p pw g
  have c0 := F0.c0
  have c1 := F0.c1
  have c2 := F0.c2
  have hl0 := F0.lt
  have F0 := Lib.hid F0
  clear hs B0
  go_enter Try.func113, Try.ntmps113
  go_wp2_with fail
  generalize w.alloc (.cells #[.int .i64 p, .int .i64 pw, .int .i64 g] FTa) = w1 at *
  refine (isField_any p pw g w1).mono ?_
  rintro e w2 ⟨rfl, hb2⟩
  have HS2 := Lib.hid (HS.out.below hb2)
  have D2 := Lib.hid (D0.out.more hb2)
  have F2 := F0.out.below hb2 hl0
  have c0 := F2.c0
  have c1 := F2.c1
  have c2 := F2.c2
  clear F0 HS D0 hb2 F2
  cases hv : validB p pw g with
  | true =>
    have hszb := (ffOf_ok hv).hi
    have hszl := (ffOf_ok hv).lo
    have HSZ := Lib.hid (fun W => l02Size_any p pw g W (ranged_of hv))
    clear hv
    generalize (ffOf p pw g).size = z at *
    go_wp2_with fail
    refine (HSZ.out _).mono ?_
    rintro e w3 ⟨rfl, hb3⟩
    have HS3 := Lib.hid (HS2.out.below hb3)
    have D3 := Lib.hid (D2.out.more hb3)
    clear hb3 HS2 D2
    go_wp2_with fail
    refine (next_any HS3.out 24 (by omega) (by omega)).mono ?_
    rintro e w4 ⟨k, rfl, hk, hd, hs4⟩
    have HS4 := Lib.hid hs4
    have D4 := Lib.hid (D3.out.trans hd)
    clear hd hs4 HS3 D3
    by_cases hk0 : k = 0
    · subst hk0
      go_wp2_with fail
      refine (pickN_any HS4.out [-1, z, z - 1, 0] 2 4 (by omega) (by omega) (by simp)).mono ?_
      rintro e w5 ⟨q, rfl, hq, hc, hd, hs5, hz5⟩
      have hcq := hc q (by simpa using hq)
      have HS5 := Lib.hid hs5
      have D5 := Lib.hid (D4.out.trans hd)
      clear hc hd hs5
      generalize gi [-1, z, z - 1, 0] q = y at *
      go_wp2_with fail
      go_ret
      exact ⟨_, rfl, D5.out, HS5.out⟩
    · have hkb : ((k : Int) == 0) = false := by simp; omega
      go_wp2_with fail
      refine (l01Next_any HS4.out z (by omega)).mono ?_
      rintro e w5 ⟨r, rfl, _, hd, hs5⟩
      have HS5 := Lib.hid hs5
      have D5 := Lib.hid (D4.out.trans hd)
      clear hd hs5
      go_wp2_with fail
      go_ret
      exact ⟨_, rfl, D5.out, HS5.out⟩
  | false =>
    clear hv
    go_wp2_with fail
    refine (next_any HS2.out 24 (by omega) (by omega)).mono ?_
    rintro e w4 ⟨k, rfl, hk, hd, hs4⟩
    have HS4 := Lib.hid hs4
    have D4 := Lib.hid (D2.out.trans hd)
    clear hd hs4 HS2 D2
    by_cases hk0 : k = 0
    · subst hk0
      go_wp2_with fail
      refine (pickN_any HS4.out [-1, 8, 7, 0] 2 4 (by omega) (by omega) (by simp)).mono ?_
      rintro e w5 ⟨q, rfl, hq, hc, hd, hs5, hz5⟩
      have hcq := hc q (by simpa using hq)
      have HS5 := Lib.hid hs5
      have D5 := Lib.hid (D4.out.trans hd)
      clear hc hd hs5
      generalize gi [-1, 8, 7, 0] q = y at *
      go_wp2_with fail
      go_ret
      exact ⟨_, rfl, D5.out, HS5.out⟩
    · have hkb : ((k : Int) == 0) = false := by simp; omega
      go_wp2_with fail
      refine (l01Next_any HS4.out 8 (by omega)).mono ?_
      rintro e w5 ⟨r, rfl, _, hd, hs5⟩
      have HS5 := Lib.hid hs5
      have D5 := Lib.hid (D4.out.trans hd)
      clear hd hs5
      go_wp2_with fail
      go_ret
      exact ⟨_, rfl, D5.out, HS5.out⟩
end Go.Proofs.Ytnhpdenneplapaa
