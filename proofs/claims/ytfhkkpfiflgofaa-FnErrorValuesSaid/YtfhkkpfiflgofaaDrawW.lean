/-
  The parts DrawC5, DrawIx, DrawM, DrawN.
-/
import Derived.Test.YtfhkkpfiflgofaaDraw
import Derived.Test.YtfhkkpfiflgofaaEncW
import Derived.Test.YtfhkkpfiflgofaaPeel
import Derived.Lib.MinMax
/-
  What the laws of codes draw.
-/
namespace Go.Proofs.Ytfhkkpfiflgofaa
open Go.RowKit
set_option linter.unusedVariables false

end Go.Proofs.Ytfhkkpfiflgofaa
/-
  The walk of the draw of indices; what the law of locators draws.
-/
namespace Go.Proofs.Ytfhkkpfiflgofaa
open Go.RowKit
set_option linter.unusedVariables false

set_option maxHeartbeats 8000000 in
set_option maxRecDepth 100000 in
theorem l05DrawIndices_any {w : World} {s : Nat} (hs : Src w s) (p pw g l c most : Int) (hl1 : -2000 ≤ l) (hl2 : l ≤ 2000) (hm0 : -3000 ≤ most) (hm1 : most ≤ 200) :
    Calls Try.prog 77 #[.pointer (some ⟨s, 0, none⟩), cV p pw g l c, .int .i64 most] w fun e w' => ∃ v, e = .returned v ∧ Dr s w w' ∧ Src w' s ∧ ∃ zs, OwnL w' w.heap.size v zs ∧ zs.length ≤ 1000 := by
  have hsz := hs.lt
  have F0 := Lib.hid (CB.new w p pw g l c)
  have B0 := below1 w (.cells #[.int .i64 p, .int .i64 pw, .int .i64 g, .int .i64 l, .int .i64 c] CT)
  have HS := Lib.hid (hs.below B0)
  have D0 := Lib.hid (Dr.of (s := s) B0)
  have hB1 : w.heap.size < (w.alloc (.cells #[.int .i64 p, .int .i64 pw, .int .i64 g, .int .i64 l, .int .i64 c] CT)).heap.size := F0.out.lt
  clear hs B0
  go_enter Try.func77, Try.ntmps77
  generalize hw1 : w.alloc (.cells #[.int .i64 p, .int .i64 pw, .int .i64 g, .int .i64 l, .int .i64 c] CT) = w1 at *
  have F3 := Lib.hid (F0.out.below (below1 w1 (.cells #[] 2)) F0.out.lt)
  have S3 := Lib.hid (HS.out.alloc (.cells #[] 2))
  have D3 := Lib.hid ((Dr.refl s w1).alloc (.cells #[] 2))
  have HO3 := Lib.hid (OwnL.empty w1 w1.heap.size (Nat.le_refl _) w1.heap.size rfl)
  go_wp2_with fail
  (try rw [hw1])
  clear hw1
  generalize w1.alloc (.cells #[] 2) = w3 at *
  refine (next_any S3.out 4 (by omega) (by omega)).mono ?_
  rintro e w4 ⟨at0, rfl, hat, hd, hs4⟩
  have O4 := Lib.hid (HO3.out.dr hd (by omega))
  have F4 := Lib.hid (F3.out.dr hd (by omega))
  have D4 := Lib.hid (D3.out.trans hd)
  have S4 := Lib.hid hs4
  clear hd hs4 HO3 F3 D3 S3 HS
  go_wp2_with fail
  refine (l01Next_any S4.out (most + 1) (by omega)).mono ?_
  rintro e w5 ⟨r5, rfl, hr5, hd, hs5⟩
  have hr5b : 0 ≤ r5 ∧ r5 ≤ 200 := by
    by_cases h : most + 1 ≤ 1
    · have := hr5.1 h; omega
    · have := hr5.2 (by omega); omega
  have O5 := Lib.hid (O4.out.dr hd (by omega))
  have F5 := Lib.hid (F4.out.dr hd (by omega))
  have D5 := Lib.hid (D4.out.trans hd)
  have S5 := Lib.hid hs5
  clear hd hs5 O4 F4 D4 S4 hr5
  go_wp2_with fail
  go_loopw [7, 8, 9] (fun a t u wr => ∃ (n x : Int) (zs : List Int), 0 ≤ n ∧ n ≤ 200 ∧ 0 ≤ x ∧ x ≤ 1000 - 4 * n ∧ u = .int .i64 n ∧ t = .int .i64 x ∧ Hid ((zs.length : Int) + n ≤ 200) ∧ Hid (OwnL wr w1.heap.size a zs) ∧ Hid (CB wr w.heap.size p pw g l c) ∧ Hid (Dr s w1 wr) ∧ Hid (Src wr s)) (fun _ _ u _ => (intOf u).toNat)
  case atStart => exact ⟨r5, at0, [], by omega, by omega, by omega, by omega, rfl, rfl, Lib.hid (by simp; omega), O5, F5, D5, S5⟩
  case round =>
    clear O5 F5 D5 S5 hr5b
    obtain ⟨n, x, zs, hn1, hn2, hx1, hx2, rfl, rfl, hlen, ho, hf, hd, hsr⟩ := hrel
    obtain ⟨a, cp, rfl, hcp, hca, hoa⟩ := ho.out.cap
    clear hca hoa
    have x3 := hf.out.c3
    have hl2 : zs.length ≤ 200 := by have := hlen.out; omega
    have hl6 : zs.length ≤ 16777216 := by omega
    by_cases hgo : 0 < n ∧ x < l
    · obtain ⟨hg1, hg2⟩ := hgo
      have HLN := Lib.hid hlen.out
      go_wp2_with (at_builtin; refine append_one rfl _ _ _ rfl Try.underlying26 x ho.out rfl _ rfl rfl hl6 ?_; intro v' w7 hown7 hb7)
      have O7 := Lib.hid hown7
      have F7 := Lib.hid (hf.out.below hb7 hB1)
      have D7 := Lib.hid (hd.out.moreB hb7)
      have S7 := Lib.hid (hsr.out.lo (by omega) hb7)
      clear hown7 hb7 ho hf hd hsr x3
      go_wp2_with fail
      refine (next_any S7.out 4 (by omega) (by omega)).mono ?_
      rintro e w8 ⟨q, rfl, hq, hd8, hs8⟩
      have O8 := Lib.hid (O7.out.dr hd8 (by omega))
      have F8 := Lib.hid (F7.out.dr hd8 (by omega))
      have D8 := Lib.hid (D7.out.trans hd8)
      have S8 := Lib.hid hs8
      clear hd8 hs8 O7 F7 D7 S7
      go_wp2_with fail
      go_roundw
      case rel => exact ⟨n - 1, x + 1 + q, zs ++ [x], by omega, by omega, by omega, by omega, rfl, rfl, Lib.hid (by have := HLN.out; simp; omega), O8, F8, D8, S8⟩
      case measure => simp [intOf]; omega
    · have hgs : n ≤ 0 ∨ (0 < n ∧ ¬ x < l) := by omega
      clear hgo
      rcases hgs with hg | ⟨hg, hg'⟩
      all_goals
        go_wp2_with fail
        refine (next_any hsr.out 40 (by omega) (by omega)).mono ?_
        rintro e w6 ⟨q, rfl, hq, hd6, hs6⟩
        have O6 := Lib.hid (ho.out.dr hd6 (by omega))
        have F6 := Lib.hid (hf.out.dr hd6 (by omega))
        have D6 := Lib.hid (hd.out.trans hd6)
        have S6 := Lib.hid hs6
        clear hd6 hs6 ho hf hd hsr x3
        have x3 := F6.out.c3
        rcases (show q = 0 ∨ q = 1 ∨ 2 ≤ q by omega) with rfl | rfl | hq2
        · go_wp2_with (at_builtin; refine append_one rfl _ _ _ rfl Try.underlying26 l O6.out rfl _ rfl rfl hl6 ?_; intro v' w7 hown7 hb7)
          have O7 := Lib.hid (hown7.lower (C := w.heap.size) (by omega))
          have D7 := Lib.hid (D0.out.trans (D6.out.moreB hb7))
          have S7 := Lib.hid (S6.out.lo (by omega) hb7)
          clear hown7 hb7
          go_wp2_with fail
          go_ret
          exact ⟨_, rfl, D7.out, S7.out, _, O7.out, by simp; omega⟩
        · go_wp2_with (at_builtin; refine append_one rfl _ _ _ rfl Try.underlying26 0 O6.out rfl _ rfl rfl hl6 ?_; intro v' w7 hown7 hb7)
          have O7 := Lib.hid (hown7.lower (C := w.heap.size) (by omega))
          have D7 := Lib.hid (D0.out.trans (D6.out.moreB hb7))
          have S7 := Lib.hid (S6.out.lo (by omega) hb7)
          clear hown7 hb7
          go_wp2_with fail
          go_ret
          exact ⟨_, rfl, D7.out, S7.out, _, O7.out, by simp; omega⟩
        · have q0 : ((q : Int) == 0) = false := by simp; omega
          have q1 : ((q : Int) == 1) = false := by simp; omega
          have O7 := Lib.hid (O6.out.lower (C := w.heap.size) (by omega))
          have D7 := Lib.hid (D0.out.trans D6.out)
          go_wp2_with fail
          go_ret
          exact ⟨_, rfl, D7.out, S6.out, _, O7.out, by omega⟩
end Go.Proofs.Ytfhkkpfiflgofaa
/-
  The draw of damaged words; what the laws of correction draw.
-/
namespace Go.Proofs.Ytfhkkpfiflgofaa
open Go.RowKit
set_option linter.unusedVariables false

/-- A state of a draw that is handed its source: R the result's code, X the code, s the source. -/
structure CSw (w0 W : World) (R X s : Nat) (p pw g l c : Int) : Prop where
  res : CB W R 0 0 0 0 0
  fld : CB W X p pw g l c
  src : Src W s
  dr : Dr s w0 W
  r0 : R = w0.heap.size
  sR : s < R
  rX : R < X
section
variable {w0 W W' : World} {R X s : Nat} {p pw g l c : Int}
theorem CSw.below (h : CSw w0 W R X s p pw g l c) (hb : Below W.heap.size W W') : CSw w0 W' R X s p pw g l c :=
  ⟨h.res.below hb h.res.lt, h.fld.below hb h.fld.lt, h.src.below hb, h.dr.more hb, h.r0, h.sR, h.rX⟩
theorem CSw.drS (h : CSw w0 W R X s p pw g l c) (hd : Dr s W W') (hs : Src W' s) : CSw w0 W' R X s p pw g l c := by
  have h1 := h.sR; have h2 := h.rX
  exact ⟨h.res.dr hd (by omega), h.fld.dr hd (by omega), hs, h.dr.trans hd, h.r0, h.sR, h.rX⟩
theorem CSw.set (h : CSw w0 W R X s p pw g l c) {b o : Nat} {v : Value} (hb : X < b) : CSw w0 (W.setCell ⟨b, o, none⟩ v) R X s p pw g l c := by
  have h1 := h.sR; have h2 := h.rX; have h3 := h.r0
  exact ⟨h.res.other (by omega) _, h.fld.other (by omega) _, h.src.other (by omega) _ _, h.dr.setNew (by omega) _ _, h.r0, h.sR, h.rX⟩
end
theorem wrap_le {x : Int} (h1 : -1000000 ≤ x) (h2 : x ≤ 1000000) : IntKind.i64.wrap x = x := IntWalk.i64_in _ (by omega)
theorem tdiv_bd {x : Int} (k : Int) (hk : 1 ≤ k) (h1 : -1000000 ≤ x) (h2 : x ≤ 1000000) : -1000000 ≤ x.tdiv k ∧ x.tdiv k ≤ 1000000 ∧ (0 ≤ x → 0 ≤ x.tdiv k ∧ x.tdiv k ≤ x) := by
  rcases Int.le_total 0 x with h | h
  · rw [Int.tdiv_eq_ediv_of_nonneg h]
    have h3 : 0 ≤ x / k := Int.ediv_nonneg h (by omega)
    have h4 : x / k ≤ x := Int.ediv_le_self _ h
    exact ⟨by omega, by omega, fun _ => ⟨h3, h4⟩⟩
  · have h5 : x.tdiv k = -((-x) / k) := by
      rw [← Int.tdiv_eq_ediv_of_nonneg (by omega), Int.neg_tdiv]; omega
    have h3 : 0 ≤ (-x) / k := Int.ediv_nonneg (by omega) (by omega)
    have h4 : (-x) / k ≤ -x := Int.ediv_le_self _ (by omega)
    refine ⟨by omega, by omega, fun h0 => ?_⟩
    have : x = 0 := by omega
    subst this
    simp
theorem tdiv2_le {x m : Int} (h : x ≤ 2 * m) (h0 : 0 ≤ m) : x.tdiv 2 ≤ m := by
  rcases Int.le_total 0 x with h1 | h1
  · rw [Int.tdiv_eq_ediv_of_nonneg h1]; omega
  · have h5 : x.tdiv 2 = -((-x) / 2) := by
      rw [← Int.tdiv_eq_ediv_of_nonneg (by omega), Int.neg_tdiv]; omega
    omega
end Go.Proofs.Ytfhkkpfiflgofaa
/-
  What the laws of correction draw.
-/
namespace Go.Proofs.Ytfhkkpfiflgofaa
open Go.RowKit
set_option linter.unusedVariables false

end Go.Proofs.Ytfhkkpfiflgofaa
