/-
  The walks of the draws of polynomials.
-/
import Derived.Test.YtnhpdenneplapaaDraw3
namespace Go.Proofs.Ytnhpdenneplapaa
open Go.RowKit
set_option linter.unusedVariables false

theorem OwnL.dr {s : Nat} {w w' : World} {B : Nat} {v : Value} {zs : List Int} (h : OwnL w B v zs) (hd : Dr s w w') (hs : s < B) : OwnL w' B v zs := by
  refine ⟨Nat.le_trans h.1 hd.size, h.2.1, ?_⟩
  rcases h.2.2 with h2 | ⟨g, cap, cur, rfl, hg, hh, r⟩
  · exact .inl h2
  · exact .inr ⟨g, cap, cur, rfl, hg, (hd.block g (Array.getElem?_eq_some_iff.1 hh).1 (by omega)).trans hh, r⟩
theorem OwnL.lit (w : World) (B : Nat) (hB : B ≤ w.heap.size) (xs : List Int) (h1 : xs.length ≤ 1000) : OwnL (w.alloc (.cells (xs.map (Value.int .i64)).toArray 2)) B (.slice (some ⟨w.heap.size, 0, none⟩) xs.length xs.length) xs :=
  ⟨by simp; omega, by simp, .inr ⟨w.heap.size, xs.length, _, rfl, hB, heap_new _ _, Nat.le_refl _, by unfold maxLen; omega, by simp, by simp; rw [← List.length_map (f := Value.int .i64), List.take_length]⟩⟩
theorem Dr.moreB {s : Nat} {a b c : World} (h : Dr s a b) (k : Below a.heap.size b c) : Dr s a c :=
  ⟨k.os.trans h.os, k.tape.trans h.tape, k.output.trans h.output, Nat.le_trans h.size k.size, fun i hi hn => (k.block i hi).trans (h.block i hi hn)⟩
theorem Src.lo {w w' : World} {s B : Nat} (h : Src w s) (hB : s < B) (hb : Below B w w') : Src w' s := by
  obtain ⟨c, n, cap, bs, i, sd, h⟩ := h
  refine ⟨c, n, cap, bs, i, sd, ⟨⟨h.row.len, h.row.small, h.row.el, fun hn => ?_⟩, h.ne, h.le, h.sd0, h.sd1, (hb.block s hB).trans h.blk⟩⟩
  obtain ⟨b, off, e, hlt, hc⟩ := h.row.at' hn
  have hbs : b < s := h.ne hn _ e
  exact ⟨b, off, e, Nat.lt_of_lt_of_le hlt hb.size, fun j hj => (hb.cell (p := ⟨b, off + j, none⟩) (show b < B by omega)).trans (hc j hj)⟩
set_option maxHeartbeats 2000000 in
theorem l03Draw_any {w : World} {s : Nat} (hs : Src w s) (p pw g most : Int) (h0 : 0 ≤ most) (h1 : most ≤ 100) :
    Calls Try.prog 67 #[.pointer (some ⟨s, 0, none⟩), fV p pw g, .int .i64 most] w fun e w' => ∃ v, e = .returned v ∧ Dr s w w' ∧ Src w' s ∧ ∃ zs, OwnL w' w.heap.size v zs ∧ zs.length ≤ 200 := by
  have B0 := Lib.hid (below1 w (.cells #[.int .i64 p, .int .i64 pw, .int .i64 g] FTa))
  have hsz := hs.lt
  have HS := Lib.hid (hs.below B0.out)
  have D0 := Lib.hid (Dr.of (s := s) B0.out)
  have F0 := Lib.hid (FB.new w p pw g)
  have c0 := F0.out.c0
  have c1 := F0.out.c1
  have c2 := F0.out.c2
  clear hs
  go_enter Try.func67, Try.ntmps67
  go_wp2_with fail
  generalize w.alloc (.cells #[.int .i64 p, .int .i64 pw, .int .i64 g] FTa) = w1 at *
  have hB1 : w.heap.size < w1.heap.size := F0.out.lt
  refine (isField_any p pw g w1).mono ?_
  rintro e w2 ⟨rfl, hb2⟩
  have HS2 := Lib.hid (HS.out.below hb2)
  have D2 := Lib.hid (Dr.of (s := s) hb2)
  have F2 := Lib.hid (F0.out.below hb2 F0.out.lt)
  have hz2 := hb2.size
  clear c0 c1 c2 HS hb2 F0
  have c0 := F2.out.c0
  have c1 := F2.out.c1
  have c2 := F2.out.c2
  cases hv : validB p pw g with
  | false =>
    clear hv
    have HO := Lib.hid (OwnL.lit w2 w.heap.size (by omega) [1] (by simp))
    have HSF := Lib.hid (HS2.out.alloc (.cells #[.int .i64 1] 2))
    have HDF := Lib.hid ((D0.out.trans D2.out).alloc (.cells #[.int .i64 1] 2))
    go_wp2_with fail
    go_ret
    exact ⟨_, rfl, HDF.out, HSF.out, _, HO.out, by simp⟩
  | true =>
    have hszb := (ffOf_ok hv).hi
    have hszl := (ffOf_ok hv).lo
    have HSZ := Lib.hid (fun W => l02Size_any p pw g W (ranged_of hv))
    clear hv
    generalize (ffOf p pw g).size = z at *
    have HO0 := Lib.hid (OwnL.empty w2 w1.heap.size hz2 w2.heap.size rfl)
    have S3 := Lib.hid (HS2.out.alloc (.cells #[] 2))
    have D3 := Lib.hid (D2.out.alloc (.cells #[] 2))
    have F3 := Lib.hid (F2.out.below (below1 w2 (.cells #[] 2)) F2.out.lt)
    have hq : 1 < (most.toNat + 1) ∨ most = 0 := by omega
    go_wp2_with fail
    generalize w2.alloc (.cells #[] 2) = w3 at *
    clear c0 c1 c2 HS2 D2 F2
    refine (l01Next_any S3.out (most + 1) (by omega)).mono ?_
    rintro e w4 ⟨r, rfl, hr, hd, hs4⟩
    have HO4 := Lib.hid (HO0.out.dr hd (by omega))
    have F4 := Lib.hid (F3.out.dr hd (by omega))
    have D4 := Lib.hid (D3.out.trans hd)
    have S4 := Lib.hid hs4
    have hr0 : 0 ≤ r ∧ r ≤ most := by
      by_cases hm : most + 1 ≤ 1
      · have := hr.1 hm; omega
      · have := hr.2 (by omega); omega
    clear hd hs4 HO0 F3 D3 S3 hr hq
    go_wp2_with fail
    go_loopw [7, 8] (fun a t wr => ∃ (k : Nat) (zs : List Int), (k : Int) ≤ most ∧ t = .int .i64 k ∧ Hid (zs.length + k ≤ 100) ∧ Hid (OwnL wr w1.heap.size a zs) ∧ Hid (FB wr w.heap.size p pw g) ∧ Hid (Dr s w1 wr) ∧ Hid (Src wr s)) (fun _ t _ => (intOf t).toNat)
    case atStart =>
      obtain ⟨k, rfl⟩ := Int.eq_ofNat_of_zero_le hr0.1
      exact ⟨k, [], by omega, rfl, Lib.hid (by simp; omega), HO4, F4, D4, S4⟩
    case round =>
      clear HO4 F4 D4 S4
      obtain ⟨k, zs, hk, rfl, hlen, ho, hf, hd, hsr⟩ := hrel
      obtain ⟨a, cp, rfl, hcp, hca, hoa⟩ := ho.out.cap
      have HCA := Lib.hid hca
      have HOA := Lib.hid hoa
      clear hca hoa
      have c0 := hf.out.c0
      have c1 := hf.out.c1
      have c2 := hf.out.c2
      by_cases hk0 : 0 < k
      · have hk1 : (0 : Int) < (k : Int) := by omega
        go_wp2_with fail
        refine (HSZ.out _).mono ?_
        rintro e w5 ⟨rfl, hb5⟩
        have O5 := Lib.hid (ho.out.below hb5)
        have F5 := Lib.hid (hf.out.below hb5 hf.out.lt)
        have D5 := Lib.hid (hd.out.more hb5)
        have S5 := Lib.hid (hsr.out.below hb5)
        clear hb5 ho hf hd hsr c0 c1 c2
        go_wp2_with fail
        refine (l01Next_any S5.out z (by omega)).mono ?_
        rintro e w6 ⟨x, rfl, _, hd6, hs6⟩
        have O6 := Lib.hid (O5.out.dr hd6 (by omega))
        have F6 := Lib.hid (F5.out.dr hd6 (by omega))
        have D6 := Lib.hid (D5.out.trans hd6)
        have S6 := Lib.hid hs6
        clear hd6 hs6 O5 F5 D5 S5
        have hl2 : zs.length ≤ 16777216 := by have := hlen.out; omega
        go_wp2_with (at_builtin; refine append_one rfl _ _ _ rfl Try.underlying26 x O6.out rfl _ rfl rfl hl2 ?_; intro v' w7 hown7 hb7)
        have O7 := Lib.hid hown7
        have F7 := Lib.hid (F6.out.below hb7 hB1)
        have D7 := Lib.hid (D6.out.moreB hb7)
        have S7 := Lib.hid (S6.out.lo (by omega) hb7)
        clear hown7 hb7 O6 F6 D6 S6
        go_wp2_with fail
        have e1 : (k : Int) - 1 = ((k - 1 : Nat) : Int) := by omega
        go_roundw
        case rel => exact ⟨k - 1, zs ++ [x], by omega, by rw [e1], Lib.hid (by have := hlen.out; simp; omega), O7, F7, D7, S7⟩
        case measure => simp [intOf]; omega
      · obtain rfl : k = 0 := by omega
        have hl2 : zs.length ≤ 100 := by have := hlen.out; omega
        go_wp2_with fail
        refine (l03Trim_any HOA.out.row hcp HCA.out (by omega)).mono ?_
        rintro e w5 ⟨v5, rfl, hb5, ho5⟩
        have hl5 : (VF.trim zs).length ≤ 100 := by rw [VF.trim_length]; have := VF.tlen_le zs zs.length; omega
        have O5 := Lib.hid (ho5.lower (C := w1.heap.size) hd.out.size)
        have F5 := Lib.hid (hf.out.below hb5 hf.out.lt)
        have D5 := Lib.hid (hd.out.more hb5)
        have S5 := Lib.hid (hsr.out.below hb5)
        clear hb5 ho5 ho hf hd hsr c0 c1 c2 HCA HOA
        generalize VF.trim zs = ys at *
        go_wp2_with fail
        refine (next_any S5.out 40 (by omega) (by omega)).mono ?_
        rintro e w6 ⟨q, rfl, hq, hd6, hs6⟩
        have O6 := Lib.hid (O5.out.dr hd6 (by omega))
        have F6 := Lib.hid (F5.out.dr hd6 (by omega))
        have D6 := Lib.hid (D5.out.trans hd6)
        have S6 := Lib.hid hs6
        clear hd6 hs6 O5 F5 D5 S5
        have hl6 : ys.length ≤ 16777216 := by omega
        have c0 := F6.out.c0
        have c1 := F6.out.c1
        have c2 := F6.out.c2
        rcases (show q = 0 ∨ q = 1 ∨ 2 ≤ q by omega) with rfl | rfl | hq2
        · go_wp2_with (at_builtin; refine append_one rfl _ _ _ rfl Try.underlying26 0 O6.out rfl _ rfl rfl hl6 ?_; intro v' w7 hown7 hb7)
          have O7 := Lib.hid (hown7.lower (C := w.heap.size) (by omega))
          have D7 := Lib.hid (D0.out.trans (D6.out.moreB hb7))
          have S7 := Lib.hid (S6.out.lo (by omega) hb7)
          clear hown7 hb7
          go_wp2_with fail
          go_ret
          exact ⟨_, rfl, D7.out, S7.out, _, O7.out, by simp; omega⟩
        · go_wp2_with fail
          refine (HSZ.out _).mono ?_
          rintro e w5 ⟨rfl, hb5⟩
          have O5 := Lib.hid (O6.out.below hb5)
          have D5 := Lib.hid (D6.out.more hb5)
          have S5 := Lib.hid (S6.out.below hb5)
          clear hb5
          go_wp2_with (at_builtin; refine append_one rfl _ _ _ rfl Try.underlying26 z O5.out rfl _ rfl rfl hl6 ?_; intro v' w7 hown7 hb7)
          have O7 := Lib.hid (hown7.lower (C := w.heap.size) (by omega))
          have D7 := Lib.hid (D0.out.trans (D5.out.moreB hb7))
          have S7 := Lib.hid (S5.out.lo (by omega) hb7)
          clear hown7 hb7
          go_wp2_with fail
          go_ret
          exact ⟨_, rfl, D7.out, S7.out, _, O7.out, by simp; omega⟩
        · have q0 : ((q : Int) == 0) = false := by simp; omega
          have q1 : ((q : Int) == 1) = false := by simp; omega
          have O7 := Lib.hid (O6.out.lower (C := w.heap.size) (by omega))
          have D7 := Lib.hid (D0.out.trans D6.out)
          go_wp2_with fail
          go_ret
          exact ⟨_, rfl, D7.out, S6.out, _, O7.out, by omega⟩
end Go.Proofs.Ytnhpdenneplapaa
