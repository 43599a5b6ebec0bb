/-
  The walks of the draws of messages and words.
-/
import Derived.Test.YthbiieflmmnfcaaDrawC2
namespace Go.Proofs.Ythbiieflmmnfcaa
open Go.RowKit
set_option linter.unusedVariables false

theorem OwnL.rowF {w : World} {B n cp : Nat} {a : Option Addr} {zs : List Int} (h : OwnL w B (.slice a n cp) zs) : RowAt w a n zs := by
  obtain ⟨a', c', e, _, ho⟩ := h.shape
  simp only [Value.slice.injEq] at e
  obtain ⟨rfl, rfl, rfl⟩ := e
  exact ho.row
set_option maxHeartbeats 8000000 in
set_option maxRecDepth 100000 in
theorem l04DrawMessage_any {w : World} {s : Nat} (hs : Src w s) (p pw g l c : Int) (hl1 : -2000 ≤ l) (hl2 : l ≤ 2000) (hc1 : -2000 ≤ c) (hc2 : c ≤ 2000) :
    Calls Try.prog 83 #[.pointer (some ⟨s, 0, none⟩), cV p pw g l c] w fun e w' => ∃ v, e = .returned v ∧ Dr s w w' ∧ Src w' s ∧ ∃ zs, OwnL w' w.heap.size v zs ∧ zs.length ≤ 400 := by
  have hsz := hs.lt
  have F0 := Lib.hid (CB.new w p pw g l c)
  have B0 := below1 w (.cells #[.int .i64 p, .int .i64 pw, .int .i64 g, .int .i64 l, .int .i64 c] CT)
  have HS := Lib.hid (hs.below B0)
  have D0 := Lib.hid (Dr.of (s := s) B0)
  clear hs B0
  have hsz2 := sizeR_bd p pw g
  have HSZ := Lib.hid (fun W => specFieldSize_any p pw g W)
  generalize sizeR p pw g = sz at *
  go_enter Try.func83, Try.ntmps83
  have hB1 : w.heap.size < (w.alloc (.cells #[.int .i64 p, .int .i64 pw, .int .i64 g, .int .i64 l, .int .i64 c] CT)).heap.size := F0.out.lt
  generalize hw1 : w.alloc (.cells #[.int .i64 p, .int .i64 pw, .int .i64 g, .int .i64 l, .int .i64 c] CT) = w1 at *
  have F3 := Lib.hid (F0.out.below (below1 w1 (.cells #[] 2)) F0.out.lt)
  have S3 := Lib.hid (HS.out.alloc (.cells #[] 2))
  have D3 := Lib.hid ((Dr.refl s w1).alloc (.cells #[] 2))
  have HO3 := Lib.hid (OwnL.empty w1 w1.heap.size (Nat.le_refl _) w1.heap.size rfl)
  have c3 := F3.out.c3
  have c4 := F3.out.c4
  have hw1' := hw1
  go_wp2_with fail
  (try rw [hw1])
  clear hw1 hw1'
  generalize w1.alloc (.cells #[] 2) = w3 at *
  clear c3 c4 HS
  obtain ⟨n0, hn0⟩ : ∃ n0, l - c = n0 := ⟨_, rfl⟩
  have hnb : -4000 ≤ n0 ∧ n0 ≤ 4000 := by omega
  rw [hn0]
  clear hn0
  go_loopw [5, 6] (fun a t wr => ∃ (n : Int) (zs : List Int), -4000 ≤ n ∧ n ≤ 4000 ∧ t = .int .i64 n ∧ Hid (zs.length = 0 ∨ (0 ≤ n ∧ (zs.length : Int) + n ≤ 300)) ∧ Hid (OwnL wr w1.heap.size a zs) ∧ Hid (CB wr w.heap.size p pw g l c) ∧ Hid (Dr s w1 wr) ∧ Hid (Src wr s)) (fun _ t _ => (intOf t).toNat)
  case atStart => exact ⟨n0, [], hnb.1, hnb.2, rfl, Lib.hid (.inl rfl), HO3, F3, D3, S3⟩
  case round =>
    clear HO3 F3 D3 S3 hnb
    obtain ⟨n, zs, hn1, hn2, rfl, hlen, ho, hf, hd, hsr⟩ := hrel
    obtain ⟨a, cp, rfl, hcp, hca, hoa⟩ := ho.out.cap
    clear hca hoa
    have x0 := hf.out.c0
    have x1 := hf.out.c1
    have x2 := hf.out.c2
    by_cases hgo : 0 < n ∧ n ≤ 300
    · obtain ⟨hg1, hg2⟩ := hgo
      have HLN := Lib.hid (show (zs.length : Int) + n ≤ 300 by rcases hlen.out with h | h <;> omega)
      have hl2 : zs.length ≤ 16777216 := by have := HLN.out; omega
      go_wp2_with fail
      refine (HSZ.out _).mono ?_
      rintro e w5 ⟨rfl, hb5⟩
      have O5 := Lib.hid (ho.out.below hb5)
      have F5 := Lib.hid (hf.out.below hb5 hf.out.lt)
      have D5 := Lib.hid (hd.out.more hb5)
      have S5 := Lib.hid (hsr.out.below hb5)
      clear hb5 ho hf hd hsr x0 x1 x2
      go_wp2_with fail
      all_goals
        refine (l01Next_any S5.out _ (by omega)).mono ?_
        rintro e w6 ⟨x, rfl, _, hd6, hs6⟩
        have O6 := Lib.hid (O5.out.dr hd6 (by omega))
        have F6 := Lib.hid (F5.out.dr hd6 (by omega))
        have D6 := Lib.hid (D5.out.trans hd6)
        have S6 := Lib.hid hs6
        clear hd6 hs6 O5 F5 D5 S5
        go_wp2_with (at_builtin; refine append_one rfl _ _ _ rfl Try.underlying26 x O6.out rfl _ rfl rfl hl2 ?_; intro v' w7 hown7 hb7)
        have O7 := Lib.hid hown7
        have F7 := Lib.hid (F6.out.below hb7 hB1)
        have D7 := Lib.hid (D6.out.moreB hb7)
        have S7 := Lib.hid (S6.out.lo (by omega) hb7)
        clear hown7 hb7 O6 F6 D6 S6
        go_wp2_with fail
        go_roundw
        case rel => exact ⟨n - 1, zs ++ [x], by omega, by omega, rfl, Lib.hid (.inr ⟨by omega, by have := HLN.out; simp; omega⟩), O7, F7, D7, S7⟩
        case measure => simp [intOf]; omega
    · have hl2 : zs.length ≤ 300 := by rcases hlen.out with h | h <;> omega
      have hl6 : zs.length ≤ 16777216 := by omega
      have hgs : n ≤ 0 ∨ (0 < n ∧ ¬ n ≤ 300) := by omega
      clear hgo
      rcases hgs with hg | ⟨hg, hg'⟩
      all_goals
        go_wp2_with fail
        refine (next_any hsr.out 40 (by omega) (by omega)).mono ?_
        rintro e w6 ⟨q, rfl, hq, hd6, hs6⟩
        have O6 := Lib.hid (ho.out.dr hd6 (by omega))
        have F6 := Lib.hid (hf.out.dr hd6 (by omega))
        have D6 := Lib.hid (hd.out.trans hd6)
        have S6 := Lib.hid hs6
        clear hd6 hs6 ho hf hd hsr x0 x1 x2
        have x0 := F6.out.c0
        have x1 := F6.out.c1
        have x2 := F6.out.c2
        rcases (show q = 0 ∨ q = 1 ∨ 2 ≤ q by omega) with rfl | rfl | hq2
        · go_wp2_with (at_builtin; refine append_one rfl _ _ _ rfl Try.underlying26 0 O6.out rfl _ rfl rfl hl6 ?_; intro v' w7 hown7 hb7)
          have O7 := Lib.hid (hown7.lower (C := w.heap.size) (by omega))
          have D7 := Lib.hid (D0.out.trans (D6.out.moreB hb7))
          have S7 := Lib.hid (S6.out.lo (by omega) hb7)
          clear hown7 hb7
          go_wp2_with fail
          go_ret
          exact ⟨_, rfl, D7.out, S7.out, _, O7.out, by simp; omega⟩
        · by_cases hz0 : 0 < zs.length
          · have hz0' : (0 : Int) < (zs.length : Int) := by omega
            go_wp2_with fail
            refine (HSZ.out _).mono ?_
            rintro e w8 ⟨rfl, hb8⟩
            have O8 := Lib.hid (O6.out.below hb8)
            have D8 := Lib.hid (D6.out.more hb8)
            have S8 := Lib.hid (S6.out.below hb8)
            clear hb8 x0 x1 x2
            go_wp2_with fail
            refine (pickN_any S8.out [-1, sz] 2 2 (by omega) (by omega) (by simp)).mono ?_
            rintro e w9 ⟨q, rfl, hq, hc, hd9, hs9, hz9⟩
            have hcq := hc q (by simpa using hq)
            generalize gi [-1, sz] q = y at *
            have O9 := O8.out.dr hd9 (show s < w1.heap.size by omega)
            obtain ⟨g1, cp1, cur, e1, hg1, hg2, hg3, -, hoa⟩ := O9.form hz0
            simp only [Value.slice.injEq] at e1
            obtain ⟨rfl, -, rfl⟩ := e1
            have fzz : w9.frozen? ⟨g1, 0, none⟩ = false := by unfold World.frozen?; rw [hg3]; simp
            obtain ⟨b', o', e2, _, hcs⟩ := hoa.row.at' hz0
            cases e2
            have hcell := hcs 0 hz0
            rw [Nat.zero_add] at hcell
            have OZ := Lib.hid ((O9.set (k := 0) hz0 y).lower (C := w.heap.size) (by omega))
            have D9 := Lib.hid (D0.out.trans ((D8.out.trans hd9).moreB ((Below.refl w1.heap.size w9).setCell (p := ⟨g1, 0, none⟩) hg1 (.int .i64 y))))
            have S9 := Lib.hid (hs9.other (B := g1) (show s < g1 by omega) 0 (.int .i64 y))
            clear hc hd9 hs9 O9 hg3 hoa hcs
            go_wp2_with fail
            go_ret
            exact ⟨_, rfl, D9.out, S9.out, _, OZ.out, by simp; omega⟩
          · have hz0' : ¬ (0 : Int) < (zs.length : Int) := by omega
            have O7 := Lib.hid (O6.out.lower (C := w.heap.size) (by omega))
            have D7 := Lib.hid (D0.out.trans D6.out)
            go_wp2_with fail
            go_ret
            exact ⟨_, rfl, D7.out, S6.out, _, O7.out, by omega⟩
        · have q0 : ((q : Int) == 0) = false := by simp; omega
          have q1 : ((q : Int) == 1) = false := by simp; omega
          have O7 := Lib.hid (O6.out.lower (C := w.heap.size) (by omega))
          have D7 := Lib.hid (D0.out.trans D6.out)
          go_wp2_with fail
          go_ret
          exact ⟨_, rfl, D7.out, S6.out, _, O7.out, by omega⟩
end Go.Proofs.Ythbiieflmmnfcaa
