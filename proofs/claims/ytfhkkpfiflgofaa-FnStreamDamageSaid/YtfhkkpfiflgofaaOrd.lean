/-
  The order of a stream, as the reference lists it.
-/
import Derived.Test.YtfhkkpfiflgofaaLay
import Derived.Test.YtfhkkpfiflgofaaRag
namespace Go.Proofs.Ytfhkkpfiflgofaa
open Go.RowKit
set_option linter.unusedVariables false

/-- Pair j of a list, as a row. -/
def prL (o : List (Nat × Nat)) (j : Nat) : List Int := [((o.getD j (0, 0)).1 : Int), ((o.getD j (0, 0)).2 : Int)]
theorem prL_snoc (o : List (Nat × Nat)) (x : Nat × Nat) (j : Nat) (hj : j < o.length + 1) : (if j = o.length then [(x.1 : Int), (x.2 : Int)] else prL o j) = prL (o ++ [x]) j := by
  unfold prL
  by_cases h : j = o.length
  · subst h
    rw [if_pos rfl, List.getD_eq_getElem?_getD, List.getElem?_append_right (Nat.le_refl _), Nat.sub_self]; rfl
  · rw [if_neg h, List.getD_eq_getElem?_getD, List.getD_eq_getElem?_getD, List.getElem?_append_left (by omega)]
theorem Rag.pair {w : World} {B : Nat} {v : Value} {m : Nat} {G cp : Nat → Nat} {o : List (Nat × Nat)} {x : Nat × Nat} {a b : Int} (ha : a = (x.1 : Int)) (hb : b = (x.2 : Int)) (hm : m = o.length) (h : Rag w B v (m + 1) (m + 1) G cp (fun t => if t = m then [a, b] else prL o t)) : Rag w B v (m + 1) (m + 1) G cp (prL (o ++ [x])) :=
  h.congr fun j hj => by subst ha hb hm; exact prL_snoc o x j hj
set_option maxHeartbeats 8000000 in
set_option maxRecDepth 100000 in
theorem l07Order_any (p pw g : Int) {D C N : Int} {q r n c : Nat} (hl : LN D C N q r n c) (htot : q * n + r + n * c ≤ 1500) (w : World) :
    Calls Try.prog 102 #[lV p pw g D C N] w fun e w' => ∃ v, e = .returned v ∧ Below w.heap.size w w' ∧ ∃ G cp, Rag w' w.heap.size v (ordS q r n c).length (ordS q r n c).length G cp (prL (ordS q r n c)) := by
  have L0 := Lib.hid (LB.new w p pw g D C N)
  have B0 := Lib.hid (below1 w (.cells #[.int .i64 p, .int .i64 pw, .int .i64 g, .int .i64 D, .int .i64 C, .int .i64 N] LT))
  have HL := Lib.hid hl
  have e1 := hl.quo
  have hq := hl.qle
  have hn1 := hl.n1
  have hn16 := hl.n16
  have hrn := hl.rn
  have hc64 := hl.c64
  have hn0 : ¬ N = 0 := by have := hl.hN; omega
  have HN := Lib.hid hl.hN
  have HC := Lib.hid hl.hC
  have w1' : IntKind.i64.wrap (q : Int) = (q : Int) := IntWalk.i64_in _ (by omega)
  have w2' : wrap64 (q : Int) = (q : Int) := IntWalk.wrap64_in _ (by omega)
  have HLD := Lib.hid (datS_length q r n (Nat.le_of_lt hrn))
  have HLR := Lib.hid (rowS_length q r n)
  have HLT := Lib.hid (ordS_length q r n c (Nat.le_of_lt hrn))
  have HTOT := Lib.hid htot
  have HSH := Lib.hid (shN_le q r n)
  clear hl htot
  go_enter Try.func102, Try.ntmps102
  generalize hw1 : w.alloc (.cells #[.int .i64 p, .int .i64 pw, .int .i64 g, .int .i64 D, .int .i64 C, .int .i64 N] LT) = w1 at *
  have R2 := Lib.hid (Rag.empty w1 w1.heap.size (Nat.le_refl _) w1.heap.size rfl (fun _ => 0) (fun _ => 0) (prL []))
  have L2 := Lib.hid (L0.out.below (below1 w1 (.cells #[] 26)) L0.out.lt)
  have B2 := Lib.hid (below1 w1 (.cells #[] 26))
  have hX1 : w.heap.size < w1.heap.size := L0.out.lt
  go_wp2_with fail
  (try rw [hw1])
  clear hw1
  generalize w1.alloc (.cells #[] 26) = w2 at *
  go_loopw [3, 4] (fun v t wr => ∃ (e m : Nat) (G cp : Nat → Nat), e ≤ q + 1 ∧ t = .int .i64 e ∧ Hid (m = (datP (shN q r n) n e).length) ∧ Hid (Rag wr w1.heap.size v m m G cp (prL (datP (shN q r n) n e))) ∧ Hid (LB wr w.heap.size p pw g D C N) ∧ Hid (Below w1.heap.size w1 wr)) (fun _ t _ => q + 1 - (intOf t).toNat)
  case atStart => exact ⟨0, 0, _, _, by omega, rfl, Lib.hid rfl, R2, L2, B2⟩
  case round =>
    clear R2 L2 B2
    obtain ⟨e, m, G, cp, he, rfl, hm, hR, hL, hB⟩ := hrel
    have k3 := hL.out.c3
    have k5 := hL.out.c5
    by_cases hlt : e ≤ q
    · have hei : (e : Int) ≤ (q : Int) := by omega
      obtain ⟨wo, rfl⟩ : ∃ wo : World, wo = wr := ⟨_, rfl⟩
      go_wp2_with fail
      clear k3 k5
      go_loopw [3, 5] (fun v t wr => ∃ (b m : Nat) (G cp : Nat → Nat), b ≤ n ∧ t = .int .i64 b ∧ Hid (m = (datP (shN q r n) n e ++ rowP (shN q r n) e b).length) ∧ Hid (Rag wr w1.heap.size v m m G cp (prL (datP (shN q r n) n e ++ rowP (shN q r n) e b))) ∧ Hid (LB wr w.heap.size p pw g D C N) ∧ Hid (Below w1.heap.size w1 wr)) (fun _ t _ => n - (intOf t).toNat)
      case atStart => exact ⟨0, m, G, cp, by omega, rfl, Lib.hid (by rw [rowP_zero, List.append_nil]; exact hm.out), Lib.hid (by rw [rowP_zero, List.append_nil]; exact hR.out), hL, hB⟩
      case round =>
        clear hR hL hB hm
        obtain ⟨b, m, G, cp, hb, rfl, hm, hR, hL, hB⟩ := hrel
        have k0 := hL.out.c0
        have k1 := hL.out.c1
        have k2 := hL.out.c2
        have k3 := hL.out.c3
        have k4 := hL.out.c4
        have k5 := hL.out.c5
        by_cases hbn : b < n
        · have hbi : (b : Int) < N := by rw [HN.out]; omega
          have hml : m ≤ 100000 := by
            have h1 := hm.out
            rw [List.length_append, HLD.out, HLR.out] at h1
            have h2 := HTOT.out
            have h3 : n * q = q * n := Nat.mul_comm _ _
            have h4 : n * e ≤ n * q := Nat.mul_le_mul_left _ hlt
            split at h1 <;> split at h1 <;> (try split at h1) <;> omega
          go_wp2_with fail
          refine (l07Size_any p pw g HL.out b _ rfl (by omega) _).mono ?_
          rintro e' w5 ⟨rfl, hb5⟩
          have R5 := Lib.hid (hR.out.below hb5)
          have L5 := Lib.hid (hL.out.below hb5 hL.out.lt)
          have B5 := Lib.hid (hB.out.trans (hb5.mono hB.out.size))
          have HRY := Lib.hid (fun h => rowP_yes (sh := shN q r n) (e := e) (k := b) h)
          have HRN := Lib.hid (fun h => rowP_no (sh := shN q r n) (e := e) (k := b) h)
          clear hb5 hR hL hB k0 k1 k2 k3 k4 k5
          obtain ⟨a, cv, rfl, hmc, hac⟩ := R5.out.shape
          by_cases hsh : e < shN q r n b
          · have hshi : (e : Int) < (shN q r n b : Int) := by omega
            have HSY := Lib.hid (HRY.out hsh)
            clear hsh
            go_wp2_with (at_builtin; refine append_pair rfl _ _ _ rfl Try.underlying55 R5.out (b : Int) (e : Int) rfl _ _ rfl rfl rfl hml ?_; intro v' w6 G6 cp6 hr6 hb6)
            have R6 := Lib.hid (Rag.pair (x := (b, e)) rfl rfl hm.out hr6)
            have L6 := Lib.hid (L5.out.below hb6 hX1)
            have B6 := Lib.hid (B5.out.trans hb6)
            clear hr6 hb6 R5 L5 B5
            go_wp2_with fail
            go_roundw
            case rel => exact ⟨b + 1, m + 1, G6, cp6, by omega, by go_num, Lib.hid (by rw [HSY.out, ← List.append_assoc, List.length_append, ← hm.out]; rfl), Lib.hid (by rw [HSY.out, ← List.append_assoc]; exact R6.out), L6, B6⟩
            case measure => simp [intOf]; omega
          · have hshi : ¬ (e : Int) < (shN q r n b : Int) := by omega
            have HSN := Lib.hid (HRN.out hsh)
            clear hsh
            go_wp2_with fail
            go_roundw
            case rel => exact ⟨b + 1, m, G, cp, by omega, by go_num, Lib.hid (by rw [HSN.out]; exact hm.out), Lib.hid (by rw [HSN.out]; exact R5.out), L5, B5⟩
            case measure => simp [intOf]; omega
        · obtain rfl : b = n := by omega
          have hbi : ¬ (b : Int) < N := by rw [HN.out]; omega
          have HDS := Lib.hid (datP_succ (shN q r b) b e)
          clear k0 k1 k2 k3 k4
          go_wp2_with fail
          go_roundw
          case rel => exact ⟨e + 1, m, G, cp, by omega, by go_num, Lib.hid (by rw [HDS.out]; exact hm.out), Lib.hid (by rw [HDS.out]; exact hR.out), hL, hB⟩
          case measure => simp [intOf]; omega
    · obtain rfl : e = q + 1 := by omega
      have hei : ¬ ((q + 1 : Nat) : Int) ≤ (q : Int) := by omega
      go_wp2_with fail
      clear k3 k5
      go_loopw [3, 6] (fun v t wr => ∃ (e m : Nat) (G cp : Nat → Nat), e ≤ c ∧ t = .int .i64 e ∧ Hid (m = (datP (shN q r n) n (q + 1) ++ chkP (shN q r n) n e).length) ∧ Hid (Rag wr w1.heap.size v m m G cp (prL (datP (shN q r n) n (q + 1) ++ chkP (shN q r n) n e))) ∧ Hid (LB wr w.heap.size p pw g D C N) ∧ Hid (Below w1.heap.size w1 wr)) (fun _ t _ => c - (intOf t).toNat)
      case atStart => exact ⟨0, m, G, cp, by omega, rfl, Lib.hid (by rw [chkP_zero, List.append_nil]; exact hm.out), Lib.hid (by rw [chkP_zero, List.append_nil]; exact hR.out), hL, hB⟩
      case round =>
        clear hR hL hB hm he
        obtain ⟨e, m, G, cp, he, rfl, hm, hR, hL, hB⟩ := hrel
        have k4 := hL.out.c4
        by_cases hlt2 : e < c
        · have hei : (e : Int) < C := by rw [HC.out]; omega
          obtain ⟨wo, rfl⟩ : ∃ wo : World, wo = wr := ⟨_, rfl⟩
          go_wp2_with fail
          clear k4
          go_loopw [3, 7] (fun v t wr => ∃ (b m : Nat) (G cp : Nat → Nat), b ≤ n ∧ t = .int .i64 b ∧ Hid (m = (datP (shN q r n) n (q + 1) ++ chkP (shN q r n) n e ++ chkR (shN q r n) e b).length) ∧ Hid (Rag wr w1.heap.size v m m G cp (prL (datP (shN q r n) n (q + 1) ++ chkP (shN q r n) n e ++ chkR (shN q r n) e b))) ∧ Hid (LB wr w.heap.size p pw g D C N) ∧ Hid (Below w1.heap.size w1 wr)) (fun _ t _ => n - (intOf t).toNat)
          case atStart => exact ⟨0, m, G, cp, by omega, rfl, Lib.hid (by rw [chkR_zero, List.append_nil]; exact hm.out), Lib.hid (by rw [chkR_zero, List.append_nil]; exact hR.out), hL, hB⟩
          case round =>
            clear hR hL hB hm
            obtain ⟨b, m, G, cp, hb, rfl, hm, hR, hL, hB⟩ := hrel
            have k0 := hL.out.c0
            have k1 := hL.out.c1
            have k2 := hL.out.c2
            have k3 := hL.out.c3
            have k4 := hL.out.c4
            have k5 := hL.out.c5
            by_cases hbn : b < n
            · have hbi : (b : Int) < N := by rw [HN.out]; omega
              have hml : m ≤ 100000 := by
                have h1 := hm.out
                rw [List.length_append, List.length_append, HLD.out, if_neg (by omega), chkP_length, chkR_length] at h1
                have h2 := HTOT.out
                have h3 : n * q = q * n := Nat.mul_comm _ _
                have h4 : n * e ≤ n * c := Nat.mul_le_mul_left _ (by omega)
                omega
              go_wp2_with fail
              refine (l07Size_any p pw g HL.out b _ rfl (by omega) _).mono ?_
              rintro e' w5 ⟨rfl, hb5⟩
              have R5 := Lib.hid (hR.out.below hb5)
              have L5 := Lib.hid (hL.out.below hb5 hL.out.lt)
              have B5 := Lib.hid (hB.out.trans (hb5.mono hB.out.size))
              have HRY := Lib.hid (chkR_succ (shN q r n) e b)
              obtain ⟨hs1, hs2⟩ := HSH.out b
              obtain ⟨S, hS⟩ : ∃ S, shN q r n b = S := ⟨_, rfl⟩
              rw [hS] at hs1 hs2 HRY ⊢
              clear hb5 hR hL hB k0 k1 k2 k3 k4 k5 hS
              obtain ⟨a, cv, rfl, hmc, hac⟩ := R5.out.shape
              have y1 : -1000000 ≤ (S : Int) + (e : Int) ∧ (S : Int) + (e : Int) ≤ 1000000 := by clear w1' w2'; omega
              obtain ⟨v1, v2⟩ := wraps y1
              clear y1
              go_wp2_with (at_builtin; refine append_pair rfl _ _ _ rfl Try.underlying55 R5.out (b : Int) ((S : Int) + (e : Int)) rfl _ _ rfl rfl rfl hml ?_; intro v' w6 G6 cp6 hr6 hb6)
              have R6 := Lib.hid (Rag.pair (x := (b, S + e)) rfl (by simp) hm.out hr6)
              have L6 := Lib.hid (L5.out.below hb6 hX1)
              have B6 := Lib.hid (B5.out.trans hb6)
              clear hr6 hb6 R5 L5 B5
              go_wp2_with fail
              go_roundw
              case rel => exact ⟨b + 1, m + 1, G6, cp6, by omega, by go_num, Lib.hid (by rw [HRY.out, ← List.append_assoc, List.length_append, ← hm.out]; rfl), Lib.hid (by rw [HRY.out, ← List.append_assoc]; exact R6.out), L6, B6⟩
              case measure => simp [intOf]; omega
            · obtain rfl : b = n := by omega
              have hbi : ¬ (b : Int) < N := by rw [HN.out]; omega
              have HDS := Lib.hid (chkP_succ (shN q r b) b e)
              clear k0 k1 k2 k3 k4
              go_wp2_with fail
              go_roundw
              case rel => exact ⟨e + 1, m, G, cp, by omega, by go_num, Lib.hid (by rw [HDS.out, ← List.append_assoc]; exact hm.out), Lib.hid (by rw [HDS.out, ← List.append_assoc]; exact hR.out), hL, hB⟩
              case measure => simp [intOf]; omega
        · obtain rfl : e = c := by omega
          have hei : ¬ (e : Int) < C := by rw [HC.out]; omega
          have BF := Lib.hid (B0.out.trans (hB.out.mono B0.out.size))
          have RF := Lib.hid (hR.out.lower (C := w.heap.size) (by omega))
          go_wp2_with fail
          go_ret
          exact ⟨_, rfl, BF.out, G, cp, by
            have h1 := RF.out
            rw [hm.out] at h1
            exact h1⟩
end Go.Proofs.Ytfhkkpfiflgofaa
