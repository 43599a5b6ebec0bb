/-
  Distances: WordDistance, IsWithin, and the plain law of the distance of code words.
-/
import Derived.Test.YthbiieflmmnfcaaDecU
import Derived.Test.YthbiieflmmnfcaaEncLaw
import Derived.Test.YthbiieflmmnfcaaDraw
namespace Go.Proofs.Ythbiieflmmnfcaa
open Go.RowKit
set_option linter.unusedVariables false

theorem difLx_yes {word o : List Int} {k : Nat} (h : (gi o k != gi word k) = true) : (difL word o (k + 1)).length = (difL word o k).length + 1 := by
  unfold difL
  rw [filtL_yes (show (!(gi o k == gi word k)) = true from h), List.length_append]; rfl
theorem difLx_no {word o : List Int} {k : Nat} (h : (gi o k != gi word k) = false) : (difL word o (k + 1)).length = (difL word o k).length := by
  unfold difL
  rw [filtL_no (show (!(gi o k == gi word k)) = false from h)]
theorem implWordDistance_any (w : World) {a a' : Option Addr} {n cap cap' : Nat} {xs ys : List Int} (hr : RowAt w a n xs) (hr' : RowAt w a' n ys) (hn : n ≤ 255) :
    Calls Try.prog 29 #[.slice a n cap, .slice a' n cap'] w fun e w' => e = .returned (.tuple #[.int .i64 ((difL ys xs n).length : Int), .int .i64 0]) ∧ Below w.heap.size w w' := by
  have HR := Lib.hid hr
  have HR' := Lib.hid hr'
  clear hr hr'
  have hn' : ¬ (255 : Int) < (n : Int) := by omega
  go_enter Try.func29, Try.ntmps29
  go_wp2_with fail
  go_loopw [6, 24] (fun u t wr => ∃ (k : Nat) (m : Nat), k ≤ n ∧ t = .int .i64 k ∧ u = .int .i64 m ∧ m ≤ k ∧ Hid (m = (difL ys xs k).length) ∧ wr = w) (fun _ t _ => n - (intOf t).toNat)
  case atStart => exact ⟨0, 0, by omega, rfl, rfl, by omega, Lib.hid rfl, rfl⟩
  case round =>
    obtain ⟨k, m, hk, rfl, rfl, hmk, hm, rfl⟩ := hrel
    by_cases hlt : k < n
    · obtain ⟨b1, o1, e1, _, hcs⟩ := HR.out.at' (by omega)
      obtain ⟨b2, o2, e2, _, hcs'⟩ := HR'.out.at' (by omega)
      subst e1 e2
      have hc1 := hcs k hlt
      have hc2 := hcs' k hlt
      have HY := Lib.hid (difLx_yes (word := ys) (o := xs) (k := k))
      have HN := Lib.hid (difLx_no (word := ys) (o := xs) (k := k))
      clear hcs hcs'
      generalize gi xs k = x at *
      generalize gi ys k = y at *
      cases hb : (x != y)
      · have HN2 := Lib.hid (show m = (difL ys xs (k + 1)).length by rw [HN.out hb]; exact hm.out)
        go_wp2_with fail
        go_roundw
        case rel => exact ⟨k + 1, m, by omega, by go_num, rfl, by omega, HN2, by first | rfl | trivial⟩
        case measure => simp [intOf]; omega
      · have HN2 := Lib.hid (show m + 1 = (difL ys xs (k + 1)).length by rw [HY.out hb, ← hm.out])
        go_wp2_with fail
        go_roundw
        case rel => exact ⟨k + 1, m + 1, by omega, by go_num, by go_num, by omega, HN2, by first | rfl | trivial⟩
        case measure => simp [intOf]; omega
    · obtain rfl : k = n := by omega
      go_wp2_with fail
      go_ret2
      exact ⟨by rw [← hm.out]; rfl, Below.refl _ _⟩
theorem implIsWithin_any (p pw g l c : Int) (hv : validC p pw g l c = true) (x y : Int) (hx0 : 0 ≤ x) (hx1 : x ≤ c) (hy0 : 0 ≤ y) (hy1 : y ≤ 1000) (w : World) :
    Calls Try.prog 30 #[cV p pw g l c, .int .i64 x, .int .i64 y] w fun e w' => e = .returned (.bool (decide (2 * x + y ≤ c))) ∧ Below w.heap.size w w' := by
  obtain ⟨_, hc1, hc2, hcl, hl1, _⟩ := validC_iff hv
  have HC := Lib.hid (coder_any p pw g l c (w.alloc (.cells #[.int .i64 p, .int .i64 pw, .int .i64 g, .int .i64 l, .int .i64 c] CT)))
  have HB0 := Lib.hid (below1 w (.cells #[.int .i64 p, .int .i64 pw, .int .i64 g, .int .i64 l, .int .i64 c] CT))
  rw [hv] at HC
  go_enter Try.func30, Try.ntmps30
  go_wp2_with fail
  refine HC.out.mono ?_
  rintro e w1 ⟨v, rfl, hb1, hcod⟩
  obtain ⟨b, rfl, _, hcod⟩ := hcod trivial
  have HB := Lib.hid (HB0.out.trans (hb1.mono HB0.out.size))
  have hck := hcod.chk
  have i1 : inR x 0 c = true := by unfold inR; simp; omega
  clear hb1 hcod HC HB0 hv
  go_wp2_with fail
  refine (inRange_any _ _ _ _).mono ?_
  rintro e w2 ⟨rfl, rfl⟩
  rw [i1]
  go_wp2_with fail
  refine (inRange_any _ _ _ _).mono ?_
  rintro e w3 ⟨rfl, rfl⟩
  by_cases hy : y ≤ c
  · have i2 : inR y 0 c = true := by unfold inR; simp; omega
    rw [i2]
    go_wp2_with fail
    go_ret
    exact ⟨rfl, HB.out⟩
  · have i2 : inR y 0 c = false := by unfold inR; simp; omega
    have hd : decide (2 * x + y ≤ c) = false := by simp; omega
    rw [i2]
    go_wp2_with fail
    go_ret
    exact ⟨by rw [hd]; rfl, HB.out⟩
/-- The plain law: P the message, k an index of it, its element there turned. -/
theorem dist_plain {p pw g l c : Int} {P : List Int} {k : Nat} (h : encC p pw g l c P = 0) (hk : k < P.length) :
    validC p pw g l c = true ∧ 1 ≤ c ∧ c ≤ 64 ∧ encC p pw g l c (P.set k ((gi P k + 1).tmod (sizeR p pw g))) = 0 ∧ (encWR p pw g l c P).length = l.toNat ∧ (encWR p pw g l c (P.set k ((gi P k + 1).tmod (sizeR p pw g)))).length = l.toNat ∧ l ≤ 255 ∧
    c < ((difL (encWR p pw g l c (P.set k ((gi P k + 1).tmod (sizeR p pw g)))) (encWR p pw g l c P) l.toNat).length : Int) ∧ 0 ≤ gi P k ∧ gi P k < sizeR p pw g ∧ sizeR p pw g ≤ 1021 := by
  have hv : validC p pw g l c = true := by
    cases hv : validC p pw g l c
    · rw [(enc_bad hv).1] at h; cases h
    · rfl
  have h2 : (P.length : Int) = l - c ∧ allB (ffOf p pw g) P = true := by
    unfold encC at h
    rw [if_pos hv] at h
    split at h
    · assumption
    · cases h
  obtain ⟨hvB, hc1, hc2, hcl, hl1, hlz⟩ := validC_iff hv
  have hsz : sizeR p pw g = (ffOf p pw g).size := by unfold sizeR; rw [if_pos hvB]
  have hszb := (ffOf_ok hvB).hi
  have hszl := (ffOf_ok hvB).lo
  obtain ⟨V, hs, hz, f0, f1⟩ := enc_ok hv h2.1 h2.2
  have hgk : (ffOf p pw g).el (gi P k) := by rw [← hs.sf.hV]; exact hz.getD k
  obtain ⟨g0, g1⟩ : 0 ≤ gi P k ∧ gi P k < (ffOf p pw g).size := hgk
  rw [hsz]
  obtain ⟨y, hy⟩ : ∃ y, (gi P k + 1).tmod (ffOf p pw g).size = y := ⟨_, rfl⟩
  have hy1 : 0 ≤ y ∧ y < (ffOf p pw g).size ∧ y ≠ gi P k := by
    rw [Int.tmod_eq_emod_of_nonneg (by omega)] at hy
    rcases Int.lt_or_le (gi P k + 1) (ffOf p pw g).size with h3 | h3
    · rw [Int.emod_eq_of_lt (by omega) h3] at hy; omega
    · have : gi P k + 1 = (ffOf p pw g).size := by omega
      rw [this, Int.emod_self] at hy; omega
  rw [hy]
  have hse : VF.els V (P.set k y) := hz.set k (by rw [hs.sf.hV]; exact ⟨hy1.1, hy1.2.1⟩)
  have hsa : allB (ffOf p pw g) (P.set k y) = true := allB_iff.2 (by rw [← hs.sf.hV]; exact hse)
  obtain ⟨V', hs', hz', f0', f1'⟩ := enc_ok hv (show ((P.set k y).length : Int) = l - c by rw [List.length_set]; exact h2.1) hsa
  have hVV : V' = V := by
    have e1 := hs'.sf.hV
    have e2 := hs.sf.hV
    cases V with
    | mk F ok => cases V' with
      | mk F' ok' =>
        have : F' = F := by rw [show F' = _ from e1, show F = _ from e2]
        subst this; rfl
  subst hVV
  have hm : P.length + c.toNat = l.toNat := by omega
  have hm' : (P.set k y).length + c.toNat = l.toNat := by rw [List.length_set]; exact hm
  have l1 : (encL V' l.toNat c.toNat P).length = l.toNat := by rw [encL_length]; exact hm
  have l2 : (encL V' l.toNat c.toNat (P.set k y)).length = l.toNat := by rw [encL_length]; exact hm'
  refine ⟨hv, by omega, by omega, f0', by rw [f1, l1], by rw [f1', l2], hl1, ?_, g0, g1, by omega⟩
  rw [f1, f1']
  have hd := code_dist (V := V') (L := l.toNat) (c := c.toNat) (a := encL V' l.toNat c.toNat (P.set k y)) (b := encL V' l.toNat c.toNat P) (by rw [hs.sf.hV]; omega) (by omega) (encL_els hm' hse) (encL_els hm hz) l2 l1
    (fun j hj => by have := enc_syn (V := V') hm' hse j hj; rw [l2] at this; exact this) (fun j hj => by have := enc_syn (V := V') hm hz j hj; rw [l1] at this; exact this) (fun e => by
      have h5 : (encL V' l.toNat c.toNat (P.set k y)).take P.length = (encL V' l.toNat c.toNat P).take P.length := by rw [e]
      unfold encL at h5
      rw [List.take_left] at h5
      rw [show P.length = (P.set k y).length by simp, List.take_left] at h5
      have h6 : gi (P.set k y) k = gi P k := by rw [h5]
      rw [gi_set_self _ _ _ hk] at h6
      exact hy1.2.2 h6)
  omega
end Go.Proofs.Ythbiieflmmnfcaa
