/-
  The walks of the reference's copies, trims and coefficients.
-/
import Derived.Test.YtenlaoadclfmaaaPlus
import Derived.Test.YtenlaoadclfmaaaStep
import Derived.Test.YtenlaoadclfmaaaCanon
namespace Go.Proofs.Ytenlaoadclfmaaa
open Go.RowKit
set_option linter.unusedVariables false

theorem OwnL.lower {w : World} {B C : Nat} {v : Value} {zs : List Int} (h : OwnL w B v zs) (hC : C ≤ B) : OwnL w C v zs := by
  obtain ⟨hB, hl, h2⟩ := h
  refine ⟨by omega, hl, ?_⟩
  rcases h2 with h2 | ⟨g, cap, cur, rfl, hg, r⟩
  · exact .inl h2
  · exact .inr ⟨g, cap, cur, rfl, by omega, r⟩
theorem l01Own_any {w : World} {a : Option Addr} {n cap : Nat} {xs : List Int} (hr : RowAt w a n xs) (hca : a = none → cap = 0) (hn : n ≤ 16000000) :
    Calls Try.prog 94 #[.slice a n cap] w fun e w' => ∃ v, e = .returned v ∧ Below w.heap.size w w' ∧ OwnL w' w.heap.size v xs := by
  have HR := Lib.hid hr
  have HCA := Lib.hid hca
  clear hr hca
  go_enter Try.func94, Try.ntmps94
  go_wp2_with (at_builtin; refine append_row rfl _ _ _ rfl Try.underlying24 (OwnL.empty w _ (Nat.le_refl _) _ rfl) rfl _ (HR.out.below' (below1 _ _)) rfl HCA.out (by simp; omega) ?_; intro v1 w1 hown1 hb1)
  simp only [List.nil_append] at hown1
  have HB := Lib.hid ((below1 w _).trans hb1)
  have HO := Lib.hid hown1
  clear hown1 hb1
  go_wp2_with fail
  go_ret
  exact ⟨_, rfl, HB.out, HO.out⟩
theorem l03At_any {w : World} {a : Option Addr} {n cap : Nat} {xs : List Int} (hr : RowAt w a n xs) (k : Nat) (hk : k ≤ 1000000000) :
    Calls Try.prog 108 #[.slice a n cap, .int .i64 k] w fun e w' => e = .returned (.int .i64 (gi xs k)) ∧ w = w' := by
  have HR := Lib.hid hr
  have hl := hr.len
  have hsm := hr.small
  clear hr
  by_cases h : k < n
  · obtain ⟨b1, o1, rfl, hb1, hcs⟩ := HR.out.at' (by omega)
    have hcell := hcs k h
    have h1 : ¬ ((k : Int) < 0) := by omega
    have h2 : ¬ ((n : Int) ≤ (k : Int)) := by omega
    clear hcs hl
    go_enter Try.func108, Try.ntmps108
    go_wp2_with fail
    go_ret
    exact ⟨rfl, rfl⟩
  · have h1 : ¬ ((k : Int) < 0) := by omega
    have h2 : (n : Int) ≤ (k : Int) := by omega
    have hf := Lib.hid (show gi xs k = 0 by unfold gi; rw [List.getD_eq_getElem?_getD, List.getElem?_eq_none (by omega)]; rfl)
    clear hl
    go_enter Try.func108, Try.ntmps108
    go_wp2_with fail
    go_ret
    exact ⟨ret_int hf.out.symm, rfl⟩
theorem l03Trim_any {w : World} {a : Option Addr} {n cap : Nat} {zs : List Int} (hr : RowAt w a n zs) (hcap : n ≤ cap) (hca : a = none → cap = 0) (hn : n ≤ 16000000) :
    Calls Try.prog 103 #[.slice a n cap] w fun e w' => ∃ v, e = .returned v ∧ Below w.heap.size w w' ∧ OwnL w' w.heap.size v (VF.trim zs) := by
  have HR := Lib.hid hr
  have hl := Lib.hid hr.len
  have hsm := hr.small
  have HCA := Lib.hid hca
  have hrt := Lib.hid (show ∀ k, k ≤ n → RowAt w a k (zs.take k) from fun k hk => ⟨by rw [List.length_take, hl.out]; omega, by omega, fun h0 => by
    obtain ⟨b, off, e, hb, hc⟩ := HR.out.at' (by omega)
    exact ⟨b, off, e, hb, fun j hj => by rw [gi_take hj]; exact hc j (by omega)⟩⟩)
  clear hr hca
  go_enter Try.func103, Try.ntmps103
  go_wp2_with fail
  go_loop [3] (fun t => ∃ k : Nat, k ≤ n ∧ t = .int .i64 k ∧ Hid (VF.tlen zs n = VF.tlen zs k)) (fun t => (intOf t).toNat)
  case atStart => exact ⟨n, by omega, rfl, rfl⟩
  case round =>
    obtain ⟨k, hk, rfl, ht⟩ := hrel
    by_cases h0 : 0 < k
    · obtain ⟨i, rfl⟩ : ∃ i, k = i + 1 := ⟨k - 1, by omega⟩
      have et : ((i + 1 : Nat) : Int) - 1 = (i : Int) := by omega
      have et2 : (0 : Int) < ((i + 1 : Nat) : Int) := by omega
      obtain ⟨b1, o1, rfl, hb1, hcs⟩ := HR.out.at' (by omega)
      have hcell := hcs i (by omega)
      have hi : i < n := by omega
      clear hcs
      by_cases hz : gi zs i = 0
      · have hzb : (gi zs i == 0) = true := by simp [hz]
        have ht2 := Lib.hid (ht.out.trans (tlen_succ_zero hz))
        clear hz
        generalize ((i + 1 : Nat) : Int) = I at *
        go_wp2_with fail
        go_round
        case rel => exact ⟨i, by omega, rfl, ht2⟩
        case measure => simp [intOf]; omega
      · have hzb : (gi zs i == 0) = false := by simp [hz]
        have ht2 := Lib.hid (ht.out.trans (tlen_succ_ne hz))
        have h3 : i + 1 ≤ n := hk
        have hf := Lib.hid (show VF.trim zs = zs.take (i + 1) by unfold VF.trim; rw [hl.out, ht2.out])
        clear hz
        go_wp2_with fail
        refine (l01Own_any (hrt.out (i + 1) hk) HCA.out (by omega)).mono ?_
        rintro e w2 ⟨v, rfl, hb2, ho2⟩
        have HB2 := Lib.hid hb2
        have HO2 := Lib.hid ho2
        clear hb2 ho2
        go_wp2_with fail
        go_ret
        exact ⟨_, rfl, HB2.out, by rw [hf.out]; exact HO2.out⟩
    · obtain rfl : k = 0 := by omega
      have hf := Lib.hid (show VF.trim zs = zs.take 0 by unfold VF.trim; rw [hl.out, ht.out]; rfl)
      go_wp2_with fail
      refine (l01Own_any (hrt.out 0 hk) HCA.out (by omega)).mono ?_
      rintro e w2 ⟨v, rfl, hb2, ho2⟩
      have HB2 := Lib.hid hb2
      have HO2 := Lib.hid ho2
      clear hb2 ho2
      go_wp2_with fail
      go_ret
      exact ⟨_, rfl, HB2.out, by rw [hf.out]; exact HO2.out⟩
def addC (F : FF) (p q : List Int) (m : Nat) : List Int := (List.range m).map fun k => F.add (gi p k) (gi q k)
theorem addC_length (F : FF) (p q : List Int) (m : Nat) : (addC F p q m).length = m := by unfold addC; simp
theorem addC_succ (F : FF) (p q : List Int) (m : Nat) : addC F p q (m + 1) = addC F p q m ++ [F.add (gi p m) (gi q m)] := by
  unfold addC; rw [List.range_succ, List.map_append]; rfl
theorem addC_els {V : VF} {p q : List Int} (h : VF.els V p) (hq : VF.els V q) (m : Nat) : VF.els V (addC V.F p q m) := fun z hz => by
  unfold addC at hz
  obtain ⟨k, _, rfl⟩ := List.mem_map.1 hz
  exact FF.add_el V.ok (h.getD k) (hq.getD k)
theorem addC_ps {V : VF} {p q : List Int} (h : VF.els V p) (hq : VF.els V q) : VF.ps V (addC V.F p q (max p.length q.length)) = VF.ps V p + VF.ps V q := PS.ext' fun n => by
  show VF.of V ((addC V.F p q (max p.length q.length)).getD n 0) = VF.of V (p.getD n 0) + VF.of V (q.getD n 0)
  rw [← VF.of_add (h.getD n) (hq.getD n)]
  congr 1
  by_cases hn : n < max p.length q.length
  · unfold addC; rw [List.getD_eq_getElem?_getD]; simp [hn, gi]
  · rw [List.getD_eq_getElem?_getD, List.getElem?_eq_none (by rw [addC_length]; omega), List.getD_eq_getElem?_getD, List.getElem?_eq_none (by omega), List.getD_eq_getElem?_getD, List.getElem?_eq_none (by omega)]
    exact (FF.add_zero' (FF.zero_el V.ok)).symm
theorem addC_plusL {V : VF} {p q : List Int} (h : VF.els V p) (hq : VF.els V q) : VF.trim (addC V.F p q (max p.length q.length)) = plusL V.F p q :=
  VF.isP_inj (VF.isP_trim (addC_els h hq _)) (plusL_isP h hq) (by rw [VF.ps_trim, addC_ps h hq, plusL_ps h hq])
theorem keep_cell {W W' : World} {a : Addr} {v : Value} (hb : Below W.heap.size W W') (h : W.cell? a = some v) : W'.cell? a = some v := (hb.cell (World.block_lt_of_cell? _ a h)).trans h
theorem Below.more {B : Nat} {W W1 W2 : World} (h : Below B W W1) (hB : B ≤ W.heap.size) (h2 : Below W1.heap.size W1 W2) : Below B W W2 := h.trans (h2.mono (by have := h.size; omega))
abbrev FTa : TypeId := 27
end Go.Proofs.Ytenlaoadclfmaaa
