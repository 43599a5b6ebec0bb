/-
  The walk of plus.
-/
import Derived.Test.YtenlaoadclfmaaaTrim
import Derived.Test.YtenlaoadclfmaaaCanon
namespace Go.Proofs.Ytenlaoadclfmaaa
open Go.RowKit
set_option linter.unusedVariables false

def padTo (l : List Int) (m : Nat) : List Int := l ++ List.replicate (m - l.length) 0
def addTo (F : FF) (l q : List Int) : Nat → List Int
  | 0 => l
  | k + 1 => (addTo F l q k).set k (F.add (gi (addTo F l q k) k) (gi q k))
theorem addTo_length (F : FF) (l q : List Int) (k : Nat) : (addTo F l q k).length = l.length := by
  induction k with
  | zero => rfl
  | succ k ih => unfold addTo; rw [List.length_set, ih]
theorem padTo_length (l : List Int) (m : Nat) : (padTo l m).length = max l.length m := by
  unfold padTo; rw [List.length_append, List.length_replicate]; omega
/-- The sum of two lists, as the program reckons it. -/
def plusL (F : FF) (p q : List Int) : List Int := VF.trim (addTo F (padTo p q.length) q q.length)
theorem padTo_els {V : VF} {l : List Int} (h : VF.els V l) (m : Nat) : VF.els V (padTo l m) := VF.els_append.2 ⟨h, VF.els_replicate _⟩
theorem addTo_els {V : VF} {l q : List Int} (h : VF.els V l) (hq : VF.els V q) (k : Nat) : VF.els V (addTo V.F l q k) := by
  induction k with
  | zero => exact h
  | succ k ih => exact ih.set _ (FF.add_el V.ok (ih.getD _) (hq.getD _))
theorem ps_padTo {V : VF} (l : List Int) (m : Nat) : VF.ps V (padTo l m) = VF.ps V l := by
  unfold padTo; rw [VF.ps_append, VF.ps_replicate]; grind
theorem ps_addTo {V : VF} {l q : List Int} (h : VF.els V l) (hq : VF.els V q) (hl : q.length ≤ l.length) (k : Nat) (hk : k ≤ q.length) : VF.ps V (addTo V.F l q k) = VF.ps V l + VF.ps V (q.take k) := by
  induction k with
  | zero => rw [List.take_zero, VF.ps_nil]; show VF.ps V l = _; grind
  | succ k ih =>
    show VF.ps V ((addTo V.F l q k).set k (V.F.add ((addTo V.F l q k).getD k 0) (q.getD k 0))) = _
    rw [VF.ps_set_add (addTo_els h hq k) k (by rw [addTo_length]; omega) (hq.getD k), ih (by omega), VF.ps_take_succ q k (by omega)]
    grind
theorem plusL_ps {V : VF} {p q : List Int} (h : VF.els V p) (hq : VF.els V q) : VF.ps V (plusL V.F p q) = VF.ps V p + VF.ps V q := by
  unfold plusL
  rw [VF.ps_trim, ps_addTo (padTo_els h _) hq (by rw [padTo_length]; omega) _ (Nat.le_refl _), ps_padTo, List.take_length]
theorem plusL_isP {V : VF} {p q : List Int} (h : VF.els V p) (hq : VF.els V q) : VF.isP V (plusL V.F p q) := VF.isP_trim (addTo_els (padTo_els h _) hq _)
theorem plusL_length (F : FF) (p q : List Int) : (plusL F p q).length ≤ max p.length q.length := by
  unfold plusL
  rw [VF.trim_length]
  have := VF.tlen_le (addTo F (padTo p q.length) q q.length) (addTo F (padTo p q.length) q q.length).length
  rw [addTo_length, padTo_length] at this
  rw [addTo_length, padTo_length]
  exact this
theorem OwnAt.take {w : World} {B n : Nat} {a : Option Addr} {zs : List Int} (h : OwnAt w B a n zs) {m : Nat} (hm : m ≤ n) : OwnAt w B a m (zs.take m) :=
  ⟨by rw [List.length_take, h.len]; omega, by have := h.small; omega, fun h0 => by
    obtain ⟨b, cur, rfl, hB, hb, hs, hc⟩ := h.at' (by omega)
    exact ⟨b, cur, rfl, hB, hb, by omega, fun j hj => by rw [gi_take hj]; exact hc j (by omega)⟩⟩
set_option maxHeartbeats 1000000 in
theorem plus_any {V : VF} {w : World} {b : Nat} (hcal : Cal w b V.F) {a : Option Addr} {n cap : Nat} {xs : List Int} (hr : RowAt w a n xs) (hca : a = none → cap = 0) (hn : n ≤ 4096)
    {A : Option Addr} {capA : Nat} {ys : List Int} (hrows : RowsAt w A 1 [ys]) (hm : ys.length ≤ 4096) (hx : VF.els V xs) (hy : VF.els V ys) :
    Calls Try.prog 58 #[.slice a n cap, .pointer (some ⟨b, 0, none⟩), .slice A 1 capA] w fun e w' => ∃ v, e = .returned v ∧ Below w.heap.size w w' ∧ OwnL w' w.heap.size v (VF.lst V (VF.ps V xs + VF.ps V ys)) := by
  have HR := Lib.hid hr
  have HROWS := Lib.hid hrows
  have HC := Lib.hid hcal
  have HX := Lib.hid hx
  have HY := Lib.hid hy
  have hl := Lib.hid hr.len
  have HCA := Lib.hid hca
  clear hr hrows hcal hx hy hca
  go_enter Try.func58, Try.ntmps58
  go_wp2_with (at_builtin; refine append_row rfl _ _ _ rfl Try.underlying67 (OwnL.nil w _ (Nat.le_refl _)) rfl _ HR.out rfl HCA.out (by simp; omega) ?_; intro v1 w1 hown1 hb1)
  simp only [List.nil_append] at hown1
  have hsz := hb1.size
  have HB1 := Lib.hid hb1
  clear hb1
  go_loopw [7, 16] (fun o t wr => ∃ k : Nat, k ≤ 1 ∧ t = .int .i64 k ∧ OwnL wr w.heap.size o (if k = 0 then xs else addTo V.F (padTo xs ys.length) ys ys.length) ∧ Below w.heap.size w wr) (fun _ t _ => (1 - intOf t).toNat)
  case atStart => exact ⟨0, by omega, rfl, hown1, HB1.out⟩
  case round =>
    obtain ⟨k, hk, rfl, hown, hbel⟩ := hrel
    clear hown1
    have HB := Lib.hid hbel
    clear hbel
    by_cases hlt : k < 1
    · obtain rfl : k = 0 := by omega
      rw [if_pos rfl] at hown
      have HOWN := Lib.hid hown
      obtain ⟨bA, oA, rfl, hbA, hcs⟩ := HROWS.out.at' (by omega)
      obtain ⟨ay, ny, cy, hcell0, hrow⟩ := hcs 0 (by omega)
      have hcell : wr.cell? ⟨bA, oA, none⟩ = some (.slice ay ny cy) := (HB.out.cell (p := ⟨bA, oA, none⟩) hbA).trans hcell0
      have HRW := Lib.hid (show RowAt w ay ny ys from hrow)
      have hly : ys.length = ny := HRW.out.len
      have e0 : ((0 : Nat) : Int) = 0 := rfl
      rw [e0]
      clear hcs hcell0 hrow hown
      go_wp2_with fail
      go_loopw [7] (fun o wq => ∃ j : Nat, j ≤ ny - n ∧ OwnL wq w.heap.size o (xs ++ List.replicate j 0) ∧ Below w.heap.size w wq) (fun o _ => (match o with | .slice _ l _ => ny - l | _ => 0))
      case atStart => exact ⟨0, by omega, by simpa using HOWN.out, HB.out⟩
      case round =>
        obtain ⟨j, hj, hown, hbel⟩ := hrel
        have HB2 := Lib.hid hbel
        have HO2 := Lib.hid hown
        have hL : (xs ++ List.replicate j 0).length = n + j := by rw [List.length_append, List.length_replicate, hl.out]
        obtain ⟨ao, co, rfl, hno, _⟩ := hown.shape
        rw [hL] at *
        clear hbel
        by_cases h1 : n + j < ny
        · have hll : (xs ++ List.replicate j 0).length ≤ 16777216 := by rw [List.length_append, List.length_replicate, hl.out]; omega
          have hrep := Lib.hid (show xs ++ List.replicate (j + 1) 0 = (xs ++ List.replicate j 0) ++ [0] by rw [List.replicate_succ', List.append_assoc])
          have h1' : ((n + j : Nat) : Int) < (ny : Int) := by omega
          clear hL
          go_wp2_with (at_builtin; refine append_one rfl _ _ _ rfl Try.underlying67 0 HO2.out rfl _ rfl rfl hll ?_; intro v' w5 hown5 hb5)
          have HO5 := Lib.hid hown5
          have HB5 := Lib.hid (HB2.out.trans hb5)
          have hlen5 := Lib.hid (show ((xs ++ List.replicate j 0) ++ [0]).length = n + j + 1 by simp [hl.out]; omega)
          obtain ⟨a5, c5, e5, _⟩ := hown5.shape
          rw [hlen5.out] at e5
          clear hown5 hb5
          subst e5
          go_wp2_with fail
          exact ⟨⟨j + 1, by omega, by rw [hrep.out]; exact HO5.out, HB5.out⟩, by show ny - (n + j + 1) < ny - (n + j); omega⟩
        · have h1' : ¬ (((n + j : Nat) : Int) < (ny : Int)) := by omega
          have hpad := Lib.hid (show xs ++ List.replicate j 0 = padTo xs ys.length by unfold padTo; rw [hl.out, hly, show ny - n = j by omega])
          clear hL
          go_wp2_with fail
          have HO3 := Lib.hid (show OwnL wr w.heap.size (.slice ao (n + j) co) (addTo V.F (padTo xs ys.length) ys 0) by rw [← hpad.out]; exact HO2.out)
          have HPL := Lib.hid (show ∀ k, (addTo V.F (padTo xs ys.length) ys k).length = n + j from fun k => by rw [addTo_length, ← hpad.out, List.length_append, List.length_replicate, hl.out])
          go_loopw [30] (fun t wq => ∃ k : Nat, k ≤ ny ∧ t = .int .i64 k ∧ OwnL wq w.heap.size (.slice ao (n + j) co) (addTo V.F (padTo xs ys.length) ys k) ∧ Below w.heap.size w wq) (fun t _ => (ny - intOf t).toNat)
          case atStart => exact ⟨0, by omega, rfl, HO3.out, HB2.out⟩
          case round =>
            obtain ⟨k, hk2, rfl, hown, hbel⟩ := hrel
            have HB4 := Lib.hid hbel
            have HO4 := Lib.hid hown
            clear hbel
            by_cases h2 : k < ny
            · obtain ⟨g, cap', cur, e1, hg, hgs, hh, hcap, hat⟩ := hown.form (by rw [HPL.out]; omega)
              simp only [Value.slice.injEq] at e1
              obtain ⟨rfl, e9, rfl⟩ := e1
              clear e9
              rw [HPL.out] at hat
              obtain ⟨hp, hf, _⟩ := hat.place (i := k) (by omega)
              have hrow := HRW.out.below' HB4.out
              obtain ⟨b1, o1, rfl, hb1, hcs⟩ := hrow.at' (by omega)
              have hcy := hcs k h2
              have hc4 := HC.out.below HB4.out
              have hkj : k < n + j := by omega
              have HA := Lib.hid (add_any hc4 (gi (addTo V.F (padTo xs ys.length) ys k) k) (gi ys k) ((addTo_els (padTo_els HX.out _) HY.out k).getD k) (HY.out.getD k))
              have HO5 := Lib.hid (HO4.out.set (k := k) (by rw [HPL.out]; omega) (V.F.add (gi (addTo V.F (padTo xs ys.length) ys k) k) (gi ys k)))
              have HB5 := Lib.hid (HB4.out.setCell (p := ⟨g, k, none⟩) hg (.int .i64 (V.F.add (gi (addTo V.F (padTo xs ys.length) ys k) k) (gi ys k))))
              have hst := Lib.hid (show addTo V.F (padTo xs ys.length) ys (k + 1) = (addTo V.F (padTo xs ys.length) ys k).set k (V.F.add (gi (addTo V.F (padTo xs ys.length) ys k) k) (gi ys k)) from rfl)
              clear hcs hrow hc4 hat hown hh
              generalize addTo V.F (padTo xs ys.length) ys k = r at *
              go_wp2_with fail
              refine HA.out.mono ?_
              rintro e w6 ⟨rfl, rfl⟩
              go_wp2_with fail
              go_roundw
              case rel => exact ⟨k + 1, by omega, by go_num, by rw [hst.out]; exact HO5.out, HB5.out⟩
              case measure => simp [intOf]; omega
            · obtain rfl : k = ny := by omega
              go_wp2_with fail
              go_roundw
              case rel => exact ⟨1, by omega, by go_num, by rw [if_neg (by omega), hly]; have := HO4.out; rw [hly] at this; exact this, HB4.out⟩
              case measure => simp [intOf]
    · obtain rfl : k = 1 := by omega
      rw [if_neg (by omega)] at hown
      have HO := Lib.hid hown
      have hlen := Lib.hid (show (addTo V.F (padTo xs ys.length) ys ys.length).length = max n ys.length by rw [addTo_length, padTo_length, hl.out])
      obtain ⟨ao, co, rfl, hle, hno, hat⟩ := hown.cap
      have HT := Lib.hid (trim_any (cap := co) hat.row hle)
      have hfin := Lib.hid (show OwnL wr w.heap.size (.slice ao (VF.tlen (addTo V.F (padTo xs ys.length) ys ys.length) (addTo V.F (padTo xs ys.length) ys ys.length).length) co) (VF.lst V (VF.ps V xs + VF.ps V ys)) by
        rw [VF.lst_of (plusL_isP HX.out HY.out) (plusL_ps HX.out HY.out)]
        unfold plusL VF.trim
        exact hown.takeN (VF.tlen_le _ _))
      clear hown hat hle
      go_wp2_with fail
      refine HT.out.mono ?_
      rintro e w7 ⟨rfl, rfl⟩
      go_wp2_with fail
      go_ret
      exact ⟨_, rfl, HB.out, hfin.out⟩
end Go.Proofs.Ytenlaoadclfmaaa
