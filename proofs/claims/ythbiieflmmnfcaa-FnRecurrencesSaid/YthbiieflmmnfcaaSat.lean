/-
  The walks of the two IsSatisfied.
-/
import Derived.Test.YthbiieflmmnfcaaCodes
import Derived.Test.YthbiieflmmnfcaaLanes
namespace Go.Proofs.Ythbiieflmmnfcaa
open Go.RowKit
set_option linter.unusedVariables false

/-- The sum of the first i products of a polynomial and a list that ends at k. -/
def sumTo (F : FF) (cs zs : List Int) (k : Nat) : Nat → Int
  | 0 => 0
  | i + 1 => F.add (sumTo F cs zs k i) (F.mul (gi cs i) (gi zs (k - i)))
theorem sumTo_el {F : FF} (h : F.ok) (cs zs : List Int) (k i : Nat) : F.el (sumTo F cs zs k i) := by
  cases i with
  | zero => exact FF.zero_el h
  | succ i => exact FF.add_el h (sumTo_el h cs zs k i) (FF.mul_el h _ _)
open Classical in
/-- Whether all sums from L on are 0. -/
noncomputable def satB (p pw g : Int) (zs cs : List Int) (L : Int) : Bool :=
  decide (seqC p pw g zs = 0 ∧ polyB (ffOf p pw g) cs = true ∧ cs.length ≠ 0 ∧ gi cs 0 = 1 ∧ inR L 0 64 = true ∧ (cs.length : Int) ≤ L + 1 ∧
    ∀ k : Nat, L ≤ k → k < zs.length → sumTo (ffOf p pw g) cs zs k cs.length = 0)
open Classical in
theorem satB_no {p pw g : Int} {zs cs : List Int} {L : Int} (k : Nat) (h1 : L ≤ k) (h2 : k < zs.length) (n' : Nat) (h3 : cs.length = n') (h : sumTo (ffOf p pw g) cs zs k n' ≠ 0) : satB p pw g zs cs L = false := by
  unfold satB
  rw [decide_eq_false]
  rintro ⟨_, _, _, _, _, _, h4⟩
  have := h4 k h1 h2
  rw [h3] at this
  exact h this
open Classical in
theorem satB_yes {p pw g : Int} {zs cs : List Int} {L : Int} (hq : seqC p pw g zs = 0) (hp : polyB (ffOf p pw g) cs = true) (n' : Nat) (h3 : cs.length = n') (h0 : n' ≠ 0) (h1 : gi cs 0 = 1) (h2 : inR L 0 64 = true) (h4 : (n' : Int) ≤ L + 1)
    (h : ∀ k : Nat, L ≤ k → k < zs.length → sumTo (ffOf p pw g) cs zs k n' = 0) : satB p pw g zs cs L = true := by
  unfold satB
  subst h3
  rw [decide_eq_true]
  exact ⟨hq, hp, h0, h1, h2, h4, h⟩
set_option maxHeartbeats 1000000 in
theorem l06Sum_any (p pw g : Int) (hv : validB p pw g = true) {w : World} {a a' : Option Addr} {n cap n' cap' : Nat} {zs cs : List Int} (hr : RowAt w a n zs) (hr' : RowAt w a' n' cs)
    (hel : ∀ z ∈ zs, (ffOf p pw g).el z) (hel' : ∀ z ∈ cs, (ffOf p pw g).el z) (k : Nat) (hk : k < n) (hn' : n' ≤ 512) (m : Nat) (hm : m = min n' (k + 1)) :
    Calls Try.prog 103 #[fV p pw g, .slice a n cap, .slice a' n' cap', .int .i64 k] w fun e w' => e = .returned (.int .i64 (sumTo (ffOf p pw g) cs zs k m)) ∧ Below w.heap.size w w' := by
  have hok := Lib.hid (ffOf_ok hv)
  have HM := Lib.hid (fun W v x (h : (ffOf p pw g).el v) (hx : (ffOf p pw g).el x) => l02Mul_any p pw g hv v x h hx W)
  have HA := Lib.hid (fun W v z (h : (ffOf p pw g).el v) (h2 : (ffOf p pw g).el z) => l02Add_any p pw g hv v z h h2 W)
  have HR := Lib.hid hr
  have HR' := Lib.hid hr'
  have HE := Lib.hid hel
  have HE' := Lib.hid hel'
  have hl := Lib.hid hr.len
  have hl' := Lib.hid hr'.len
  have HMM := Lib.hid hm
  have hsm := hr.small
  clear hr hr' hel hel' hv hm
  generalize ffOf p pw g = F at *
  go_enter Try.func103, Try.ntmps103
  go_wp2_with fail
  go_loopw [9, 10] (fun o t wr => ∃ i : Nat, i ≤ m ∧ t = .int .i64 i ∧ o = .int .i64 (sumTo F cs zs k i) ∧ Below w.heap.size w wr ∧ Box wr w.heap.size p pw g) (fun _ t _ => (m - intOf t).toNat)
  case atStart => exact ⟨0, by omega, rfl, rfl, below1 _ _, box_new _ _ _ _ _⟩
  case round =>
    obtain ⟨i, hi, rfl, rfl, hbel, hbox⟩ := hrel
    have hrow := HR.out.below' hbel
    have hrow' := HR'.out.below' hbel
    have HB := Lib.hid hbel
    have HBX := Lib.hid hbox
    obtain ⟨hlt, c0, c1, c2⟩ := hbox
    have hmm := HMM.out
    clear hbel
    by_cases h0 : i < m
    · have h1 : i < n' := by omega
      have h2 : i ≤ k := by omega
      have e1 : (k : Int) - (i : Int) = ((k - i : Nat) : Int) := by omega
      have h3 : k - i < n := by omega
      have h4 : IntKind.i64.wrap ((k : Int) - (i : Int)) = ((k - i : Nat) : Int) := by rw [e1]; exact IntWalk.i64_in _ (by omega)
      have h5 : IntKind.i64.wrap ((k - i : Nat) : Int) = ((k - i : Nat) : Int) := IntWalk.i64_in _ (by omega)
      obtain ⟨b1, o1, rfl, hb1, hcs⟩ := hrow.at' (by omega)
      have hcell := hcs (k - i) (by omega)
      obtain ⟨b2, o2, rfl, hb2', hcs'⟩ := hrow'.at' (by omega)
      have hcell' := hcs' i (by omega)
      have hstep := Lib.hid (show sumTo F cs zs k (i + 1) = F.add (sumTo F cs zs k i) (F.mul (gi cs i) (gi zs (k - i))) from rfl)
      have hel1 := Lib.hid (sumTo_el hok.out cs zs k i)
      have hel2 := Lib.hid (el_gi hok.out HE.out (k - i))
      have hel3 := Lib.hid (el_gi hok.out HE'.out i)
      have hel4 := Lib.hid (FF.mul_el hok.out (gi cs i) (gi zs (k - i)))
      clear hcs hcs' hrow hrow' hmm
      generalize sumTo F cs zs k i = v at *
      generalize gi zs (k - i) = z at *
      generalize gi cs i = y at *
      generalize k - i = kk at *
      go_wp2_with fail
      go_region_held3 (fun w' => w'.cell? ⟨b1, o1 + kk, none⟩ = some (.int .i64 z) ∧ w'.cell? ⟨b2, o2 + i, none⟩ = some (.int .i64 y) ∧ w'.cell? ⟨w.heap.size, 0, none⟩ = some (.int .i64 p) ∧ w'.cell? ⟨w.heap.size, 1, none⟩ = some (.int .i64 pw) ∧ w'.cell? ⟨w.heap.size, 2, none⟩ = some (.int .i64 g))
        (first | go_keep | ((try (dsimp only)); go_split_ands; refine ⟨?_, ?_, ?_, ?_, ?_⟩; all_goals (first | go_keep | (rw [hb2.cell (by have h9 := hb1'.size; simp at h9 ⊢; omega)]; assumption) | (rw [hb1'.cell (by simp; omega)]; assumption))))
        (first | (go_at_call 163; refine (HM.out _ y z hel3.out hel2.out).mono ?_; rintro e w1 ⟨rfl, hb1'⟩) | (go_at_call 117; refine (HA.out _ v _ hel1.out hel4.out).mono ?_; rintro e w2 ⟨rfl, hb2⟩))
      all_goals
        have hb1 : Below wr.heap.size wr w1 := (Below.refl _ wr).drew.trans hb1'
        have hs1 := hb1.size
        have hbb : Below wr.heap.size wr w2 := hb1.trans (hb2.mono hs1)
        have hB2 := Lib.hid (HB.out.trans (hbb.mono (by omega)))
        have hX2 := Lib.hid (HBX.out.below hbb hlt)
        clear hb1' hb2 hb1 hbb
        go_wp2_with fail
        go_roundw
        case rel => exact ⟨i + 1, by omega, by go_num, by rw [hstep.out], hB2.out, hX2.out⟩
        case measure => simp [intOf]; omega
    · obtain rfl : i = m := by omega
      clear hrow hrow' c0 c1 c2
      by_cases h1 : i < n'
      · have h2 : ¬ (i ≤ k) := by omega
        clear hmm
        go_wp2_with fail
        go_ret
        exact ⟨rfl, HB.out⟩
      · clear hmm
        go_wp2_with fail
        go_ret
        exact ⟨rfl, HB.out⟩
theorem implIsSatisfied_any (p pw g : Int) (L : Int) (w : World) {a a' : Option Addr} {n cap n' cap' : Nat} {zs cs : List Int} (hr : RowAt w a n zs) (hr' : RowAt w a' n' cs) :
    Calls Try.prog 42 #[fV p pw g, .slice a n cap, .slice a' n' cap', .int .i64 L] w fun e w' => e = .returned (.bool (satB p pw g zs cs L)) ∧ Below w.heap.size w w' := by
  have HR := Lib.hid hr
  have HR' := Lib.hid hr'
  have hl := Lib.hid hr.len
  have hl' := Lib.hid hr'.len
  have HR1 := Lib.hid (hr.below' (below1 w (.cells #[.int .i64 p, .int .i64 pw, .int .i64 g] FT')))
  clear hr hr'
  go_enter Try.func42, Try.ntmps42
  go_wp2_with fail
  refine (sequence_any p pw g _ HR1.out).mono ?_
  rintro e w1 ⟨v, rfl, hb1, hcal⟩
  have HCAL := Lib.hid hcal
  have HB1 := Lib.hid ((below1 _ _).trans (hb1.mono (by simp)))
  clear hb1 hcal
  by_cases hq : seqC p pw g zs = 0
  rotate_left
  · have hqn : (seqC p pw g zs != 0) = true := by simp [hq]
    have hf := Lib.hid (show satB p pw g zs cs L = false by unfold satB; simp [hq])
    clear hq
    go_wp2_with fail
    go_ret
    exact ⟨ret_bool hf.out.symm, HB1.out⟩
  have hqn : (seqC p pw g zs != 0) = false := by simp [hq]
  obtain ⟨hv, _, hel⟩ := seqC_zero hq
  obtain ⟨b, rfl, hbb, hcal⟩ := HCAL.out hq
  have HC := Lib.hid hcal
  have HQ := Lib.hid hq
  have HV := Lib.hid hv
  have HE := Lib.hid hel
  have HR2' := Lib.hid (HR'.out.below' HB1.out)
  clear hq hel hv hcal
  cases hpo : polyB (ffOf p pw g) cs
  · have hf := Lib.hid (show satB p pw g zs cs L = false by unfold satB; simp [hpo])
    go_wp2_with fail
    refine (isOver_any HC.out HR2'.out).mono ?_
    rintro e w2 ⟨rfl, rfl⟩
    rw [hpo]
    go_wp2_with fail
    go_ret
    exact ⟨ret_bool hf.out.symm, HB1.out⟩
  go_wp2_with fail
  refine (isOver_any HC.out HR2'.out).mono ?_
  rintro e w2 ⟨rfl, rfl⟩
  rw [hpo]
  obtain ⟨hcl, hel', _⟩ := polyB_iff hpo
  have HE' := Lib.hid hel'
  have hcn : n' ≤ 512 := by rw [← hl'.out]; exact hcl
  have HPO := Lib.hid hpo
  clear hpo hel' hcl
  by_cases h0 : n' = 0
  · subst h0
    have hf := Lib.hid (show satB p pw g zs cs L = false by unfold satB; simp [hl'.out])
    go_wp2_with fail
    go_ret
    exact ⟨ret_bool hf.out.symm, HB1.out⟩
  have hn0 : ((n' : Int) == 0) = false := by simp; omega
  obtain ⟨b2, o2, rfl, _, hcs'⟩ := HR2'.out.at' (by omega)
  have hcell0 := hcs' 0 (by omega)
  rw [Nat.add_zero] at hcell0
  by_cases h1 : gi cs 0 = 1
  rotate_left
  · have hf := Lib.hid (show satB p pw g zs cs L = false by unfold satB; simp [h1])
    have h1n : (gi cs 0 != 1) = true := by simp [h1]
    clear hcs'
    go_wp2_with fail
    go_ret
    exact ⟨ret_bool hf.out.symm, HB1.out⟩
  have h1n : (gi cs 0 != 1) = false := by simp [h1]
  have H1 := Lib.hid h1
  clear hcs' h1
  cases h2 : inR L 0 64
  · have hf := Lib.hid (show satB p pw g zs cs L = false by unfold satB; simp [h2])
    go_wp2_with fail
    refine (inRange_any L 0 64 _).mono ?_
    rintro e w3 ⟨rfl, rfl⟩
    rw [h2]
    go_wp2_with fail
    go_ret
    exact ⟨ret_bool hf.out.symm, HB1.out⟩
  go_wp2_with fail
  refine (inRange_any L 0 64 _).mono ?_
  rintro e w3 ⟨rfl, rfl⟩
  rw [h2]
  obtain ⟨hL0, hL1⟩ := inR_iff.1 h2
  have H2 := Lib.hid h2
  clear h2 h1n hcell0
  by_cases h3 : (n' : Int) ≤ L + 1
  rotate_left
  · have hf := Lib.hid (show satB p pw g zs cs L = false by unfold satB; simp [hl'.out, h3])
    have h3n : L + 1 < (n' : Int) := by omega
    go_wp2_with fail
    go_ret
    exact ⟨ret_bool hf.out.symm, HB1.out⟩
  have h3n : ¬ (L + 1 < (n' : Int)) := by omega
  obtain ⟨K, rfl⟩ : ∃ K : Nat, L = (K : Int) := ⟨L.toNat, by omega⟩
  have hnz : n ≤ 64 := by have := hl.out; omega
  go_wp2_with fail
  go_loopw [11] (fun t wr => ∃ k : Nat, K ≤ k ∧ k ≤ 64 ∧ t = .int .i64 k ∧ Drew w1 wr ∧ (∀ j : Nat, K ≤ j → j < k → sumTo (ffOf p pw g) cs zs j n' = 0)) (fun t _ => (65 - intOf t).toNat)
  case atStart => exact ⟨K, by omega, by omega, rfl, Drew.refl _, fun j h1 h2 => by omega⟩
  case round =>
    obtain ⟨k, hk, hk2, rfl, hd, hall⟩ := hrel
    have HD := Lib.hid hd
    have HALL := Lib.hid hall
    clear hd hall
    by_cases hlt : k < n
    · go_wp2_with fail
      go_loopw [12, 61] (fun o t wq => ∃ i : Nat, i ≤ n' ∧ t = .int .i64 i ∧ o = .int .i64 (sumTo (ffOf p pw g) cs zs k i) ∧ Drew w1 wq) (fun _ t _ => (n' - intOf t).toNat)
      case atStart => exact ⟨0, by omega, rfl, rfl, HD.out⟩
      case round =>
        obtain ⟨i, hi, rfl, rfl, hd⟩ := hrel
        have HD1 := Lib.hid hd
        clear hd
        by_cases h4 : i < n'
        · have h5 : k - i < n := by omega
          have hcal := HD1.out.cal HC.out
          have hrow := HD1.out.row (HR.out.below' HB1.out)
          have hrow' := HD1.out.row HR2'.out
          have e1 : (k : Int) - (i : Int) = ((k - i : Nat) : Int) := by omega
          have h6 : IntKind.i64.wrap ((k : Int) - (i : Int)) = ((k - i : Nat) : Int) := by rw [e1]; exact IntWalk.i64_in _ (by omega)
          have h7 : IntKind.i64.wrap ((k - i : Nat) : Int) = ((k - i : Nat) : Int) := IntWalk.i64_in _ (by omega)
          have hok := ffOf_ok HV.out
          obtain ⟨b1, o1, rfl, hb1, hcs⟩ := hrow.at' (by omega)
          have hcell := hcs (k - i) (by omega)
          obtain ⟨b3, o3, hbo, _, hcs'⟩ := hrow'.at' (by omega)
          obtain ⟨rfl, rfl⟩ : b3 = b2 ∧ o3 = o2 := by simp at hbo; exact ⟨hbo.1.symm, hbo.2.symm⟩
          have hcell' := hcs' i (by omega)
          have hstep := Lib.hid (show sumTo (ffOf p pw g) cs zs k (i + 1) = (ffOf p pw g).add (sumTo (ffOf p pw g) cs zs k i) ((ffOf p pw g).mul (gi cs i) (gi zs (k - i))) from rfl)
          have hel1 := sumTo_el hok cs zs k i
          have hel2 := el_gi hok HE.out (k - i)
          have hel3 := el_gi hok HE'.out i
          have hel4 := FF.mul_el hok (gi cs i) (gi zs (k - i))
          have HM0 := Lib.hid (mul_any hcal _ _ hel3 hel2)
          have HA := Lib.hid (fun m => add_any (hcal.drewN m) _ _ hel1 hel4)
          clear hcs hcs' hrow hrow' hbo hel1 hel2 hel3 hel4 hok hcal
          generalize sumTo (ffOf p pw g) cs zs k i = v at *
          generalize gi zs (k - i) = z at *
          generalize gi cs i = y at *
          generalize k - i = kk at *
          go_wp2_with fail
          refine HM0.out.mono ?_
          rintro e w5 ⟨rfl, q, rfl⟩
          go_wp2_with fail
          refine (HA.out q).mono ?_
          rintro e w6 ⟨rfl, rfl⟩
          go_wp2_with fail
          go_roundw
          case rel => exact ⟨i + 1, by omega, by go_num, by rw [hstep.out], HD1.out.more q⟩
          case measure => simp [intOf]; omega
        · obtain rfl : i = n' := by omega
          by_cases hs : sumTo (ffOf p pw g) cs zs k i = 0
          · have hsn : (sumTo (ffOf p pw g) cs zs k i != 0) = false := by simp [hs]
            have HS := Lib.hid hs
            clear hs
            go_wp2_with fail
            go_roundw
            case rel => exact ⟨k + 1, by omega, by omega, by go_num, HD1.out, fun j h1 h2 => by
              rcases Nat.lt_or_ge j k with h | h
              · exact HALL.out j h1 h
              · obtain rfl : j = k := by omega
                exact HS.out⟩
            case measure => simp [intOf]; omega
          · have hsn : (sumTo (ffOf p pw g) cs zs k i != 0) = true := by simp [hs]
            have hf := Lib.hid (show satB p pw g zs cs (K : Int) = false from satB_no k (by omega) (by rw [hl.out]; exact hlt) i hl'.out hs)
            clear hs
            have HBF := Lib.hid (HB1.out.trans (HD1.out.below _))
            go_wp2_with fail
            go_ret
            exact ⟨ret_bool hf.out.symm, HBF.out⟩
    · have hf := Lib.hid (show satB p pw g zs cs (K : Int) = true from satB_yes HQ.out HPO.out n' hl'.out h0 H1.out H2.out h3 fun j h1 h2 => HALL.out j (by omega) (by have := hl.out; omega))
      have HBF := Lib.hid (HB1.out.trans (HD.out.below _))
      go_wp2_with fail
      go_ret
      exact ⟨ret_bool hf.out.symm, HBF.out⟩
end Go.Proofs.Ythbiieflmmnfcaa
