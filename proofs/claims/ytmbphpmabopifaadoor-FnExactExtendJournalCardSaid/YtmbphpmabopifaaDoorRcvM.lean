/-
  The program's extending of journals.
-/
import Derived.Test.YtmbphpmabopifaaDoorRcvL
namespace Go.Proofs.YtmbphpmabopifaaDoor
open Go.RowKit
set_option linter.unusedVariables false

set_option maxHeartbeats 4000000 in
set_option maxRecDepth 100000 in
theorem implExtendJournal_any (S : List UInt8) (hS : S.length ≤ 4611686018427387903) (k i : Int) {w : World} (hG : Glob w) :
    Calls Tryd.prog 20 #[.string (str S), rV k i] w fun e w' => e = .returned (.tuple #[.string (str (extV S k i)), .int .i64 (extC S k i)]) ∧ Below w.heap.size w w' := by
  have hsz := str_size S
  have X0 := Lib.hid (boxR_new w k i RT)
  have B0 := Lib.hid (below1 w (.cells #[.int .i64 k, .int .i64 i] RT))
  have HG := Lib.hid (fun w' (hb : Below w.heap.size w w') => hG.below hb)
  clear hG
  go_enter Tryd.func20, Tryd.ntmps20
  have c0 := X0.out.c0
  have c1 := X0.out.c1
  go_wp2_with fail
  refine (implIsRecord_any k i _).mono ?_
  rintro e w2 ⟨rfl, hb2⟩
  have X2 := Lib.hid (X0.out.below hb2 X0.out.lt)
  have B2 := Lib.hid (B0.out.trans (hb2.mono B0.out.size))
  have hX2 : w.heap.size < w2.heap.size := X2.out.lt
  clear hb2 c0 c1 X0 B0
  cases hv : recB k i with
  | false =>
    have H1 := Lib.hid (show extV S k i = [] by unfold extV; simp [hv])
    have H2 := Lib.hid (show extC S k i = 1 by unfold extC; simp [hv])
    go_wp2_with fail
    go_ret2
    exact ⟨by rw [H1.out, H2.out]; rfl, B2.out⟩
  | true =>
  have HV := Lib.hid hv
  by_cases hB : S.length ≤ 20000
  rotate_left
  · have hB' : (20000 : Int) < (S.length : Int) := by omega
    have H1 := Lib.hid (show extV S k i = [] by unfold extV; simp [hB])
    have H2 := Lib.hid (show extC S k i = 3 by unfold extC; simp [hv, hB])
    clear hB hv
    go_wp2_with fail
    go_ret2
    exact ⟨by rw [H1.out, H2.out]; rfl, B2.out⟩
  have hB' : ¬ (20000 : Int) < (S.length : Int) := by omega
  have HB := Lib.hid hB
  have HR := Lib.hid (recovered_any S (by omega) (HG.out _ B2.out))
  clear hB hv
  go_wp2_with fail
  refine HR.out.mono ?_
  rintro e w3 ⟨⟨L, v, J, ja, m, jc, hp, rfl, ho, hJ, hj, hr, -, -⟩, hb3⟩
  obtain ⟨a, cap, rfl⟩ := ho.slice
  have X3 := Lib.hid (X2.out.below hb3 X2.out.lt)
  have B3 := Lib.hid (B2.out.trans (hb3.mono B2.out.size))
  have HL := Lib.hid hp.recL
  have hL3 := hp.1
  have hs0 := jouL_sum L L.length
  have hml := hr.len
  have hm1 : m ≤ 1000000 := by rw [← hml, hp.jl]; have := hp.jle; omega
  have c0 := X3.out.c0
  have c1 := X3.out.c1
  have hX3 : w.heap.size < w3.heap.size := X3.out.lt
  have hwJ : w.heap.size ≤ J := by omega
  have HJ := Lib.hid hj
  have HM := Lib.hid hr
  have HS2 := Lib.hid (show (jouL (L ++ [(k, i)]) (L.length + 1)).1 = (jouL L L.length).1 ++ (lineL (L.length : Int) (k, i) (jouL L L.length).2 ++ [10]) by rw [jouL_snoc])
  clear hp ho HR hb3 X2 B2 hml hj hr hJ
  by_cases hN : L.length = 300
  · have hN' : (L.length : Int) = 300 := by omega
    have H1 := Lib.hid (show extV S k i = [] by unfold extV; rw [HL.out]; simp [hN])
    have H2 := Lib.hid (show extC S k i = 3 by unfold extC; rw [HL.out]; simp [HV.out, hN])
    clear hN
    go_wp2_with fail
    go_ret2
    exact ⟨by rw [H1.out, H2.out]; rfl, B3.out⟩
  have hN' : ¬ (L.length : Int) = 300 := by omega
  have hN2 : ((L.length : Int) == 300) = false := by simp; omega
  have H1 := Lib.hid (show extV S k i = (jouL (L ++ [(k, i)]) (L.length + 1)).1 by unfold extV; rw [HL.out, if_pos ⟨HV.out, HB.out, by omega⟩])
  have H2 := Lib.hid (show extC S k i = 0 by unfold extC; rw [HL.out, if_pos HV.out, if_pos ⟨HB.out, by omega⟩])
  clear hN hN'
  go_wp2_with fail
  refine (add_any L.length (by omega) HV.out hs0.1 hs0.2 HJ.out HM.out hm1 (HG.out _ B3.out).tab).mono ?_
  rintro e w6 ⟨rfl, hk6, ja', m', cp', hj6, hr6, -⟩
  have B6 := Lib.hid (B3.out.trans (hk6.below hwJ B3.out.size))
  have e0 := hj6.c0
  have hJ6 := hj6.lt
  have hcv := run_str hr6
  rw [← HS2.out, ← H1.out] at hcv
  clear hj6 hr6 hk6 hs0 hN2
  go_wp2_with fail
  go_ret2
  exact ⟨by rw [H2.out]; rfl, B6.out⟩
end Go.Proofs.YtmbphpmabopifaaDoor
