/-
  The program's recovering, checking and extending of journals.
-/
import Derived.Test.YtmbphpmabopifaaDoorRcvK
import Derived.BigQuiet
namespace Go.Proofs.YtmbphpmabopifaaDoor
open Go.RowKit
set_option linter.unusedVariables false

set_option maxHeartbeats 4000000 in
set_option maxRecDepth 100000 in
theorem implRecoverJournal_any (S : List UInt8) (hS : S.length ≤ 4611686018427387903) {w : World} (hG : Glob w) :
    Calls Tryd.prog 22 #[.string (str S)] w fun e w' => RcoE S w w' e ∧ Below w.heap.size w w' := by
  have hsz := str_size S
  by_cases hB : S.length ≤ 20000
  rotate_left
  · have hB' : (20000 : Int) < (S.length : Int) := by omega
    have HB := Lib.hid hB
    clear hB
    go_enter Tryd.func22, Tryd.ntmps22
    go_wp2_with fail
    go_ret3
    exact ⟨⟨_, by rw [tornV_b HB.out, bigC_b HB.out]; rfl, by rw [rcvL_b HB.out]; exact OwnR.nil _ _ (Nat.le_refl _)⟩, Below.refl _ _⟩
  · have hB' : ¬ (20000 : Int) < (S.length : Int) := by omega
    have HB := Lib.hid hB
    have HR := Lib.hid (recovered_any S (by omega) hG)
    clear hB
    go_enter Tryd.func22, Tryd.ntmps22
    go_wp2_with fail
    refine HR.out.mono ?_
    rintro e w1 ⟨⟨L, v, J, a, m, cap, hp, rfl, ho, hJ, hj, hr, -, -⟩, hb⟩
    have hjl := hp.jl
    have hle := hp.jle
    have hm := hr.len
    rw [hjl] at hm
    subst hm
    have c0 := hj.c0
    have hJl := hj.lt
    have HP := Lib.hid hp
    have HO := Lib.hid ho
    clear hjl hp ho HR hj hr
    have HT := Lib.hid (tornV_s HB.out)
    generalize jlS S = j at *
    go_wp2_with fail
    go_quiet (fail)
    go_wp2_with fail
    go_ret3
    exact ⟨⟨_, by rw [HT.out, bigC_s HB.out]; rfl, by rw [rcvL_s HB.out, HP.out.recL]; exact HO.out.below (below_drewN (Below.refl _ _) _)⟩, below_drewN hb _⟩
set_option maxHeartbeats 4000000 in
set_option maxRecDepth 100000 in
theorem implJournalSum_any (S : List UInt8) (hS : S.length ≤ 4611686018427387903) {w : World} (hG : Glob w) :
    Calls Tryd.prog 17 #[.string (str S)] w fun e w' => e = .returned (.tuple #[.int .i64 (sumV S), .int .i64 (bigC S)]) ∧ Below w.heap.size w w' := by
  have hsz := str_size S
  by_cases hB : S.length ≤ 20000
  rotate_left
  · have hB' : (20000 : Int) < (S.length : Int) := by omega
    have HB := Lib.hid hB
    clear hB
    go_enter Tryd.func17, Tryd.ntmps17
    go_wp2_with fail
    go_ret2
    exact ⟨by rw [sumV_b HB.out, bigC_b HB.out]; rfl, Below.refl _ _⟩
  · have hB' : ¬ (20000 : Int) < (S.length : Int) := by omega
    have HB := Lib.hid hB
    have HR := Lib.hid (recovered_any S (by omega) hG)
    clear hB
    go_enter Tryd.func17, Tryd.ntmps17
    go_wp2_with fail
    refine HR.out.mono ?_
    rintro e w1 ⟨⟨L, v, J, a, m, cap, hp, rfl, ho, hJ, hj, hr, -, -⟩, hb⟩
    have hjs := hp.js
    rw [hjs] at hj
    have c2 := hj.c2
    have hJl := hj.lt
    clear hjs hp ho HR hj hr
    have HT := Lib.hid (sumV_s HB.out)
    generalize jsS S = j at *
    go_wp2_with fail
    go_ret2
    exact ⟨by rw [HT.out, bigC_s HB.out]; rfl, hb⟩
set_option maxHeartbeats 4000000 in
set_option maxRecDepth 100000 in
theorem implIsJournal_any (S : List UInt8) (hS : S.length ≤ 4611686018427387903) {w : World} (hG : Glob w) :
    Calls Tryd.prog 15 #[.string (str S)] w fun e w' => e = .returned (.bool (isjV S)) ∧ Below w.heap.size w w' := by
  have hsz := str_size S
  by_cases hB : S.length ≤ 20000
  rotate_left
  · have hB' : (20000 : Int) < (S.length : Int) := by omega
    have HB := Lib.hid hB
    clear hB
    go_enter Tryd.func15, Tryd.ntmps15
    go_wp2_with fail
    go_ret
    exact ⟨ret_bool (isjV_b HB.out).symm, Below.refl _ _⟩
  · have hB' : ¬ (20000 : Int) < (S.length : Int) := by omega
    have HB := Lib.hid hB
    have HR := Lib.hid (recovered_any S (by omega) hG)
    clear hB
    go_enter Tryd.func15, Tryd.ntmps15
    go_wp2_with fail
    refine HR.out.mono ?_
    rintro e w1 ⟨⟨L, v, J, a, m, cap, hp, rfl, ho, hJ, hj, hr, -, -⟩, hb⟩
    have hm := hr.len
    rw [hp.jl] at hm
    subst hm
    have c0 := hj.c0
    have hJl := hj.lt
    clear hp ho HR hj hr
    have hI := Lib.hid (isjV_s HB.out)
    generalize jlS S = j at *
    have hI' := Lib.hid (show isjV S = ((j : Int) == (S.length : Int)) by
      rw [hI.out]
      by_cases h : j = S.length
      · simp [h]
      · have h2 : ¬ (j : Int) = (S.length : Int) := by omega
        simp [h, h2])
    go_wp2_with fail
    go_ret
    exact ⟨ret_bool hI'.out.symm, hb⟩
noncomputable def extV (S : List UInt8) (k i : Int) : List UInt8 := if recB k i = true ∧ S.length ≤ 20000 ∧ (recL S).length < 300 then (jouL (recL S ++ [(k, i)]) ((recL S).length + 1)).1 else []
noncomputable def extC (S : List UInt8) (k i : Int) : Int := if recB k i = true then (if S.length ≤ 20000 ∧ (recL S).length < 300 then 0 else 3) else 1
theorem gr_app_left {L : List (Int × Int)} {r : Int × Int} {k : Nat} (h : k < L.length) : gr (L ++ [r]) k = gr L k := by unfold gr; simp [List.getD, List.getElem?_append_left h]
set_option maxHeartbeats 4000000 in
set_option maxRecDepth 100000 in
theorem specExtendJournal_any (S : List UInt8) (hS : S.length ≤ 4611686018427387903) (k i : Int) (w : World) :
    Calls Tryd.prog 18 #[.string (str S), rV k i] w fun e w' => e = .returned (.tuple #[.string (str (extV S k i)), .int .i64 (extC S k i)]) ∧ Below w.heap.size w w' := by
  have hsz := str_size S
  have X0 := Lib.hid (boxR_new w k i RT)
  have B0 := Lib.hid (below1 w (.cells #[.int .i64 k, .int .i64 i] RT))
  go_enter Tryd.func18, Tryd.ntmps18
  have c0 := X0.out.c0
  have c1 := X0.out.c1
  go_wp2_with fail
  refine (specIsRecord_any k i _).mono ?_
  rintro e w2 ⟨rfl, hb2⟩
  have X2 := Lib.hid (X0.out.below hb2 X0.out.lt)
  have B2 := Lib.hid (B0.out.trans (hb2.mono B0.out.size))
  have hX2 : w.heap.size < w2.heap.size := X2.out.lt
  clear hb2 c0 c1 X0 B0
  cases hv : recB k i with
  | false =>
    have H1 := Lib.hid (show extV S k i = [] by unfold extV; simp [hv])
    have H2 := Lib.hid (show extC S k i = 1 by unfold extC; simp [hv])
    go_wp2_with fail
    go_ret2
    exact ⟨by rw [H1.out, H2.out]; rfl, B2.out⟩
  | true =>
  have HV := Lib.hid hv
  by_cases hB : S.length ≤ 20000
  rotate_left
  · have hB' : (20000 : Int) < (S.length : Int) := by omega
    have H1 := Lib.hid (show extV S k i = [] by unfold extV; simp [hB])
    have H2 := Lib.hid (show extC S k i = 3 by unfold extC; simp [hv, hB])
    clear hB hv
    go_wp2_with fail
    go_ret2
    exact ⟨by rw [H1.out, H2.out]; rfl, B2.out⟩
  have hB' : ¬ (20000 : Int) < (S.length : Int) := by omega
  have HB := Lib.hid hB
  have HR := Lib.hid (l32Recover_any S (by omega) w2)
  clear hB hv
  go_wp2_with fail
  refine HR.out.mono ?_
  rintro e w3 ⟨⟨L, v, hp, rfl, ho⟩, hb3⟩
  obtain ⟨a, cap, rfl⟩ := ho.slice
  have X3 := Lib.hid (X2.out.below hb3 X2.out.lt)
  have B3 := Lib.hid (B2.out.trans (hb3.mono B2.out.size))
  have HL := Lib.hid hp.recL
  have hL3 := hp.1
  have HOK := Lib.hid hp.2.1
  have hjl := hp.jl
  rw [hjl]
  have c0 := X3.out.c0
  have c1 := X3.out.c1
  have hX3 : w.heap.size < w3.heap.size := X3.out.lt
  have HO := Lib.hid ho
  clear hjl hp ho HR hb3 X2 B2
  generalize jlS S = j at *
  by_cases hN : L.length = 300
  · have hN' : (L.length : Int) = 300 := by omega
    have H1 := Lib.hid (show extV S k i = [] by unfold extV; rw [HL.out]; simp [hN])
    have H2 := Lib.hid (show extC S k i = 3 by unfold extC; rw [HL.out]; simp [HV.out, hN])
    clear hN
    go_wp2_with fail
    go_ret2
    exact ⟨by rw [H1.out, H2.out]; rfl, B3.out⟩
  have hN' : ¬ (L.length : Int) = 300 := by omega
  have hN2 : ((L.length : Int) == 300) = false := by simp; omega
  have H1 := Lib.hid (show extV S k i = (jouL (L ++ [(k, i)]) (L.length + 1)).1 by unfold extV; rw [HL.out, if_pos ⟨HV.out, HB.out, by omega⟩])
  have H2 := Lib.hid (show extC S k i = 0 by unfold extC; rw [HL.out, if_pos HV.out, if_pos ⟨HB.out, by omega⟩])
  have hLb : L.length ≤ 16777216 := by omega
  have HLn := Lib.hid (show (L ++ [(k, i)]).length ≤ 1000000 by rw [List.length_append]; simp; omega)
  have HLm := Lib.hid (show L.length + 1 ≤ 400 by omega)
  clear hN hN'
  go_wp2_with (at_builtin; refine appendR_one rfl _ _ _ rfl Tryd.underlying26 k i HO.out rfl _ rfl rfl hLb ?_; intro v' w4 hown hb4; refine Hid.out ?_)
  obtain ⟨a', cap', rfl⟩ := hown.slice
  have hR := hown.recs HLn.out
  rw [List.length_append] at hR ⊢
  simp only [List.length_cons, List.length_nil, Nat.zero_add] at hR ⊢
  have HR4 := Lib.hid hR
  have B4 := Lib.hid (B3.out.trans (hb4.mono (Nat.le_of_lt hX2)))
  clear hR hown hb4 hN2
  refine Lib.hid ?_
  go_wp2_with fail
  refine (l32Text_any HR4.out HLm.out (fun q hq => ?_)).mono ?_
  · by_cases hql : q < L.length
    · rw [gr_app_left hql]; exact HOK.out q hql
    · obtain rfl : q = L.length := by omega
      unfold gr; simp [List.getD]; exact HV.out
  rintro e w5 ⟨rfl, hb5⟩
  go_wp2_with fail
  go_ret2
  exact ⟨by rw [H1.out, H2.out]; rfl, B4.out.trans (hb5.mono B4.out.size)⟩
end Go.Proofs.YtmbphpmabopifaaDoor
