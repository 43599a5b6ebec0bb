/-
  Recovering, checking and extending journals.
-/
import Derived.Test.YtmbphpmabopifaaDoorRcvJ
import Derived.BigQuiet
namespace Go.Proofs.YtmbphpmabopifaaDoor
open Go.RowKit
set_option linter.unusedVariables false

theorem recC_get (L : List (Int × Int)) : ∀ j, j < L.length → (recC L)[j * 2]? = some (.int .i64 (gr L j).1) ∧ (recC L)[j * 2 + 1]? = some (.int .i64 (gr L j).2) := by
  induction L with
  | nil => intro j hj; simp at hj
  | cons r L ih =>
    intro j hj
    have e : recC (r :: L) = Value.int .i64 r.1 :: Value.int .i64 r.2 :: recC L := rfl
    rw [e]
    cases j with
    | zero => exact ⟨rfl, rfl⟩
    | succ j =>
      obtain ⟨h1, h2⟩ := ih j (by simp at hj; omega)
      have e1 : (j + 1) * 2 = j * 2 + 1 + 1 := by omega
      rw [e1]
      exact ⟨by simpa [gr] using h1, by simpa [gr] using h2⟩
theorem OwnR.recs {w : World} {B : Nat} {L : List (Int × Int)} {a : Option Addr} {cap : Nat} (h : OwnR w B (.slice a L.length cap) L) (hn : L.length ≤ 1000000) : RecsAt w a L.length L :=
  ⟨rfl, by omega, fun h0 => by
    obtain ⟨hB, h⟩ := h
    have hc := fun g => h.cells (g := g)
    rcases h.2 with ⟨hv, h1⟩ | ⟨g, cp, cur, hv, hg, hh, _⟩
    · omega
    · injection hv with e1 e2 e3
      subst e1
      refine ⟨g, 0, rfl, lt_of_heap hh, fun j hj => ?_⟩
      obtain ⟨h1, h2⟩ := recC_get L j hj
      have k1 := hc g rfl (j * 2) _ h1
      have k2 := hc g rfl (j * 2 + 1) _ h2
      have e : ∀ j, (⟨g, 0, none⟩ : Addr).add j = ⟨g, j, none⟩ := fun j => by unfold Addr.add; split <;> simp_all
      rw [e] at k1 k2
      rw [Nat.zero_add]
      exact ⟨k1, k2⟩⟩
open Classical in
/-- The longest journal that a text begins with. -/
noncomputable def recL (S : List UInt8) : List (Int × Int) := if h : ∃ L, RecP S L then h.choose else []
theorem RecP.recL {S : List UInt8} {L : List (Int × Int)} (h : RecP S L) : recL S = L := by
  have hx : ∃ L, RecP S L := ⟨L, h⟩
  unfold Go.Proofs.YtmbphpmabopifaaDoor.recL
  rw [dif_pos hx]
  exact RecP.uniq hx.choose_spec h
noncomputable def jlS (S : List UInt8) : Nat := (jouL (recL S) (recL S).length).1.length
noncomputable def jsS (S : List UInt8) : Int := (jouL (recL S) (recL S).length).2
def bigC (S : List UInt8) : Int := if S.length ≤ 20000 then 0 else 3
noncomputable def rcvL (S : List UInt8) : List (Int × Int) := if S.length ≤ 20000 then recL S else []
noncomputable def tornV (S : List UInt8) : Int := if S.length ≤ 20000 then (S.length : Int) - (jlS S : Int) else 0
noncomputable def sumV (S : List UInt8) : Int := if S.length ≤ 20000 then jsS S else 0
noncomputable def isjV (S : List UInt8) : Bool := decide (S.length ≤ 20000 ∧ jlS S = S.length)
theorem RecP.jl {S : List UInt8} {L : List (Int × Int)} (h : RecP S L) : (jouL L L.length).1.length = jlS S := by unfold jlS; rw [h.recL]
theorem RecP.js {S : List UInt8} {L : List (Int × Int)} (h : RecP S L) : (jouL L L.length).2 = jsS S := by unfold jsS; rw [h.recL]
theorem RecP.jle {S : List UInt8} {L : List (Int × Int)} (h : RecP S L) : jlS S ≤ S.length := by rw [← h.jl]; exact h.2.2.1.length_le
theorem bigC_s {S : List UInt8} (h : S.length ≤ 20000) : bigC S = 0 := if_pos h
theorem bigC_b {S : List UInt8} (h : ¬ S.length ≤ 20000) : bigC S = 3 := if_neg h
theorem rcvL_s {S : List UInt8} (h : S.length ≤ 20000) : rcvL S = recL S := if_pos h
theorem rcvL_b {S : List UInt8} (h : ¬ S.length ≤ 20000) : rcvL S = [] := if_neg h
theorem tornV_s {S : List UInt8} (h : S.length ≤ 20000) : tornV S = (S.length : Int) - (jlS S : Int) := if_pos h
theorem tornV_b {S : List UInt8} (h : ¬ S.length ≤ 20000) : tornV S = 0 := if_neg h
theorem sumV_s {S : List UInt8} (h : S.length ≤ 20000) : sumV S = jsS S := if_pos h
theorem sumV_b {S : List UInt8} (h : ¬ S.length ≤ 20000) : sumV S = 0 := if_neg h
theorem isjV_s {S : List UInt8} (h : S.length ≤ 20000) : isjV S = decide (jlS S = S.length) := by unfold isjV; simp [h]
theorem isjV_b {S : List UInt8} (h : ¬ S.length ≤ 20000) : isjV S = false := by unfold isjV; simp [h]
/-- The records out of a text, the bytes that are torn off, and the code. -/
def RcoE (S : List UInt8) (w0 w : World) (e : Ending) : Prop := ∃ v : Value, e = .returned (.tuple #[v, .int .i64 (tornV S), .int .i64 (bigC S)]) ∧ OwnR w w0.heap.size v (rcvL S)
set_option maxHeartbeats 4000000 in
set_option maxRecDepth 100000 in
theorem specRecoverJournal_any (S : List UInt8) (hS : S.length ≤ 4611686018427387903) (w : World) :
    Calls Tryd.prog 21 #[.string (str S)] w fun e w' => RcoE S w w' e ∧ Below w.heap.size w w' := by
  have hsz := str_size S
  by_cases hB : S.length ≤ 20000
  rotate_left
  · have hB' : (20000 : Int) < (S.length : Int) := by omega
    have HB := Lib.hid hB
    clear hB
    go_enter Tryd.func21, Tryd.ntmps21
    go_wp2_with fail
    go_ret3
    exact ⟨⟨_, by rw [tornV_b HB.out, bigC_b HB.out]; rfl, by rw [rcvL_b HB.out]; exact OwnR.nil _ _ (Nat.le_refl _)⟩, Below.refl _ _⟩
  · have hB' : ¬ (20000 : Int) < (S.length : Int) := by omega
    have HB := Lib.hid hB
    have HR := Lib.hid (l32Recover_any S (by omega) w)
    clear hB
    go_enter Tryd.func21, Tryd.ntmps21
    go_wp2_with fail
    refine HR.out.mono ?_
    rintro e w1 ⟨⟨L, v, hp, rfl, ho⟩, hb⟩
    have hjl := hp.jl
    have hle := hp.jle
    have HP := Lib.hid hp
    have HO := Lib.hid ho
    rw [hjl]
    clear hjl hp ho HR
    have HT := Lib.hid (tornV_s HB.out)
    generalize jlS S = j at *
    go_wp2_with fail
    go_ret3
    exact ⟨⟨_, by rw [HT.out, bigC_s HB.out]; rfl, by rw [rcvL_s HB.out, HP.out.recL]; exact HO.out⟩, hb⟩
set_option maxHeartbeats 4000000 in
set_option maxRecDepth 100000 in
theorem specJournalSum_any (S : List UInt8) (hS : S.length ≤ 4611686018427387903) (w : World) :
    Calls Tryd.prog 16 #[.string (str S)] w fun e w' => e = .returned (.tuple #[.int .i64 (sumV S), .int .i64 (bigC S)]) ∧ Below w.heap.size w w' := by
  have hsz := str_size S
  by_cases hB : S.length ≤ 20000
  rotate_left
  · have hB' : (20000 : Int) < (S.length : Int) := by omega
    have HB := Lib.hid hB
    clear hB
    go_enter Tryd.func16, Tryd.ntmps16
    go_wp2_with fail
    go_ret2
    exact ⟨by rw [sumV_b HB.out, bigC_b HB.out]; rfl, Below.refl _ _⟩
  · have hB' : ¬ (20000 : Int) < (S.length : Int) := by omega
    have HB := Lib.hid hB
    have HR := Lib.hid (l32Recover_any S (by omega) w)
    clear hB
    go_enter Tryd.func16, Tryd.ntmps16
    go_wp2_with fail
    refine HR.out.mono ?_
    rintro e w1 ⟨⟨L, v, hp, rfl, ho⟩, hb⟩
    obtain ⟨a, cap, rfl⟩ := ho.slice
    have hjs := Lib.hid hp.js
    have HX := Lib.hid (l32Text_any (cap := cap) (ho.recs (by have := hp.1; omega)) (by have := hp.1; omega) hp.2.1)
    have HT := Lib.hid (sumV_s HB.out)
    have hjl := hp.jl
    rw [hjl]
    clear hjl hp ho HR
    generalize jlS S = j at *
    go_wp2_with fail
    refine HX.out.mono ?_
    rintro e w2 ⟨rfl, hb2⟩
    rw [hjs.out]
    go_wp2_with fail
    go_ret2
    exact ⟨by rw [HT.out, bigC_s HB.out]; rfl, hb.trans (hb2.mono hb.size)⟩
set_option maxHeartbeats 4000000 in
set_option maxRecDepth 100000 in
theorem specIsJournal_any (S : List UInt8) (hS : S.length ≤ 4611686018427387903) (w : World) :
    Calls Tryd.prog 14 #[.string (str S)] w fun e w' => e = .returned (.bool (isjV S)) ∧ Below w.heap.size w w' := by
  have HR := Lib.hid (specRecoverJournal_any S hS w)
  go_enter Tryd.func14, Tryd.ntmps14
  go_wp2_with fail
  refine HR.out.mono ?_
  rintro e w1 ⟨⟨v, rfl, -⟩, hb⟩
  by_cases hB : S.length ≤ 20000
  · have hI := Lib.hid (isjV_s hB)
    rw [bigC_s hB, tornV_s hB]
    clear hB HR hS
    generalize jlS S = j at *
    by_cases hj : j = S.length
    · have h0 : (S.length : Int) - (j : Int) = 0 := by omega
      have hI' := Lib.hid (show isjV S = true by rw [hI.out]; simp [hj])
      rw [h0]
      clear h0 hj hI
      go_wp2_with fail
      go_ret
      exact ⟨ret_bool hI'.out.symm, hb⟩
    · have h0 : ((S.length : Int) - (j : Int) == 0) = false := by simp; omega
      have hI' := Lib.hid (show isjV S = false by rw [hI.out]; simp [hj])
      generalize (S.length : Int) - (j : Int) = d at *
      clear hj hI
      go_wp2_with fail
      go_ret
      exact ⟨ret_bool hI'.out.symm, hb⟩
  · have hI := Lib.hid (isjV_b hB)
    rw [bigC_b hB, tornV_b hB]
    clear hB HR hS
    go_wp2_with fail
    go_ret
    exact ⟨ret_bool hI.out.symm, hb⟩
end Go.Proofs.YtmbphpmabopifaaDoor
