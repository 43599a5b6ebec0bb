/-
  What comes in as a slice of bytes can be read.
-/
import Derived.Test.YtfhkkpfiflgofaaFrames
import Derived.Test.YtfhkkpfiflgofaaDraw
namespace Go.Proofs.Ytfhkkpfiflgofaa
open Go.ChangeShapes Go.WideShapes Go.ChangeAt Go.RowKit Go.Joins
set_option linter.unusedVariables false

/-- A slice of bytes that came in. -/
theorem open_bytes {H : Type} {enc : TypeId × Value → H} {W : World} {a : Option Addr} {len cap : Nat} {d : DataW H} {p : List MemPlace}
    (h : DataW.Trod enc Try.prog W 0 (fun _ => true) true 37 (.slice a len cap) d p) : ∃ zs, RowB W a len zs := by
  obtain ⟨fuel, hf⟩ := h
  rcases open_ints Try.underlying37 Try.underlying5 (by kernel_rfl) hf with ⟨hcs, _⟩ | ⟨x, l, c, zs, hcs, _, hl, hm, hz, _, hcell, hwz⟩
  · simp [Value.cells] at hcs
    obtain ⟨rfl, rfl, rfl⟩ := hcs
    exact ⟨[], rfl, by omega, fun j => by unfold gi; simp, fun h => by omega⟩
  · simp [Value.cells] at hcs
    obtain ⟨rfl, rfl, rfl⟩ := hcs
    have hz' : zs.length = cap := by simpa using hz
    unfold maxLen at hm
    refine ⟨zs.take len, by rw [List.length_take]; omega, by omega, fun j => ?_, fun hn => ?_⟩
    · by_cases hj : j < len
      · rw [gi_take hj]
        have hjl : j < zs.length := by omega
        have := hwz (zs[j]) (List.getElem_mem hjl)
        have e : gi zs j = zs[j] := by unfold gi; simp [hjl]
        rw [e]
        unfold Lit.wf at this
        simp only [Bool.and_eq_true, decide_eq_true_eq, IntKind.min, IntKind.max, IntKind.signed, IntKind.bits] at this
        simp at this
        omega
      · have e : gi (zs.take len) j = 0 := by unfold gi; rw [List.getD_eq_getElem?_getD, List.getElem?_eq_none (by rw [List.length_take]; omega)]; rfl
        rw [e]; omega
    · obtain ⟨b, off, spot⟩ := x
      have h0 := hcell 0 (by omega)
      have hspot : spot = none := by simpa [Addr.add] using World.cell?_spot h0
      subst hspot
      refine ⟨b, off, rfl, World.block_lt_of_cell? _ ⟨b, off, none⟩ (by simpa [Addr.add] using h0), fun j hj => ?_⟩
      have := hcell j (by omega)
      rw [addr_add] at this
      rw [gi_take hj]
      exact this
end Go.Proofs.Ytfhkkpfiflgofaa
