/-
  Opening a slice of records that came in.
-/
import Derived.Test.YtmbphpmabopifaaDoorRecs
import Derived.Test.YtmbphpmabopifaaDoorFrames
import Derived.Deep.Slices
import Derived.Deep.Fields
import Derived.ChangeSame
namespace Go.Proofs.YtmbphpmabopifaaDoor
open Go.ChangeShapes Go.WideShapes Go.ChangeAt Go.RowKit Go.Joins Go.Deep
set_option linter.unusedVariables false

theorem two_cells {H : Type} {enc : TypeId × Value → H} {W : World} {n : Nat} {cs : List Value} {x : DataW H × List MemPlace} {fs : Array Field} {t : TypeId}
    (he : Tryd.prog.underlying t = some (.struct fs)) (hs : fs.size = 2) (hone : oneCellFields Tryd.prog fs = true) (hty : ∀ (j : Nat) (f : Field), fs[j]? = some f → f.type = 2) (hl : cs.length = 2)
    (h : DataW.trod enc Tryd.prog W 0 (fun _ => true) true n t cs = some x) : ∃ a b : Int, cs = [.int .i64 a, .int .i64 b] := by
  match cs, hl with
  | [c0, c1], _ =>
    obtain ⟨xs, n', _, hx, _, hlen, hg⟩ := DataW.trod_struct he h
    have f0 : fs[0]? = some (fs[0]'(by omega)) := Array.getElem?_eq_getElem (by omega)
    have f1 : fs[1]? = some (fs[1]'(by omega)) := Array.getElem?_eq_getElem (by omega)
    obtain ⟨o0, k0⟩ := hone_of hone 0 _ f0
    obtain ⟨o1, k1⟩ := hone_of hone 1 _ f1
    rw [hs] at hlen
    obtain ⟨y0, y1, rfl⟩ : ∃ a b, xs = [a, b] := by match xs, hlen with | [a, b], _ => exact ⟨a, b, rfl⟩
    have g0 := hg 0 _ f0
    have g1 := hg 1 _ f1
    rw [hty 0 _ f0] at g0 k0
    rw [hty 1 _ f1] at g1 k1
    rw [o0, k0] at g0
    rw [o1, k1] at g1
    obtain ⟨a, ea, _, _⟩ := DataW.trod_int Tryd.underlying2 (show DataW.trod enc Tryd.prog W 0 (fun _ => true) true n' 2 [c0] = some y0 by simpa using g0)
    obtain ⟨b, eb, _, _⟩ := DataW.trod_int Tryd.underlying2 (show DataW.trod enc Tryd.prog W 0 (fun _ => true) true n' 2 [c1] = some y1 by simpa using g1)
    simp only [List.cons.injEq, and_true] at ea eb
    exact ⟨a, b, by rw [ea, eb]⟩
/-- A slice of records that came in. -/
theorem open_recs {H : Type} {enc : TypeId × Value → H} {W : World} {a : Option Addr} {len cap : Nat} {d : DataW H} {p : List MemPlace}
    (h : DataW.Trod enc Tryd.prog W 0 (fun _ => true) true 22 (.slice a len cap) d p) : ∃ zs, RecsAt W a len zs := by
  obtain ⟨fuel, hf⟩ := h
  rcases open_slice Tryd.underlying22 hf with ⟨hcs, _⟩ | ⟨x, l, c, m, n, D, Pl, hcs, _, hl, hm, hmm, hx, hi⟩
  · simp [Value.cells] at hcs
    obtain ⟨rfl, rfl, rfl⟩ := hcs
    exact ⟨[], rfl, by omega, fun h => by omega⟩
  · simp [Value.cells] at hcs
    obtain ⟨rfl, rfl, rfl⟩ := hcs
    have hC : Tryd.prog.cellsOf 34 = 2 := by kernel_rfl
    have hmm2 : m = cap := by simpa using hmm
    unfold maxLen at hm
    have key : ∀ i, i < len → ∃ r : Int × Int, W.cell? (x.add (i * 2)) = some (.int .i64 r.1) ∧ W.cell? ((x.add (i * 2)).add 1) = some (.int .i64 r.2) := by
      intro i hil
      obtain ⟨cs', hc, ht'⟩ := hi i (by omega)
      rw [hC] at hc
      obtain ⟨_, hcl, hat⟩ := World.cells?_some hc
      have hlen : cs'.length = 2 := hcl
      obtain ⟨u, v, e⟩ := two_cells Tryd.underlying34 rfl (by kernel_rfl) (by
        intro j f hj
        match j with
        | 0 => simp at hj; rw [← hj]
        | 1 => simp at hj; rw [← hj]
        | j + 2 => simp at hj) hlen ht'
      have h0 := hat 0 (by omega)
      have h1 := hat 1 (by omega)
      rw [e] at h0 h1
      refine ⟨(u, v), ?_, ?_⟩
      · simpa [Addr.add] using h0
      · simpa using h1
    obtain ⟨f, hf⟩ : ∃ f : Nat → Int × Int, ∀ i, i < len → W.cell? (x.add (i * 2)) = some (.int .i64 (f i).1) ∧ W.cell? ((x.add (i * 2)).add 1) = some (.int .i64 (f i).2) := by
      classical
      exact ⟨fun i => if h : i < len then Classical.choose (key i h) else (0, 0), fun i h => by simp only [dif_pos h]; exact Classical.choose_spec (key i h)⟩
    refine ⟨(List.range len).map f, by simp, by omega, fun hn => ?_⟩
    obtain ⟨b, off, spot⟩ := x
    have h0 := (hf 0 hn).1
    have hspot : spot = none := by simpa [Addr.add] using World.cell?_spot h0
    subst hspot
    refine ⟨b, off, rfl, World.block_lt_of_cell? _ ⟨b, off, none⟩ (by simpa [Addr.add] using h0), fun j hj => ?_⟩
    have e : gr ((List.range len).map f) j = f j := by unfold gr; rw [List.getD_eq_getElem?_getD]; simp [hj]
    have h2 := hf j hj
    rw [addr_add, addr_add] at h2
    rw [e]
    exact h2
end Go.Proofs.YtmbphpmabopifaaDoor
