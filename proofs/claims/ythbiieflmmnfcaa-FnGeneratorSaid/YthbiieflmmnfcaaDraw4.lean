/-
  The walks of the draws of polynomials.
-/
import Derived.Test.YthbiieflmmnfcaaDraw3
namespace Go.Proofs.Ythbiieflmmnfcaa
open Go.RowKit
set_option linter.unusedVariables false

theorem OwnL.dr {s : Nat} {w w' : World} {B : Nat} {v : Value} {zs : List Int} (h : OwnL w B v zs) (hd : Dr s w w') (hs : s < B) : OwnL w' B v zs := by
  refine ⟨Nat.le_trans h.1 hd.size, h.2.1, ?_⟩
  rcases h.2.2 with h2 | ⟨g, cap, cur, rfl, hg, hh, r⟩
  · exact .inl h2
  · exact .inr ⟨g, cap, cur, rfl, hg, (hd.block g (Array.getElem?_eq_some_iff.1 hh).1 (by omega)).trans hh, r⟩
theorem OwnL.lit (w : World) (B : Nat) (hB : B ≤ w.heap.size) (xs : List Int) (h1 : xs.length ≤ 1000) : OwnL (w.alloc (.cells (xs.map (Value.int .i64)).toArray 2)) B (.slice (some ⟨w.heap.size, 0, none⟩) xs.length xs.length) xs :=
  ⟨by simp; omega, by simp, .inr ⟨w.heap.size, xs.length, _, rfl, hB, heap_new _ _, Nat.le_refl _, by unfold maxLen; omega, by simp, by simp; rw [← List.length_map (f := Value.int .i64), List.take_length]⟩⟩
theorem Dr.moreB {s : Nat} {a b c : World} (h : Dr s a b) (k : Below a.heap.size b c) : Dr s a c :=
  ⟨k.os.trans h.os, k.tape.trans h.tape, k.output.trans h.output, Nat.le_trans h.size k.size, fun i hi hn => (k.block i hi).trans (h.block i hi hn)⟩
theorem Src.lo {w w' : World} {s B : Nat} (h : Src w s) (hB : s < B) (hb : Below B w w') : Src w' s := by
  obtain ⟨c, n, cap, bs, i, sd, h⟩ := h
  refine ⟨c, n, cap, bs, i, sd, ⟨⟨h.row.len, h.row.small, h.row.el, fun hn => ?_⟩, h.ne, h.le, h.sd0, h.sd1, (hb.block s hB).trans h.blk⟩⟩
  obtain ⟨b, off, e, hlt, hc⟩ := h.row.at' hn
  have hbs : b < s := h.ne hn _ e
  exact ⟨b, off, e, Nat.lt_of_lt_of_le hlt hb.size, fun j hj => (hb.cell (p := ⟨b, off + j, none⟩) (show b < B by omega)).trans (hc j hj)⟩
end Go.Proofs.Ythbiieflmmnfcaa
