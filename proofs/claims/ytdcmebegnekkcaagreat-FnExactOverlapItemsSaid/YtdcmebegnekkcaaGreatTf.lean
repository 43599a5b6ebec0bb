/-
  Blocks of cells by a function of the index; strings out of lists of bytes.
-/
import Derived.Test.YtdcmebegnekkcaaGreatDraw
import Derived.Test.YtdcmebegnekkcaaGreatRnd
namespace Go.Proofs.YtdcmebegnekkcaaGreat
open Go.RowKit
set_option linter.unusedVariables false

theorem wrp {x : Int} (h : -1000000000000 ≤ x ∧ x ≤ 1000000000000) : wrap64 x = x ∧ IntKind.i64.wrap x = x := ⟨IntWalk.wrap64_in _ (by omega), IntWalk.i64_in _ (by omega)⟩
def upd (f : Nat → Value) (o : Nat) (v : Value) : Nat → Value := fun i => if i = o then v else f i
theorem upd_same (f : Nat → Value) (o : Nat) (v : Value) : upd f o v o = v := if_pos rfl
theorem upd_other (f : Nat → Value) {o i : Nat} (v : Value) (h : i ≠ o) : upd f o v i = f i := if_neg h
/-- Block B holds m cells, the i-th of them f i, and may be written. -/
structure Tf (w : World) (B m : Nat) (ty : TypeId) (f : Nat → Value) : Prop where
  blk : ∃ cs : Array Value, w.heap[B]? = some (.cells cs ty (0, 0)) ∧ cs.size = m ∧ ∀ i, i < m → cs[i]? = some (f i)
section
variable {w w' : World} {B m M : Nat} {ty : TypeId} {f g : Nat → Value}
theorem Tf.lt (h : Tf w B m ty f) : B < w.heap.size := by obtain ⟨cs, h1, _⟩ := h.blk; exact lt_of_heap h1
theorem Tf.below (h : Tf w B m ty f) (hb : Below M w w') (hC : B < M) : Tf w' B m ty f := by obtain ⟨cs, h1, h2⟩ := h.blk; exact ⟨cs, (hb.block B hC).trans h1, h2⟩
theorem Tf.dr {s : Nat} (h : Tf w B m ty f) (hd : Dr s w w') (hn : B ≠ s) : Tf w' B m ty f := by have hl := h.lt; obtain ⟨cs, h1, h2⟩ := h.blk; exact ⟨cs, (hd.block B hl hn).trans h1, h2⟩
theorem Tf.other (h : Tf w B m ty f) {H : Nat} (hn : B ≠ H) (o : Nat) (v : Value) : Tf (w.setCell ⟨H, o, none⟩ v) B m ty f := by obtain ⟨cs, h1, h2⟩ := h.blk; exact ⟨cs, (Below.heap_setCell _ _ _ _ hn).trans h1, h2⟩
theorem Tf.drew (h : Tf w B m ty f) : Tf w.drew B m ty f := by obtain ⟨cs, h1⟩ := h.blk; exact ⟨cs, h1⟩
theorem Tf.cell (h : Tf w B m ty f) {i : Nat} (hi : i < m) : w.cell? ⟨B, i, none⟩ = some (f i) := by
  obtain ⟨cs, h1, -, h2⟩ := h.blk
  unfold World.cell?; rw [h1]; exact h2 i hi
theorem Tf.fz (h : Tf w B m ty f) (o : Nat) : w.frozen? ⟨B, o, none⟩ = false := by
  obtain ⟨cs, h1, -, -⟩ := h.blk
  unfold World.frozen?; rw [h1]; simp
theorem Tf.congr (h : Tf w B m ty f) (hfg : ∀ i, i < m → f i = g i) : Tf w B m ty g := by
  obtain ⟨cs, h1, h2, h3⟩ := h.blk
  exact ⟨cs, h1, h2, fun i hi => by rw [h3 i hi, hfg i hi]⟩
theorem Tf.set (h : Tf w B m ty f) (o : Nat) (v : Value) : Tf (w.setCell ⟨B, o, none⟩ v) B m ty (upd f o v) := by
  obtain ⟨cs, h1, h2, h3⟩ := h.blk
  refine ⟨_, heap_setCell_self _ _ _ _ _ _ _ h1, by simp [h2], fun i hi => ?_⟩
  simp only [Array.getElem?_setIfInBounds]
  by_cases e : o = i
  · subst e; rw [if_pos rfl, if_pos (by omega), upd_same]
  · rw [if_neg e, upd_other _ _ (fun h => e h.symm)]; exact h3 i hi
theorem Tf.mkd (w : World) (cs : Array Value) (ty : TypeId) : Tf (w.alloc (.cells cs ty)) w.heap.size cs.size ty (fun i => cs[i]!) :=
  ⟨cs, heap_new _ _, rfl, fun i hi => by rw [Array.getElem?_eq_getElem hi, getElem!_pos cs i hi]⟩
theorem Tf.made (w : World) (z : Array Value) (n : Nat) (ty : TypeId) (v : Value) (hz : 0 < z.size) (hv : ∀ i, i < z.size → z[i]! = v) : Tf (w.alloc (.cells (madeCells z n) ty)) w.heap.size n ty (fun _ => v) :=
  ⟨_, heap_new _ _, size_madeCells _ _, fun i hi => by simp only [madeCells, Array.getElem?_map, Array.getElem?_range, hi, if_true, Option.map_some]; rw [hv _ (Nat.mod_lt _ hz)]⟩
end
/-- A string out of a list of bytes. -/
def str (l : List UInt8) : ByteArray := ⟨l.toArray⟩
theorem str_add (a b : List UInt8) : str a ++ str b = str (a ++ b) := ByteArray.mk_append_mk a b
theorem str_size (l : List UInt8) : (str l).size = l.length := by show l.toArray.size = l.length; simp
theorem str_get (l : List UInt8) (k : Nat) (h : k < (str l).size) : (str l)[k]'h = l[k]'(by rw [str_size] at h; exact h) := rfl
theorem str_list (l : List UInt8) : (str l).data.toList = l := by simp [str]
theorem str_toList (l : List UInt8) : (str l).toList = l := by rw [ByteArray.toList_eq]; exact str_list l
theorem str_eqB (a b : List UInt8) : ((str a).toList == (str b).toList) = decide (a = b) := by rw [str_toList, str_toList]; by_cases h : a = b <;> simp [h]
theorem str_extract (l : List UInt8) (a b : Nat) : (str l).extract a b = str ((l.take b).drop a) := by
  apply ByteArray.ext
  simp [str, ByteArray.data_extract, List.drop_take]
theorem str_of (b : ByteArray) : ∃ l, b = str l := ⟨b.data.toList, by simp [str]⟩
end Go.Proofs.YtdcmebegnekkcaaGreat
