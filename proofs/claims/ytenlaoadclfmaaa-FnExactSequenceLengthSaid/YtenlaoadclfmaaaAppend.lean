/-
  Appending to a slice of integers of the call's own.
-/
import Derived.Test.YtenlaoadclfmaaaSlices2
import Derived.Laws.AppendOwnNone
namespace Go.Proofs.Ytenlaoadclfmaaa
open Go.RowKit
set_option linter.unusedVariables false

/-- A slice of integers of the call's own that may be appended to. -/
def OwnL (w : World) (B : Nat) (v : Value) (zs : List Int) : Prop := B ≤ w.heap.size ∧ w.ownsRow B 2 1 v zs.length (zs.map (Value.int .i64))
theorem OwnL.nil (w : World) (B : Nat) (hB : B ≤ w.heap.size) : OwnL w B (.slice none 0 0) [] := ⟨hB, World.ownsRow_nil _ _ _ _⟩
theorem OwnL.empty (w : World) (B : Nat) (hB : B ≤ w.heap.size) (b : Nat) (hb : b = w.heap.size) : OwnL (w.alloc (.cells #[] 2)) B (.slice (some ⟨b, 0, none⟩) 0 0) [] := by
  subst hb
  exact ⟨by simp; omega, World.ownsRow_made w #[] 0 hB (by unfold maxLen; omega) rfl⟩
theorem OwnL.made (w : World) (B : Nat) (hB : B ≤ w.heap.size) (n : Nat) (hn : n ≤ 16777216) (b : Nat) (hb : b = w.heap.size) : OwnL (w.alloc (.cells (madeCells #[.int .i64 0] n) 2)) B (.slice (some ⟨b, 0, none⟩) 0 n) [] := by
  subst hb
  exact ⟨by simp; omega, World.ownsRow_made w _ n hB (by unfold maxLen; omega) (by simp [madeCells])⟩
theorem OwnL.below {w w' : World} {B : Nat} {v : Value} {zs : List Int} (h : OwnL w B v zs) (hb : Below w.heap.size w w') : OwnL w' B v zs := by
  have hs := hb.size
  refine ⟨by have := h.1; omega, h.2.1, ?_⟩
  rcases h.2.2 with h2 | ⟨g, cap, cur, rfl, hg, hh, r⟩
  · exact .inl h2
  · exact .inr ⟨g, cap, cur, rfl, hg, (hb.block g (Array.getElem?_eq_some_iff.1 hh).1).trans hh, r⟩
theorem OwnL.shape {w : World} {B : Nat} {v : Value} {zs : List Int} (h : OwnL w B v zs) : ∃ a cap, v = .slice a zs.length cap ∧ (a = none → cap = 0) ∧ OwnAt w B a zs.length zs := by
  rcases h.2.2 with ⟨rfl, h0⟩ | ⟨g, cap, cur, rfl, hg, hh, hn, hm, hs, ht⟩
  · exact ⟨none, 0, by rw [h0], fun _ => rfl, rfl, by omega, fun hn => by omega⟩
  · unfold maxLen at hm
    refine ⟨_, _, rfl, (fun h => by cases h), rfl, by omega, fun hn0 => ⟨g, cur, rfl, hg, hh, by omega, fun j hj => ?_⟩⟩
    have h1 : (cur.toList.take (zs.length * 1))[j]? = (zs.map (Value.int .i64))[j]? := by rw [ht]
    rw [List.getElem?_take, if_pos (by omega), List.getElem?_map, List.getElem?_eq_getElem hj] at h1
    rw [← Array.getElem?_toList, h1]
    unfold gi; rw [List.getD_eq_getElem?_getD, List.getElem?_eq_getElem hj]; rfl
/-- What a function that returns a slice of its own leaves. -/
def ResL (w w' : World) (v : Value) (zs : List Int) : Prop := ∃ a cap, v = .slice a zs.length cap ∧ (a = none → cap = 0) ∧ OwnAt w' w.heap.size a zs.length zs
theorem ResL.none (w w' : World) : ResL w w' (.slice none 0 0) [] := ⟨_, _, rfl, fun _ => rfl, OwnAt.nil _ _ _⟩
theorem OwnL.res {w w' : World} {B : Nat} {v : Value} {zs : List Int} (h : OwnL w' B v zs) (hB : w.heap.size ≤ B) : ResL w w' v zs := by
  obtain ⟨a, cap, e, hn, ho⟩ := h.shape
  exact ⟨a, cap, e, hn, ho.mono hB⟩
theorem append_below {W0 w' : World} {o : Obj} {B : Nat} {v : Value} (hB : B ≤ W0.heap.size) (hg : (W0.alloc o).grownBy w' v.ownBlock) (hr : ∀ k, v.ownBlock = some k → B ≤ k) : Below B W0 w' :=
  ((Below.refl B W0).alloc hB o).grown hg (by simp; omega) hr
/-- One more number. -/
theorem append_one {W0 : World} {ops : Array Oper} {rest : List Oper} {o : Oper} {a : Act} {Q : Exit → Act → World → Prop} (hgd : o.guard = none) (s x : Operand) (t : TypeId)
    (ho : o.op = .call { callee := .builtin .append, args := #[s, x], argTypes := #[t, t] }) (ht : Try.prog.underlying t = some (.slice 2))
    {B : Nat} {v : Value} {zs : List Int} (z : Int) (hown : OwnL W0 B v zs) (hs : a.eval s = v) (b : Nat) (hb : b = W0.heap.size) (hx : a.eval x = .slice (some ⟨b, 0, none⟩) 1 1) (hn : zs.length ≤ 16777216)
    (h : ∀ v' w', OwnL w' B v' (zs ++ [z]) → Below B W0 w' → wpList Try.prog ops Q rest (a.put o.dst v') w') : wpList Try.prog ops Q (o :: rest) a (W0.alloc (.cells #[.int .i64 z] 2)) := by
  subst hb
  obtain ⟨i0, hi, hz0, hz1, hz2⟩ := info_parts info_int
  obtain ⟨hB, hown⟩ := hown
  refine wpList_append_own _ hgd s x t ho B 2 i0 (.int .i64 0) 1 8 ht hi hz0 hz1 hz2 rfl (by decide) v zs.length (zs.map (Value.int .i64)) hs (hown.alloc _) ⟨W0.heap.size, 0, none⟩ 1 1 [.int .i64 z] hx rfl ?_ ?_ (by unfold maxLen; omega) (by omega) (by simp; omega) ?_
  · intro j u hj
    match j, hj with
    | 0, hj => simp at hj; subst hj; simp [Addr.add, go_sem]
  · intro u hu; simp at hu; subst hu; rfl
  · intro v' w' h1 hg _
    refine h v' w' ⟨by have := hg.size; simp at this; omega, ?_⟩ (append_below hB hg (fun k hk => (hown.lt k hk).1))
    simpa using h1
theorem cells_of_row {w : World} {a : Option Addr} {n : Nat} {ys : List Int} (h : RowAt w a n ys) (ad : Addr) (ha : a = some ad) : ∀ j u, (ys.map (Value.int .i64))[j]? = some u → w.cell? (ad.add j) = some u := by
  intro j u hj
  rw [List.getElem?_map] at hj
  have hjl : j < ys.length := by
    apply Classical.byContradiction; intro hn
    rw [List.getElem?_eq_none (by omega)] at hj; cases hj
  rw [List.getElem?_eq_getElem hjl] at hj
  obtain ⟨b, off, e, hlt, hc⟩ := h.at' (by rw [h.len] at hjl; omega)
  have e2 : ad = ⟨b, off, none⟩ := by rw [ha] at e; simpa using e
  subst e2
  have h1 := hc j (by rw [← h.len]; exact hjl)
  have e3 : (⟨b, off, none⟩ : Addr).add j = ⟨b, off + j, none⟩ := by unfold Addr.add; by_cases h : j = 0 <;> simp [h]
  rw [e3, h1]
  have e4 : gi ys j = ys[j] := by unfold gi; rw [List.getD_eq_getElem?_getD, List.getElem?_eq_getElem hjl]; rfl
  rw [e4]; simpa using hj
/-- A whole slice more. -/
theorem append_row {w : World} {ops : Array Oper} {rest : List Oper} {o : Oper} {a : Act} {Q : Exit → Act → World → Prop} (hgd : o.guard = none) (s x : Operand) (t : TypeId)
    (ho : o.op = .call { callee := .builtin .append, args := #[s, x], argTypes := #[t, t] }) (ht : Try.prog.underlying t = some (.slice 2))
    {B : Nat} {v : Value} {zs ys : List Int} (hown : OwnL w B v zs) (hs : a.eval s = v) {ad : Option Addr} {m : Nat} (c : Nat) (hrow : RowAt w ad m ys) (hx : a.eval x = .slice ad m c) (hc : ad = none → c = 0) (hn : zs.length + m ≤ 16777216)
    (h : ∀ v' w', OwnL w' B v' (zs ++ ys) → Below B w w' → wpList Try.prog ops Q rest (a.put o.dst v') w') : wpList Try.prog ops Q (o :: rest) a w := by
  obtain ⟨i0, hi, hz0, hz1, hz2⟩ := info_parts info_int
  obtain ⟨hB, hown⟩ := hown
  cases ad with
  | none =>
    obtain rfl : m = 0 := by
      apply Classical.byContradiction; intro h0
      obtain ⟨b, off, e, _⟩ := hrow.at' (by omega)
      cases e
    rw [hc rfl] at hx
    have hys : ys = [] := List.eq_nil_of_length_eq_zero hrow.len
    subst hys
    refine wpList_append_own_none hgd s x t ho B 2 i0 1 ht hi v zs.length (zs.map (Value.int .i64)) hs hown hx ?_
    exact h v w ⟨hB, by simpa using hown⟩ (Below.refl _ _)
  | some ad =>
    refine wpList_append_own _ hgd s x t ho B 2 i0 (.int .i64 0) 1 8 ht hi hz0 hz1 hz2 rfl (by decide) v zs.length (zs.map (Value.int .i64)) hs hown ad m c (ys.map (Value.int .i64)) hx (by rw [List.length_map, hrow.len]; omega) (cells_of_row hrow ad rfl) ?_ (by unfold maxLen; omega) (by omega) hB ?_
    · intro u hu; obtain ⟨y, _, rfl⟩ := List.mem_map.1 hu; rfl
    · intro v' w' h1 hg _
      refine h v' w' ⟨by have := hg.size; omega, ?_⟩ ((Below.refl B w).grown hg hB (fun k hk => (hown.lt k hk).1))
      rw [List.length_append, hrow.len, List.map_append]; exact h1
end Go.Proofs.Ytenlaoadclfmaaa
