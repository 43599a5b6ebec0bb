/-
  The parts Owns, Sub.
-/
import Derived.Test.YtdcmebegnekkcaaGreatLanes
import Derived.Laws.AppendOwnNone
import Derived.Deep.RegionLaw
import Derived.Deep.RegionHeld3
import Derived.Test.YtdcmebegnekkcaaGreatCodes
import Derived.Laws.OwnMore
import Derived.Test.YtdcmebegnekkcaaGreatMathG
/-
  The parts Append, Step, Trim, Plus, SpecOwn, Out, Own.
-/
/-
  Appending to a slice of integers of the call's own.
-/
namespace Go.Proofs.YtdcmebegnekkcaaGreat
open Go.RowKit
set_option linter.unusedVariables false

/-- A slice of integers of the call's own that may be appended to. -/
def OwnL (w : World) (B : Nat) (v : Value) (zs : List Int) : Prop := B ≤ w.heap.size ∧ w.ownsRow B 2 1 v zs.length (zs.map (Value.int .i64))
theorem OwnL.nil (w : World) (B : Nat) (hB : B ≤ w.heap.size) : OwnL w B (.slice none 0 0) [] := ⟨hB, World.ownsRow_nil _ _ _ _⟩
theorem OwnL.empty (w : World) (B : Nat) (hB : B ≤ w.heap.size) (b : Nat) (hb : b = w.heap.size) : OwnL (w.alloc (.cells #[] 2)) B (.slice (some ⟨b, 0, none⟩) 0 0) [] := by
  subst hb
  exact ⟨by simp; omega, World.ownsRow_made w #[] 0 hB (by unfold maxLen; omega) rfl⟩
theorem OwnL.made (w : World) (B : Nat) (hB : B ≤ w.heap.size) (n : Nat) (hn : n ≤ 16777216) (b : Nat) (hb : b = w.heap.size) : OwnL (w.alloc (.cells (madeCells #[.int .i64 0] n) 2)) B (.slice (some ⟨b, 0, none⟩) 0 n) [] := by
  subst hb
  exact ⟨by simp; omega, World.ownsRow_made w _ n hB (by unfold maxLen; omega) (by simp [madeCells])⟩
theorem OwnL.below {w w' : World} {B : Nat} {v : Value} {zs : List Int} (h : OwnL w B v zs) (hb : Below w.heap.size w w') : OwnL w' B v zs := by
  have hs := hb.size
  refine ⟨by have := h.1; omega, h.2.1, ?_⟩
  rcases h.2.2 with h2 | ⟨g, cap, cur, rfl, hg, hh, r⟩
  · exact .inl h2
  · exact .inr ⟨g, cap, cur, rfl, hg, (hb.block g (Array.getElem?_eq_some_iff.1 hh).1).trans hh, r⟩
theorem OwnL.belowV {w w' : World} {B M : Nat} {v : Value} {zs : List Int} (h : OwnL w B v zs) (hb : Below M w w') (hg : ∀ k, v.ownBlock = some k → k < M) : OwnL w' B v zs := by
  obtain ⟨hB, hl, h2⟩ := h
  refine ⟨Nat.le_trans hB hb.size, hl, ?_⟩
  rcases h2 with h0 | ⟨g', cp, cur, rfl, hg', hh, rest⟩
  · exact .inl h0
  · exact .inr ⟨g', cp, cur, rfl, hg', (hb.block g' (hg g' rfl)).trans hh, rest⟩
theorem OwnL.shape {w : World} {B : Nat} {v : Value} {zs : List Int} (h : OwnL w B v zs) : ∃ a cap, v = .slice a zs.length cap ∧ (a = none → cap = 0) ∧ OwnAt w B a zs.length zs := by
  rcases h.2.2 with ⟨rfl, h0⟩ | ⟨g, cap, cur, rfl, hg, hh, hn, hm, hs, ht⟩
  · exact ⟨none, 0, by rw [h0], fun _ => rfl, rfl, by omega, fun hn => by omega⟩
  · unfold maxLen at hm
    refine ⟨_, _, rfl, (fun h => by cases h), rfl, by omega, fun hn0 => ⟨g, cur, rfl, hg, hh, by omega, fun j hj => ?_⟩⟩
    have h1 : (cur.toList.take (zs.length * 1))[j]? = (zs.map (Value.int .i64))[j]? := by rw [ht]
    rw [List.getElem?_take, if_pos (by omega), List.getElem?_map, List.getElem?_eq_getElem hj] at h1
    rw [← Array.getElem?_toList, h1]
    unfold gi; rw [List.getD_eq_getElem?_getD, List.getElem?_eq_getElem hj]; rfl
/-- What a function that returns a slice of its own leaves. -/
def ResL (w w' : World) (v : Value) (zs : List Int) : Prop := ∃ a cap, v = .slice a zs.length cap ∧ (a = none → cap = 0) ∧ OwnAt w' w.heap.size a zs.length zs
theorem ResL.none (w w' : World) : ResL w w' (.slice none 0 0) [] := ⟨_, _, rfl, fun _ => rfl, OwnAt.nil _ _ _⟩
theorem OwnL.res {w w' : World} {B : Nat} {v : Value} {zs : List Int} (h : OwnL w' B v zs) (hB : w.heap.size ≤ B) : ResL w w' v zs := by
  obtain ⟨a, cap, e, hn, ho⟩ := h.shape
  exact ⟨a, cap, e, hn, ho.mono hB⟩
theorem append_below {W0 w' : World} {o : Obj} {B : Nat} {v : Value} (hB : B ≤ W0.heap.size) (hg : (W0.alloc o).grownBy w' v.ownBlock) (hr : ∀ k, v.ownBlock = some k → B ≤ k) : Below B W0 w' :=
  ((Below.refl B W0).alloc hB o).grown hg (by simp; omega) hr
/-- One more number. -/
theorem append_one {W0 : World} {ops : Array Oper} {rest : List Oper} {o : Oper} {a : Act} {Q : Exit → Act → World → Prop} (hgd : o.guard = none) (s x : Operand) (t : TypeId)
    (ho : o.op = .call { callee := .builtin .append, args := #[s, x], argTypes := #[t, t] }) (ht : Tryz.prog.underlying t = some (.slice 2))
    {B : Nat} {v : Value} {zs : List Int} (z : Int) (hown : OwnL W0 B v zs) (hs : a.eval s = v) (b : Nat) (hb : b = W0.heap.size) (hx : a.eval x = .slice (some ⟨b, 0, none⟩) 1 1) (hn : zs.length ≤ 16777216)
    (h : ∀ v' w', OwnL w' B v' (zs ++ [z]) → Below B W0 w' → wpList Tryz.prog ops Q rest (a.put o.dst v') w') : wpList Tryz.prog ops Q (o :: rest) a (W0.alloc (.cells #[.int .i64 z] 2)) := by
  subst hb
  obtain ⟨i0, hi, hz0, hz1, hz2⟩ := info_parts info_int
  obtain ⟨hB, hown⟩ := hown
  refine wpList_append_own _ hgd s x t ho B 2 i0 (.int .i64 0) 1 8 ht hi hz0 hz1 hz2 rfl (by decide) v zs.length (zs.map (Value.int .i64)) hs (hown.alloc _) ⟨W0.heap.size, 0, none⟩ 1 1 [.int .i64 z] hx rfl ?_ ?_ (by unfold maxLen; omega) (by omega) (by simp; omega) ?_
  · intro j u hj
    match j, hj with
    | 0, hj => simp at hj; subst hj; simp [Addr.add, go_sem]
  · intro u hu; simp at hu; subst hu; rfl
  · intro v' w' h1 hg _
    refine h v' w' ⟨by have := hg.size; simp at this; omega, ?_⟩ (append_below hB hg (fun k hk => (hown.lt k hk).1))
    simpa using h1
end Go.Proofs.YtdcmebegnekkcaaGreat
/-
  Appending one number inside a region that draws its order.
-/
namespace Go.Proofs.YtdcmebegnekkcaaGreat
open Go.RowKit
set_option linter.unusedVariables false

end Go.Proofs.YtdcmebegnekkcaaGreat
/-
  The walk of trim.
-/
namespace Go.Proofs.YtdcmebegnekkcaaGreat
open Go.RowKit
set_option linter.unusedVariables false

/-- An owned slice, laid open. -/
theorem OwnL.form {w : World} {B : Nat} {v : Value} {zs : List Int} (h : OwnL w B v zs) (hn : 0 < zs.length) :
    ∃ g cap cur, v = .slice (some ⟨g, 0, none⟩) zs.length cap ∧ B ≤ g ∧ g < w.heap.size ∧ w.heap[g]? = some (.cells cur 2 (0, 0)) ∧ zs.length ≤ cap ∧ OwnAt w B (some ⟨g, 0, none⟩) zs.length zs := by
  obtain ⟨a, c, e, _, ho⟩ := h.shape
  rcases h.2.2 with ⟨rfl, h0⟩ | ⟨g, cap, cur, rfl, hg, hh, hc, hm, hs, ht⟩
  · omega
  · simp only [Value.slice.injEq] at e
    obtain ⟨rfl, _, rfl⟩ := e
    exact ⟨g, cap, cur, rfl, hg, lt_of_heap hh, hh, hc, ho⟩
theorem OwnL.cap {w : World} {B : Nat} {v : Value} {zs : List Int} (h : OwnL w B v zs) : ∃ a cap, v = .slice a zs.length cap ∧ zs.length ≤ cap ∧ (a = none → cap = 0) ∧ OwnAt w B a zs.length zs := by
  by_cases h0 : 0 < zs.length
  · obtain ⟨g, cap, cur, e, _, _, _, hc, ho⟩ := h.form h0
    exact ⟨_, cap, e, hc, (fun h => by cases h), ho⟩
  · obtain ⟨a, c, e, h1, ho⟩ := h.shape
    exact ⟨a, c, e, by omega, h1, ho⟩
theorem OwnL.set {w : World} {B : Nat} {g cap n : Nat} {zs : List Int} (h : OwnL w B (.slice (some ⟨g, 0, none⟩) n cap) zs) {k : Nat} (hk : k < zs.length) (z : Int) :
    OwnL (w.setCell ⟨g, k, none⟩ (.int .i64 z)) B (.slice (some ⟨g, 0, none⟩) n cap) (zs.set k z) := by
  obtain ⟨hB, h2⟩ := h
  have hn : n = zs.length := by
    rcases h2.2 with ⟨h', _⟩ | ⟨g', cap', cur, h', _⟩
    · cases h'
    · simp only [Value.slice.injEq] at h'; exact h'.2.1
  subst hn
  refine ⟨by simpa [World.setCell] using hB, ?_⟩
  have h3 := (World.ownsRow.stored h2 k (.int .i64 z)).1
  rw [List.length_set, List.map_set]
  exact h3
end Go.Proofs.YtdcmebegnekkcaaGreat
/-
  The walk of plus.
-/
namespace Go.Proofs.YtdcmebegnekkcaaGreat
open Go.RowKit
set_option linter.unusedVariables false

def padTo (l : List Int) (m : Nat) : List Int := l ++ List.replicate (m - l.length) 0
def addTo (F : FF) (l q : List Int) : Nat → List Int
  | 0 => l
  | k + 1 => (addTo F l q k).set k (F.add (gi (addTo F l q k) k) (gi q k))
/-- The sum of two lists, as the program reckons it. -/
def plusL (F : FF) (p q : List Int) : List Int := VF.trim (addTo F (padTo p q.length) q q.length)
theorem OwnAt.take {w : World} {B n : Nat} {a : Option Addr} {zs : List Int} (h : OwnAt w B a n zs) {m : Nat} (hm : m ≤ n) : OwnAt w B a m (zs.take m) :=
  ⟨by rw [List.length_take, h.len]; omega, by have := h.small; omega, fun h0 => by
    obtain ⟨b, cur, rfl, hB, hb, hs, hc⟩ := h.at' (by omega)
    exact ⟨b, cur, rfl, hB, hb, by omega, fun j hj => by rw [gi_take hj]; exact hc j (by omega)⟩⟩
end Go.Proofs.YtdcmebegnekkcaaGreat
/-
  The walks of the reference's copies, trims and coefficients.
-/
namespace Go.Proofs.YtdcmebegnekkcaaGreat
open Go.RowKit
set_option linter.unusedVariables false

theorem OwnL.lower {w : World} {B C : Nat} {v : Value} {zs : List Int} (h : OwnL w B v zs) (hC : C ≤ B) : OwnL w C v zs := by
  obtain ⟨hB, hl, h2⟩ := h
  refine ⟨by omega, hl, ?_⟩
  rcases h2 with h2 | ⟨g, cap, cur, rfl, hg, r⟩
  · exact .inl h2
  · exact .inr ⟨g, cap, cur, rfl, by omega, r⟩
def addC (F : FF) (p q : List Int) (m : Nat) : List Int := (List.range m).map fun k => F.add (gi p k) (gi q k)
theorem keep_cell {W W' : World} {a : Addr} {v : Value} (hb : Below W.heap.size W W') (h : W.cell? a = some v) : W'.cell? a = some v := (hb.cell (World.block_lt_of_cell? _ a h)).trans h
theorem Below.more {B : Nat} {W W1 W2 : World} (h : Below B W W1) (hB : B ≤ W.heap.size) (h2 : Below W1.heap.size W1 W2) : Below B W W2 := h.trans (h2.mono (by have := h.size; omega))
abbrev FTa : TypeId := 88
end Go.Proofs.YtdcmebegnekkcaaGreat
/-
  A slice of elements that is being summed up in place.
-/
namespace Go.Proofs.YtdcmebegnekkcaaGreat
open Go.RowKit
set_option linter.unusedVariables false

/-- A row of m elements, in block G, whose polynomial is f. -/
def OutAt (V : VF) (w : World) (B G m : Nat) (f : PS (El V)) (c : Nat := m) : Prop := ∃ zs, OwnL w B (.slice (some ⟨G, 0, none⟩) m c) zs ∧ zs.length = m ∧ VF.els V zs ∧ VF.ps V zs = f
theorem OwnL.zeros (w : World) (B : Nat) (hB : B ≤ w.heap.size) (n : Nat) (hn : n ≤ 16777216) : OwnL (w.alloc (.cells (madeCells #[.int .i64 0] n) 2)) B (.slice (some ⟨w.heap.size, 0, none⟩) n n) (List.replicate n 0) :=
  ⟨by simp; omega, by simp, .inr ⟨_, n, madeCells #[.int .i64 0] n, by simp, hB, heap_alloc_new w _, by simp, by unfold maxLen; omega, by simp [madeCells], by
    have h := (own_zeros w n (by omega)).at'
    apply List.ext_getElem?
    intro j
    by_cases hj : j < n
    · simp [madeCells, hj, Nat.mod_one]
    · simp [madeCells, hj]⟩⟩
theorem OutAt.zeros {V : VF} (w : World) (B : Nat) (hB : B ≤ w.heap.size) (n : Nat) (hn : n ≤ 16777216) : OutAt V (w.alloc (.cells (madeCells #[.int .i64 0] n) 2)) B w.heap.size n 0 :=
  ⟨_, OwnL.zeros w B hB n hn, by simp, VF.els_replicate _, VF.ps_replicate _⟩
theorem OutAt.below {V : VF} {w w' : World} {B G m c : Nat} {f : PS (El V)} (h : OutAt V w B G m f c) (hb : Below w.heap.size w w') : OutAt V w' B G m f c := by
  obtain ⟨zs, h1, h2⟩ := h; exact ⟨zs, h1.below hb, h2⟩
theorem OutAt.eq {V : VF} {w : World} {B G m c : Nat} {f f' : PS (El V)} (h : OutAt V w B G m f c) (e : f = f') : OutAt V w B G m f' c := e ▸ h
/-- What is known of one of its elements, also behind calls. -/
structure OutPlace (V : VF) (w : World) (B G m : Nat) (f : PS (El V)) (j : Nat) (x : Int) (W : World) (c : Nat := m) : Prop where
  cell : W.cell? ⟨G, j, none⟩ = some (.int .i64 x)
  frozen : W.frozen? ⟨G, j, none⟩ = false
  lt : G < W.heap.size
  put : ∀ y, V.F.el y → OutAt V (W.setCell ⟨G, j, none⟩ (.int .i64 y)) B G m (f + VF.xp V j * PS.C (VF.of V y - VF.of V x)) c
theorem OutAt.place {V : VF} {w : World} {B G m c : Nat} {f : PS (El V)} (h : OutAt V w B G m f c) {j : Nat} (hj : j < m) : ∃ x, V.F.el x ∧ f.c j = VF.of V x ∧ ∀ W, Below w.heap.size w W → OutPlace V w B G m f j x W c := by
  obtain ⟨zs, h1, h2, h3, rfl⟩ := h
  refine ⟨gi zs j, h3.getD j, rfl, fun W hb => ?_⟩
  have h4 := h1.below hb
  obtain ⟨g, cap, cur, e, hg, hlt, hh, hc, hat⟩ := h4.form (by omega)
  simp only [Value.slice.injEq, Option.some.injEq, Addr.mk.injEq, and_true] at e
  obtain ⟨rfl, _⟩ := e
  obtain ⟨hp, hf, _⟩ := hat.place (i := j) (by omega)
  refine ⟨hp, hf, hlt, fun y hy => ⟨zs.set j y, h4.set (by omega) y, by simp [h2], h3.set _ hy, ?_⟩⟩
  rw [VF.ps_set zs j (by omega) y]; rfl
theorem OutPlace.add {V : VF} {w : World} {B G m c : Nat} {f : PS (El V)} {j : Nat} {x : Int} {W : World} (h : OutPlace V w B G m f j x W c) (hx : V.F.el x) {y : Int} (hy : V.F.el y) :
    OutAt V (W.setCell ⟨G, j, none⟩ (.int .i64 (V.F.add x y))) B G m (f + VF.xp V j * PS.C (VF.of V y)) c :=
  (h.put _ (FF.add_el V.ok hx hy)).eq (by rw [VF.of_add hx hy]; congr 3; grind)
theorem OwnL.other {w : World} {B G j : Nat} {v x : Value} {zs : List Int} (h : OwnL w B v zs) (hne : ∀ k, v.ownBlock = some k → k ≠ G) : OwnL (w.setCell ⟨G, j, none⟩ x) B v zs := by
  obtain ⟨hB, hl, h2⟩ := h
  refine ⟨by simpa [World.setCell] using hB, hl, ?_⟩
  rcases h2 with h2 | ⟨g, cap, cur, rfl, hg, hh, r⟩
  · exact .inl h2
  · exact .inr ⟨g, cap, cur, rfl, hg, (Below.heap_setCell _ _ _ _ (hne g rfl)).trans hh, r⟩
theorem OutAt.other {V : VF} {w : World} {B G m c H j : Nat} {x : Value} {f : PS (El V)} (h : OutAt V w B G m f c) (hne : G ≠ H) : OutAt V (w.setCell ⟨H, j, none⟩ x) B G m f c := by
  obtain ⟨zs, h1, h2⟩ := h
  exact ⟨zs, h1.other (fun k hk => by simp [Value.ownBlock] at hk; omega), h2⟩
theorem OutAt.of {V : VF} {w : World} {B g n cap : Nat} {zs : List Int} (h : OwnL w B (.slice (some ⟨g, 0, none⟩) n cap) zs) (hn : zs.length = n) (he : VF.els V zs) : OutAt V w B g n (VF.ps V zs) cap := ⟨zs, h, hn, he, rfl⟩
end Go.Proofs.YtdcmebegnekkcaaGreat
/-
  Slices of integers in blocks between two numbers; what stays when one of them is written.
-/
namespace Go.Proofs.YtdcmebegnekkcaaGreat
open Go.RowKit
set_option linter.unusedVariables false

/-- A slice of integers in a block from lo on, ahead of hi. -/
structure Own (w : World) (lo hi : Nat) (a : Option Addr) (n : Nat) (zs : List Int) : Prop where
  own : OwnAt w lo a n zs
  top : 0 < n → ∀ x, a = some x → x.block < hi
/-- Only blocks from lo on, ahead of hi, have been written. -/
structure Chg (lo hi : Nat) (w w' : World) : Prop where
  os : w'.os = w.os
  tape : w'.tape = w.tape
  output : w'.output = w.output
  size : w.heap.size = w'.heap.size
  block : ∀ k, k < lo ∨ hi ≤ k → w'.heap[k]? = w.heap[k]?
theorem Chg.refl (lo hi : Nat) (w : World) : Chg lo hi w w := ⟨rfl, rfl, rfl, rfl, fun _ _ => rfl⟩
theorem Chg.set {lo hi : Nat} {w wr : World} (h : Chg lo hi w wr) {b : Nat} (h1 : lo ≤ b) (h2 : b < hi) (o : Nat) (v : Value) : Chg lo hi w (wr.setCell ⟨b, o, none⟩ v) :=
  ⟨h.os, h.tape, h.output, by rw [h.size]; simp [World.setCell], fun k hk => (Below.heap_setCell _ _ _ _ (show k ≠ b by omega)).trans (h.block k hk)⟩
theorem Chg.below {lo hi : Nat} {w w' : World} (h : Chg lo hi w w') {B : Nat} (hB : B ≤ lo) : Below B w w' :=
  ⟨h.os, h.tape, h.output, by rw [h.size]; exact Nat.le_refl _, fun k hk => h.block k (.inl (by omega))⟩
theorem Own.lo {w : World} {lo hi n : Nat} {a : Option Addr} {zs : List Int} (h : Own w lo hi a n zs) (hn : 0 < n) : ∀ x, a = some x → lo ≤ x.block := fun x hx => by
  obtain ⟨b, cur, e, hB, _⟩ := h.own.at' hn
  rw [hx] at e
  have : x = ⟨b, 0, none⟩ := by simpa using e
  rw [this]; exact hB
theorem Own.below {w w' : World} {lo hi n : Nat} {a : Option Addr} {zs : List Int} (h : Own w lo hi a n zs) (hb : Below w.heap.size w w') : Own w' lo hi a n zs := ⟨h.own.below hb, h.top⟩
theorem Own.row {w : World} {lo hi n : Nat} {a : Option Addr} {zs : List Int} (h : Own w lo hi a n zs) : RowAt w a n zs := h.own.row
theorem Own.of {w : World} {lo n : Nat} {a : Option Addr} {zs : List Int} (h : OwnAt w lo a n zs) : Own w lo w.heap.size a n zs :=
  ⟨h, fun hn x hx => by
    obtain ⟨b, cur, e, _, hb, _⟩ := h.at' hn
    rw [hx] at e
    have : x = ⟨b, 0, none⟩ := by simpa using e
    rw [this]; exact lt_of_heap hb⟩
end Go.Proofs.YtdcmebegnekkcaaGreat
/-
  Parts of slices of integers; copies.
-/
namespace Go.Proofs.YtdcmebegnekkcaaGreat
open Go.RowKit
set_option linter.unusedVariables false

end Go.Proofs.YtdcmebegnekkcaaGreat
