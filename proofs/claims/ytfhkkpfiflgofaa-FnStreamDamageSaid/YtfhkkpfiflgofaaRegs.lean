/-
  The parts Reg, Register.
-/
import Derived.Test.YtfhkkpfiflgofaaGens
import Derived.Test.YtfhkkpfiflgofaaQuo
import Derived.Test.YtfhkkpfiflgofaaMathG
import Derived.RegionTactic
/-
  The walk of register: the closure's one step.
-/
namespace Go.Proofs.Ytfhkkpfiflgofaa
open Go.RowKit
set_option linter.unusedVariables false

/-- A block of one cell. -/
def One (w : World) (b : Nat) (v : Value) : Prop := ∃ T, w.heap[b]? = some (.cells #[v] T (0, 0))
theorem cell_of_heapT {w : World} {b : Nat} {cur : Array Value} {t : TypeId} {fz : Nat × Nat} (h : w.heap[b]? = some (.cells cur t fz)) : w.cell? ⟨b, 0, none⟩ = cur[0]? := cell_of_heap h 0
theorem One.cell {w : World} {b : Nat} {v : Value} (h : One w b v) : w.cell? ⟨b, 0, none⟩ = some v := by obtain ⟨T, h⟩ := h; rw [cell_of_heapT h]; rfl
theorem One.frozen {w : World} {b : Nat} {v : Value} (h : One w b v) : w.frozen? ⟨b, 0, none⟩ = false := by obtain ⟨T, h⟩ := h; exact frozen_of_heap h 0
theorem One.lt {w : World} {b : Nat} {v : Value} (h : One w b v) : b < w.heap.size := by obtain ⟨T, h⟩ := h; exact lt_of_heap h
theorem One.below {w w' : World} {b : Nat} {v : Value} (h : One w b v) (hb : Below w.heap.size w w') : One w' b v := by obtain ⟨T, h1⟩ := h; exact ⟨T, (hb.block b (lt_of_heap h1)).trans h1⟩
theorem One.set {w : World} {b : Nat} {v : Value} (h : One w b v) (v' : Value) : One (w.setCell ⟨b, 0, none⟩ v') b v' := by
  obtain ⟨T, h⟩ := h
  exact ⟨T, heap_setCell_self _ _ _ _ _ _ _ h⟩
theorem One.other {w : World} {b c o : Nat} {v x : Value} (h : One w b v) (hne : b ≠ c) : One (w.setCell ⟨c, o, none⟩ x) b v := by
  obtain ⟨T, h⟩ := h
  exact ⟨T, (Below.heap_setCell _ _ _ _ hne).trans h⟩
/-- A slice that lies in none of the closure's variables. -/
def Far (B : Nat) (v : Value) : Prop := ∀ g, v.ownBlock = some g → g ≠ B ∧ g ≠ B + 1 ∧ g ≠ B + 4 ∧ g ≠ B + 5 ∧ g ≠ B + 6 ∧ g ≠ B + 7 ∧ g ≠ B + 8
theorem Far.of {w : World} {B C : Nat} {v : Value} {zs : List Int} (h : OwnL w C v zs) (hC : B + 8 < C) : Far B v := fun g hg => by
  have := (h.2.lt g hg).1; omega
theorem Cal.belowC {w w' : World} {b C : Nat} {F : FF} (h : Cal w b F) (hb : Below C w w') (hC : b < C) : Cal w' b F :=
  ⟨h.ok, by have := hb.size; have := h.lt; omega, (hb.cell (p := ⟨b, 0, none⟩) hC).trans h.bin, (hb.cell (p := ⟨b, 1, none⟩) hC).trans h.size,
    fun m hm => (hb.cell (p := ⟨b, 2 + m, none⟩) hC).trans (h.exp m hm), fun a ha h0 => (hb.cell (p := ⟨b, 1023 + a.toNat, none⟩) hC).trans (h.log a ha h0)⟩
theorem RowAt.belowN {w w' : World} {a : Option Addr} {n C : Nat} {zs : List Int} (h : RowAt w a n zs) (hb : Below C w w') (hC : 0 < n → ∀ x, a = some x → x.block < C) : RowAt w' a n zs := by
  by_cases h0 : 0 < n
  · exact h.below hb (hC h0)
  · exact ⟨h.len, h.small, fun h1 => absurd h1 h0⟩
/-- The closure's variables: the field, the list, the two polynomials, and three numbers. -/
structure RegAt (V : VF) (S : PS (El V)) (w : World) (B : Nat) (k : Nat) (zs : List Int) (a : Option Addr) (n cap : Nat) : Prop where
  cal : ∃ bc, One w B (.pointer (some ⟨bc, 0, none⟩)) ∧ Cal w bc V.F ∧ bc < B
  list : One w (B + 1) (.slice a n cap)
  row : RowAt w a n zs
  rowlt : 0 < n → ∀ x, a = some x → x.block < B
  now : ∃ an ln cn, One w (B + 4) (.slice an ln cn) ∧ (an = none → cn = 0) ∧ (VF.lst V (bm V S k).now).length = ln ∧ OwnL w B (.slice an ln cn) (VF.lst V (bm V S k).now) ∧ Far B (.slice an ln cn)
  before : ∃ an ln cn, One w (B + 5) (.slice an ln cn) ∧ (an = none → cn = 0) ∧ (VF.lst V (bm V S k).before).length = ln ∧ OwnL w B (.slice an ln cn) (VF.lst V (bm V S k).before) ∧ Far B (.slice an ln cn)
  len : One w (B + 6) (.int .i64 ((bm V S k).L : Int))
  shift : One w (B + 7) (.int .i64 ((bm V S k).shift : Int))
  last : One w (B + 8) (.int .i64 (bm V S k).last.val)
theorem Drew.cell {w w' : World} (h : Drew w w') (a : Addr) : w'.cell? a = w.cell? a := by obtain ⟨q, rfl⟩ := h; exact World.cell?_of_block rfl
theorem Drew.frozen {w w' : World} (h : Drew w w') (a : Addr) : w'.frozen? a = w.frozen? a := by obtain ⟨q, rfl⟩ := h; unfold World.frozen?; rfl
theorem RegAt.drew {V : VF} {S : PS (El V)} {w w' : World} {B k : Nat} {zs : List Int} {a : Option Addr} {n cap : Nat} (h : RegAt V S w B k zs a n cap) (hb : Below w.heap.size w w') : RegAt V S w' B k zs a n cap := by
  obtain ⟨bc, h1, h2, h3'⟩ := h.cal
  obtain ⟨an, ln, cn, h3, h4, h5, h6, hf⟩ := h.now
  obtain ⟨ab, lb, cb, h7, h8, h9, h10, hf'⟩ := h.before
  exact ⟨⟨bc, h1.below hb, h2.below hb, h3'⟩, h.list.below hb, h.row.below' hb, h.rowlt, ⟨an, ln, cn, h3.below hb, h4, h5, h6.below hb, hf⟩, ⟨ab, lb, cb, h7.below hb, h8, h9, h10.below hb, hf'⟩, h.len.below hb, h.shift.below hb, h.last.below hb⟩
/-- What is known of the miss after i terms. -/
structure Miss (V : VF) (S : PS (El V)) (k i : Nat) (m : Int) : Prop where
  el : V.F.el m
  eq : VF.of V m = PS.ms (bm V S k).now S k i
theorem Miss.start {V : VF} {zs : List Int} {k : Nat} (hz : VF.els V zs) (hok : BmOk V (VF.ps V zs) k) : Miss V (VF.ps V zs) k 1 (gi zs k) :=
  ⟨hz.getD k, by
    show _ = (0 : El V) + (bm V (VF.ps V zs) k).now.c 0 * (VF.ps V zs).c (k - 0)
    rw [hok.one, Nat.sub_zero, VF.ps_c]; unfold gi; grind⟩
theorem Miss.next {V : VF} {zs : List Int} {k i : Nat} {m : Int} (h : Miss V (VF.ps V zs) k i m) (hz : VF.els V zs) (hok : BmOk V (VF.ps V zs) k) :
    Miss V (VF.ps V zs) k (i + 1) (V.F.add m (V.F.mul (gi (VF.lst V (bm V (VF.ps V zs) k).now) i) (gi zs (k - i)))) := by
  have hp := VF.lst_ok hok.now
  have he : V.F.el (gi (VF.lst V (bm V (VF.ps V zs) k).now) i) := hp.1.els.getD i
  have he2 : V.F.el (gi zs (k - i)) := hz.getD (k - i)
  refine ⟨FF.add_el V.ok h.el (FF.mul_el V.ok _ _), ?_⟩
  rw [VF.of_add h.el (FF.mul_el V.ok _ _), VF.of_mul he he2, h.eq]
  show _ + _ = PS.ms _ _ k i + (bm V (VF.ps V zs) k).now.c i * (VF.ps V zs).c (k - i)
  congr 2
  show VF.of V ((VF.lst V (bm V (VF.ps V zs) k).now).getD i 0) = _
  rw [← VF.ps_c, hp.2]
/-- Nothing but the five variables from B + 4 on has been written. -/
structure Only (B : Nat) (w w' : World) : Prop where
  below : Below B w w'
  block : ∀ g, (g < B + 4 ∨ B + 8 < g) → w'.heap[g]? = w.heap[g]?
theorem Only.refl (B : Nat) (w : World) : Only B w w := ⟨Below.refl _ _, fun _ _ => rfl⟩
theorem Only.set {B : Nat} {w w' : World} (h : Only B w w') {c o : Nat} (h1 : B + 4 ≤ c) (h2 : c ≤ B + 8) (x : Value) : Only B w (w'.setCell ⟨c, o, none⟩ x) :=
  ⟨h.below.setCell (p := ⟨c, o, none⟩) (show B ≤ c by omega) x, fun g hg => (Below.heap_setCell _ _ _ _ (show g ≠ c by omega)).trans (h.block g hg)⟩
theorem Only.drewN {B : Nat} {w w' : World} (h : Only B w w') (q : Nat) : Only B w (w'.drewN q) := ⟨below_drewN h.below q, h.block⟩
theorem One.drewN {w : World} {b : Nat} {v : Value} (h : One w b v) (q : Nat) : One (w.drewN q) b v := h
theorem One.only {B : Nat} {w w' : World} {b : Nat} {v : Value} (h : One w b v) (ho : Only B w w') (hb : b < B + 4) : One w' b v := by
  obtain ⟨T, h⟩ := h; exact ⟨T, (ho.block b (.inl hb)).trans h⟩
theorem OwnL.only {B : Nat} {w w' : World} {v : Value} {zs : List Int} (h : OwnL w B v zs) (ho : Only B w w') (hf : Far B v) : OwnL w' B v zs := by
  obtain ⟨hB, hl, h2⟩ := h
  refine ⟨by have := ho.below.size; omega, hl, ?_⟩
  rcases h2 with h2 | ⟨g, cap, cur, rfl, hg, hh, r⟩
  · exact .inl h2
  · have := hf g rfl
    exact .inr ⟨g, cap, cur, rfl, hg, (ho.block g (by omega)).trans hh, r⟩
theorem RegAt.next {V : VF} {S : PS (El V)} {w w' : World} {B k : Nat} {zs : List Int} {a : Option Addr} {n cap : Nat} (h : RegAt V S w B k zs a n cap) (ho : Only B w w')
    {an : Option Addr} {ln cn : Nat} (h4 : One w' (B + 4) (.slice an ln cn)) (han : an = none → cn = 0) (hln : (VF.lst V (bm V S (k + 1)).now).length = ln) (hon : OwnL w B (.slice an ln cn) (VF.lst V (bm V S (k + 1)).now)) (hfn : Far B (.slice an ln cn))
    {ab : Option Addr} {lb cb : Nat} (h5 : One w' (B + 5) (.slice ab lb cb)) (hab : ab = none → cb = 0) (hlb : (VF.lst V (bm V S (k + 1)).before).length = lb) (hob : OwnL w B (.slice ab lb cb) (VF.lst V (bm V S (k + 1)).before)) (hfb : Far B (.slice ab lb cb))
    (h6 : One w' (B + 6) (.int .i64 ((bm V S (k + 1)).L : Int))) (h7 : One w' (B + 7) (.int .i64 ((bm V S (k + 1)).shift : Int))) (h8 : One w' (B + 8) (.int .i64 (bm V S (k + 1)).last.val)) : RegAt V S w' B (k + 1) zs a n cap := by
  obtain ⟨bc, g1, g2, g3⟩ := h.cal
  exact ⟨⟨bc, g1.only ho (by omega), g2.belowC ho.below g3, g3⟩, h.list.only ho (by omega), h.row.belowN ho.below h.rowlt, h.rowlt, ⟨_, _, _, h4, han, hln, hon.only ho hfn, hfn⟩, ⟨_, _, _, h5, hab, hlb, hob.only ho hfb, hfb⟩, h6, h7, h8⟩
/-- The five variables. -/
structure Five (w : World) (B : Nat) (v4 v5 v6 v7 v8 : Value) : Prop where
  h4 : One w (B + 4) v4
  h5 : One w (B + 5) v5
  h6 : One w (B + 6) v6
  h7 : One w (B + 7) v7
  h8 : One w (B + 8) v8
theorem Five.set4 {w : World} {B : Nat} {v4 v5 v6 v7 v8 : Value} (h : Five w B v4 v5 v6 v7 v8) (x : Value) : Five (w.setCell ⟨B + 4, 0, none⟩ x) B x v5 v6 v7 v8 := ⟨h.h4.set _, h.h5.other (by omega), h.h6.other (by omega), h.h7.other (by omega), h.h8.other (by omega)⟩
theorem Five.set5 {w : World} {B : Nat} {v4 v5 v6 v7 v8 : Value} (h : Five w B v4 v5 v6 v7 v8) (x : Value) : Five (w.setCell ⟨B + 5, 0, none⟩ x) B v4 x v6 v7 v8 := ⟨h.h4.other (by omega), h.h5.set _, h.h6.other (by omega), h.h7.other (by omega), h.h8.other (by omega)⟩
theorem Five.set6 {w : World} {B : Nat} {v4 v5 v6 v7 v8 : Value} (h : Five w B v4 v5 v6 v7 v8) (x : Value) : Five (w.setCell ⟨B + 6, 0, none⟩ x) B v4 v5 x v7 v8 := ⟨h.h4.other (by omega), h.h5.other (by omega), h.h6.set _, h.h7.other (by omega), h.h8.other (by omega)⟩
theorem Five.set7 {w : World} {B : Nat} {v4 v5 v6 v7 v8 : Value} (h : Five w B v4 v5 v6 v7 v8) (x : Value) : Five (w.setCell ⟨B + 7, 0, none⟩ x) B v4 v5 v6 x v8 := ⟨h.h4.other (by omega), h.h5.other (by omega), h.h6.other (by omega), h.h7.set _, h.h8.other (by omega)⟩
theorem Five.set8 {w : World} {B : Nat} {v4 v5 v6 v7 v8 : Value} (h : Five w B v4 v5 v6 v7 v8) (x : Value) : Five (w.setCell ⟨B + 8, 0, none⟩ x) B v4 v5 v6 v7 x := ⟨h.h4.other (by omega), h.h5.other (by omega), h.h6.other (by omega), h.h7.other (by omega), h.h8.set _⟩
theorem Five.drew {w : World} {B : Nat} {v4 v5 v6 v7 v8 : Value} (h : Five w B v4 v5 v6 v7 v8) : Five w.drew B v4 v5 v6 v7 v8 := ⟨h.h4, h.h5, h.h6, h.h7, h.h8⟩
theorem Only.drew {B : Nat} {w w' : World} (h : Only B w w') : Only B w w'.drew := h.drewN 1
/-- The state behind a step that lengthens the recurrence. -/
theorem RegAt.long {V : VF} {S : PS (El V)} {w : World} {B k L l6 ln : Nat} {m : Int} {zs : List Int} {a an a6 : Option Addr} {n cap cn c6 : Nat} {v4 v5 v6 v7 v8 : Value} (h : RegAt V S w B k zs a n cap)
    (hF : Five w B v4 v5 v6 v7 v8) (e : bm V S (k + 1) = ⟨bmNext V S k, (bm V S k).now, k + 1 - (bm V S k).L, 1, ((bm V S k).now * S).c k⟩) (hL : (bm V S k).L = L) (hLk : L ≤ k) (hm : (((bm V S k).now * S).c k).val = m)
    (h6 : a6 = none → c6 = 0) (hl6 : (VF.lst V (bmNext V S k)).length = l6) (ho6 : OwnL w B (.slice a6 l6 c6) (VF.lst V (bmNext V S k))) (hf6 : Far B (.slice a6 l6 c6))
    (hn : an = none → cn = 0) (hln : (VF.lst V (bm V S k).now).length = ln) (hon : OwnL w B (.slice an ln cn) (VF.lst V (bm V S k).now)) (hfn : Far B (.slice an ln cn)) :
    Below B w ((((((w.setCell ⟨B + 6, 0, none⟩ (.int .i64 ((k : Int) + 1 - (L : Int)))).setCell ⟨B + 5, 0, none⟩ (.slice an ln cn)).setCell ⟨B + 8, 0, none⟩ (.int .i64 m)).setCell ⟨B + 7, 0, none⟩ (.int .i64 0)).setCell ⟨B + 4, 0, none⟩ (.slice a6 l6 c6)).setCell ⟨B + 7, 0, none⟩ (.int .i64 1)).drew ∧
    RegAt V S ((((((w.setCell ⟨B + 6, 0, none⟩ (.int .i64 ((k : Int) + 1 - (L : Int)))).setCell ⟨B + 5, 0, none⟩ (.slice an ln cn)).setCell ⟨B + 8, 0, none⟩ (.int .i64 m)).setCell ⟨B + 7, 0, none⟩ (.int .i64 0)).setCell ⟨B + 4, 0, none⟩ (.slice a6 l6 c6)).setCell ⟨B + 7, 0, none⟩ (.int .i64 1)).drew B (k + 1) zs a n cap := by
  have F := ((((((hF.set6 (.int .i64 ((k : Int) + 1 - (L : Int)))).set5 (.slice an ln cn)).set8 (.int .i64 m)).set7 (.int .i64 0)).set4 (.slice a6 l6 c6)).set7 (.int .i64 1)).drew
  have HO := (((((((Only.refl B w).set (c := B + 6) (o := 0) (by omega) (by omega) (.int .i64 ((k : Int) + 1 - (L : Int)))).set (c := B + 5) (o := 0) (by omega) (by omega) (.slice an ln cn)).set (c := B + 8) (o := 0) (by omega) (by omega) (.int .i64 m)).set (c := B + 7) (o := 0) (by omega) (by omega) (.int .i64 0)).set (c := B + 4) (o := 0) (by omega) (by omega) (.slice a6 l6 c6)).set (c := B + 7) (o := 0) (by omega) (by omega) (.int .i64 1)).drew
  refine ⟨HO.below, h.next HO F.h4 h6 (by rw [e]; exact hl6) (by rw [e]; exact ho6) hf6 F.h5 hn (by rw [e]; exact hln) (by rw [e]; exact hon) hfn ?_ ?_ ?_⟩
  · rw [e]
    show One _ _ (.int .i64 ((k + 1 - (bm V S k).L : Nat) : Int))
    rw [hL, show ((k + 1 - L : Nat) : Int) = (k : Int) + 1 - (L : Int) by omega]; exact F.h6
  · rw [e]; exact F.h7
  · rw [e]
    show One _ _ (.int .i64 (((bm V S k).now * S).c k).val)
    rw [hm]; exact F.h8
end Go.Proofs.Ytfhkkpfiflgofaa
/-
  The walk of register.
-/
namespace Go.Proofs.Ytfhkkpfiflgofaa
open Go.RowKit
set_option linter.unusedVariables false

theorem One.new (w : World) (v : Value) (T : TypeId) (b : Nat) (hb : b = w.heap.size) : One (w.alloc (.cells #[v] T)) b v := by subst hb; exact ⟨T, heap_alloc_new w _⟩
/-- The world behind the making of the closure's variables. -/
def regW (w : World) (b : Nat) (a : Option Addr) (n cap : Nat) (T0 T1 T4 T5 T6 T7 T8 : TypeId) : World :=
  ((((((((w.alloc (.cells #[.pointer (some ⟨b, 0, none⟩)] T0)).alloc (.cells #[.slice a n cap] T1)).alloc (.cells #[.int .i64 1] 2)).alloc (.cells #[.int .i64 1] 2)).alloc (.cells #[.slice (some ⟨w.heap.size + 1 + 1, 0, none⟩) 1 1] T4)).alloc (.cells #[.slice (some ⟨w.heap.size + 1 + 1 + 1, 0, none⟩) 1 1] T5)).alloc (.cells #[.int .i64 0] T6)).alloc (.cells #[.int .i64 1] T7)).alloc (.cells #[.int .i64 1] T8)
end Go.Proofs.Ytfhkkpfiflgofaa
