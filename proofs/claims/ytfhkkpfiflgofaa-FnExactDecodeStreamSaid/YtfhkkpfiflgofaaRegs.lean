/-
  The parts Reg, Register.
-/
import Derived.Test.YtfhkkpfiflgofaaGens
import Derived.Test.YtfhkkpfiflgofaaQuo
import Derived.Test.YtfhkkpfiflgofaaMath
import Derived.RegionTactic
/-
  The walk of register: the closure's one step.
-/
namespace Go.Proofs.Ytfhkkpfiflgofaa
open Go.RowKit
set_option linter.unusedVariables false

/-- A block of one cell. -/
def One (w : World) (b : Nat) (v : Value) : Prop := ∃ T, w.heap[b]? = some (.cells #[v] T (0, 0))
theorem cell_of_heapT {w : World} {b : Nat} {cur : Array Value} {t : TypeId} {fz : Nat × Nat} (h : w.heap[b]? = some (.cells cur t fz)) : w.cell? ⟨b, 0, none⟩ = cur[0]? := cell_of_heap h 0
theorem One.cell {w : World} {b : Nat} {v : Value} (h : One w b v) : w.cell? ⟨b, 0, none⟩ = some v := by obtain ⟨T, h⟩ := h; rw [cell_of_heapT h]; rfl
theorem One.frozen {w : World} {b : Nat} {v : Value} (h : One w b v) : w.frozen? ⟨b, 0, none⟩ = false := by obtain ⟨T, h⟩ := h; exact frozen_of_heap h 0
theorem One.lt {w : World} {b : Nat} {v : Value} (h : One w b v) : b < w.heap.size := by obtain ⟨T, h⟩ := h; exact lt_of_heap h
theorem One.below {w w' : World} {b : Nat} {v : Value} (h : One w b v) (hb : Below w.heap.size w w') : One w' b v := by obtain ⟨T, h1⟩ := h; exact ⟨T, (hb.block b (lt_of_heap h1)).trans h1⟩
theorem One.set {w : World} {b : Nat} {v : Value} (h : One w b v) (v' : Value) : One (w.setCell ⟨b, 0, none⟩ v') b v' := by
  obtain ⟨T, h⟩ := h
  exact ⟨T, heap_setCell_self _ _ _ _ _ _ _ h⟩
theorem One.other {w : World} {b c o : Nat} {v x : Value} (h : One w b v) (hne : b ≠ c) : One (w.setCell ⟨c, o, none⟩ x) b v := by
  obtain ⟨T, h⟩ := h
  exact ⟨T, (Below.heap_setCell _ _ _ _ hne).trans h⟩
/-- A slice that lies in none of the closure's variables. -/
def Far (B : Nat) (v : Value) : Prop := ∀ g, v.ownBlock = some g → g ≠ B ∧ g ≠ B + 1 ∧ g ≠ B + 4 ∧ g ≠ B + 5 ∧ g ≠ B + 6 ∧ g ≠ B + 7 ∧ g ≠ B + 8
theorem Far.of {w : World} {B C : Nat} {v : Value} {zs : List Int} (h : OwnL w C v zs) (hC : B + 8 < C) : Far B v := fun g hg => by
  have := (h.2.lt g hg).1; omega
theorem Cal.belowC {w w' : World} {b C : Nat} {F : FF} (h : Cal w b F) (hb : Below C w w') (hC : b < C) : Cal w' b F :=
  ⟨h.ok, by have := hb.size; have := h.lt; omega, (hb.cell (p := ⟨b, 0, none⟩) hC).trans h.bin, (hb.cell (p := ⟨b, 1, none⟩) hC).trans h.size,
    fun m hm => (hb.cell (p := ⟨b, 2 + m, none⟩) hC).trans (h.exp m hm), fun a ha h0 => (hb.cell (p := ⟨b, 1023 + a.toNat, none⟩) hC).trans (h.log a ha h0)⟩
theorem RowAt.belowN {w w' : World} {a : Option Addr} {n C : Nat} {zs : List Int} (h : RowAt w a n zs) (hb : Below C w w') (hC : 0 < n → ∀ x, a = some x → x.block < C) : RowAt w' a n zs := by
  by_cases h0 : 0 < n
  · exact h.below hb (hC h0)
  · exact ⟨h.len, h.small, fun h1 => absurd h1 h0⟩
/-- The closure's variables: the field, the list, the two polynomials, and three numbers. -/
structure RegAt (V : VF) (S : PS (El V)) (w : World) (B : Nat) (k : Nat) (zs : List Int) (a : Option Addr) (n cap : Nat) : Prop where
  cal : ∃ bc, One w B (.pointer (some ⟨bc, 0, none⟩)) ∧ Cal w bc V.F ∧ bc < B
  list : One w (B + 1) (.slice a n cap)
  row : RowAt w a n zs
  rowlt : 0 < n → ∀ x, a = some x → x.block < B
  now : ∃ an ln cn, One w (B + 4) (.slice an ln cn) ∧ (an = none → cn = 0) ∧ (VF.lst V (bm V S k).now).length = ln ∧ OwnL w B (.slice an ln cn) (VF.lst V (bm V S k).now) ∧ Far B (.slice an ln cn)
  before : ∃ an ln cn, One w (B + 5) (.slice an ln cn) ∧ (an = none → cn = 0) ∧ (VF.lst V (bm V S k).before).length = ln ∧ OwnL w B (.slice an ln cn) (VF.lst V (bm V S k).before) ∧ Far B (.slice an ln cn)
  len : One w (B + 6) (.int .i64 ((bm V S k).L : Int))
  shift : One w (B + 7) (.int .i64 ((bm V S k).shift : Int))
  last : One w (B + 8) (.int .i64 (bm V S k).last.val)
theorem Drew.cell {w w' : World} (h : Drew w w') (a : Addr) : w'.cell? a = w.cell? a := by obtain ⟨q, rfl⟩ := h; exact World.cell?_of_block rfl
theorem Drew.frozen {w w' : World} (h : Drew w w') (a : Addr) : w'.frozen? a = w.frozen? a := by obtain ⟨q, rfl⟩ := h; unfold World.frozen?; rfl
theorem RegAt.drew {V : VF} {S : PS (El V)} {w w' : World} {B k : Nat} {zs : List Int} {a : Option Addr} {n cap : Nat} (h : RegAt V S w B k zs a n cap) (hb : Below w.heap.size w w') : RegAt V S w' B k zs a n cap := by
  obtain ⟨bc, h1, h2, h3'⟩ := h.cal
  obtain ⟨an, ln, cn, h3, h4, h5, h6, hf⟩ := h.now
  obtain ⟨ab, lb, cb, h7, h8, h9, h10, hf'⟩ := h.before
  exact ⟨⟨bc, h1.below hb, h2.below hb, h3'⟩, h.list.below hb, h.row.below' hb, h.rowlt, ⟨an, ln, cn, h3.below hb, h4, h5, h6.below hb, hf⟩, ⟨ab, lb, cb, h7.below hb, h8, h9, h10.below hb, hf'⟩, h.len.below hb, h.shift.below hb, h.last.below hb⟩
theorem xpmul_dlt {V : VF} {f : PS (El V)} {m : Nat} (h : f.dlt m) (s : Nat) : PS.dlt (VF.xp V s * f) (s + m) := fun i hi => by
  unfold VF.xp
  rw [VF.X_pow_mul_c, if_pos (by omega)]
  exact h _ (by omega)
theorem bmNext_list {V : VF} {zs : List Int} {k : Nat} (hok : BmOk V (VF.ps V zs) k) {m by' : Int} (hm : V.F.el m) (hq : VF.of V m = ((bm V (VF.ps V zs) k).now * VF.ps V zs).c k) (hb : by' = V.F.neg (V.F.mul m (V.F.inv (bm V (VF.ps V zs) k).last.val))) :
    VF.lst V (VF.ps V (VF.lst V (bm V (VF.ps V zs) k).now) + VF.ps V (VF.lst V (VF.xp V (bm V (VF.ps V zs) k).shift * (PS.C (VF.of V by') * VF.ps V (VF.lst V (bm V (VF.ps V zs) k).before))))) = VF.lst V (bmNext V (VF.ps V zs) k) := by
  have hi := FF.inv_el V.ok (bm V (VF.ps V zs) k).last.val
  have e : VF.of V by' = -(((bm V (VF.ps V zs) k).now * VF.ps V zs).c k * VF.of V (V.F.inv (bm V (VF.ps V zs) k).last.val)) := by
    rw [hb, VF.of_neg (FF.mul_el V.ok _ _), VF.of_mul hm hi, hq]
  rw [VF.lst_eq hok.now, VF.lst_eq hok.before, e]
  rw [VF.lst_eq ((xp_poly _).mul ((PS.isPoly_C _).mul hok.before))]
  unfold bmNext VF.xp
  congr 2
  grind
/-- What is known of the miss after i terms. -/
structure Miss (V : VF) (S : PS (El V)) (k i : Nat) (m : Int) : Prop where
  el : V.F.el m
  eq : VF.of V m = PS.ms (bm V S k).now S k i
theorem Miss.start {V : VF} {zs : List Int} {k : Nat} (hz : VF.els V zs) (hok : BmOk V (VF.ps V zs) k) : Miss V (VF.ps V zs) k 1 (gi zs k) :=
  ⟨hz.getD k, by
    show _ = (0 : El V) + (bm V (VF.ps V zs) k).now.c 0 * (VF.ps V zs).c (k - 0)
    rw [hok.one, Nat.sub_zero, VF.ps_c]; unfold gi; grind⟩
theorem Miss.next {V : VF} {zs : List Int} {k i : Nat} {m : Int} (h : Miss V (VF.ps V zs) k i m) (hz : VF.els V zs) (hok : BmOk V (VF.ps V zs) k) :
    Miss V (VF.ps V zs) k (i + 1) (V.F.add m (V.F.mul (gi (VF.lst V (bm V (VF.ps V zs) k).now) i) (gi zs (k - i)))) := by
  have hp := VF.lst_ok hok.now
  have he : V.F.el (gi (VF.lst V (bm V (VF.ps V zs) k).now) i) := hp.1.els.getD i
  have he2 : V.F.el (gi zs (k - i)) := hz.getD (k - i)
  refine ⟨FF.add_el V.ok h.el (FF.mul_el V.ok _ _), ?_⟩
  rw [VF.of_add h.el (FF.mul_el V.ok _ _), VF.of_mul he he2, h.eq]
  show _ + _ = PS.ms _ _ k i + (bm V (VF.ps V zs) k).now.c i * (VF.ps V zs).c (k - i)
  congr 2
  show VF.of V ((VF.lst V (bm V (VF.ps V zs) k).now).getD i 0) = _
  rw [← VF.ps_c, hp.2]
theorem Miss.full {V : VF} {zs : List Int} {k i : Nat} {m : Int} (h : Miss V (VF.ps V zs) k i m) (hok : BmOk V (VF.ps V zs) k) (hi : (bm V (VF.ps V zs) k).L + 1 ≤ i ∨ (VF.lst V (bm V (VF.ps V zs) k).now).length ≤ i) (hk : i ≤ k + 1) :
    VF.of V m = ((bm V (VF.ps V zs) k).now * VF.ps V zs).c k := by
  rw [h.eq]
  have hd : (bm V (VF.ps V zs) k).now.dlt (VF.lst V (bm V (VF.ps V zs) k).now).length := by
    have := VF.ps_dlt (V := V) (VF.lst V (bm V (VF.ps V zs) k).now)
    rw [VF.lst_eq hok.now] at this; exact this
  have := hok.nlen
  exact PS.ms_full hd (.inl (by omega)) hk
/-- Nothing but the five variables from B + 4 on has been written. -/
structure Only (B : Nat) (w w' : World) : Prop where
  below : Below B w w'
  block : ∀ g, (g < B + 4 ∨ B + 8 < g) → w'.heap[g]? = w.heap[g]?
theorem Only.refl (B : Nat) (w : World) : Only B w w := ⟨Below.refl _ _, fun _ _ => rfl⟩
theorem Only.set {B : Nat} {w w' : World} (h : Only B w w') {c o : Nat} (h1 : B + 4 ≤ c) (h2 : c ≤ B + 8) (x : Value) : Only B w (w'.setCell ⟨c, o, none⟩ x) :=
  ⟨h.below.setCell (p := ⟨c, o, none⟩) (show B ≤ c by omega) x, fun g hg => (Below.heap_setCell _ _ _ _ (show g ≠ c by omega)).trans (h.block g hg)⟩
theorem Only.drewN {B : Nat} {w w' : World} (h : Only B w w') (q : Nat) : Only B w (w'.drewN q) := ⟨below_drewN h.below q, h.block⟩
theorem One.drewN {w : World} {b : Nat} {v : Value} (h : One w b v) (q : Nat) : One (w.drewN q) b v := h
theorem One.only {B : Nat} {w w' : World} {b : Nat} {v : Value} (h : One w b v) (ho : Only B w w') (hb : b < B + 4) : One w' b v := by
  obtain ⟨T, h⟩ := h; exact ⟨T, (ho.block b (.inl hb)).trans h⟩
theorem OwnL.only {B : Nat} {w w' : World} {v : Value} {zs : List Int} (h : OwnL w B v zs) (ho : Only B w w') (hf : Far B v) : OwnL w' B v zs := by
  obtain ⟨hB, hl, h2⟩ := h
  refine ⟨by have := ho.below.size; omega, hl, ?_⟩
  rcases h2 with h2 | ⟨g, cap, cur, rfl, hg, hh, r⟩
  · exact .inl h2
  · have := hf g rfl
    exact .inr ⟨g, cap, cur, rfl, hg, (ho.block g (by omega)).trans hh, r⟩
theorem RegAt.next {V : VF} {S : PS (El V)} {w w' : World} {B k : Nat} {zs : List Int} {a : Option Addr} {n cap : Nat} (h : RegAt V S w B k zs a n cap) (ho : Only B w w')
    {an : Option Addr} {ln cn : Nat} (h4 : One w' (B + 4) (.slice an ln cn)) (han : an = none → cn = 0) (hln : (VF.lst V (bm V S (k + 1)).now).length = ln) (hon : OwnL w B (.slice an ln cn) (VF.lst V (bm V S (k + 1)).now)) (hfn : Far B (.slice an ln cn))
    {ab : Option Addr} {lb cb : Nat} (h5 : One w' (B + 5) (.slice ab lb cb)) (hab : ab = none → cb = 0) (hlb : (VF.lst V (bm V S (k + 1)).before).length = lb) (hob : OwnL w B (.slice ab lb cb) (VF.lst V (bm V S (k + 1)).before)) (hfb : Far B (.slice ab lb cb))
    (h6 : One w' (B + 6) (.int .i64 ((bm V S (k + 1)).L : Int))) (h7 : One w' (B + 7) (.int .i64 ((bm V S (k + 1)).shift : Int))) (h8 : One w' (B + 8) (.int .i64 (bm V S (k + 1)).last.val)) : RegAt V S w' B (k + 1) zs a n cap := by
  obtain ⟨bc, g1, g2, g3⟩ := h.cal
  exact ⟨⟨bc, g1.only ho (by omega), g2.belowC ho.below g3, g3⟩, h.list.only ho (by omega), h.row.belowN ho.below h.rowlt, h.rowlt, ⟨_, _, _, h4, han, hln, hon.only ho hfn, hfn⟩, ⟨_, _, _, h5, hab, hlb, hob.only ho hfb, hfb⟩, h6, h7, h8⟩
/-- The five variables. -/
structure Five (w : World) (B : Nat) (v4 v5 v6 v7 v8 : Value) : Prop where
  h4 : One w (B + 4) v4
  h5 : One w (B + 5) v5
  h6 : One w (B + 6) v6
  h7 : One w (B + 7) v7
  h8 : One w (B + 8) v8
theorem Five.set4 {w : World} {B : Nat} {v4 v5 v6 v7 v8 : Value} (h : Five w B v4 v5 v6 v7 v8) (x : Value) : Five (w.setCell ⟨B + 4, 0, none⟩ x) B x v5 v6 v7 v8 := ⟨h.h4.set _, h.h5.other (by omega), h.h6.other (by omega), h.h7.other (by omega), h.h8.other (by omega)⟩
theorem Five.set5 {w : World} {B : Nat} {v4 v5 v6 v7 v8 : Value} (h : Five w B v4 v5 v6 v7 v8) (x : Value) : Five (w.setCell ⟨B + 5, 0, none⟩ x) B v4 x v6 v7 v8 := ⟨h.h4.other (by omega), h.h5.set _, h.h6.other (by omega), h.h7.other (by omega), h.h8.other (by omega)⟩
theorem Five.set6 {w : World} {B : Nat} {v4 v5 v6 v7 v8 : Value} (h : Five w B v4 v5 v6 v7 v8) (x : Value) : Five (w.setCell ⟨B + 6, 0, none⟩ x) B v4 v5 x v7 v8 := ⟨h.h4.other (by omega), h.h5.other (by omega), h.h6.set _, h.h7.other (by omega), h.h8.other (by omega)⟩
theorem Five.set7 {w : World} {B : Nat} {v4 v5 v6 v7 v8 : Value} (h : Five w B v4 v5 v6 v7 v8) (x : Value) : Five (w.setCell ⟨B + 7, 0, none⟩ x) B v4 v5 v6 x v8 := ⟨h.h4.other (by omega), h.h5.other (by omega), h.h6.other (by omega), h.h7.set _, h.h8.other (by omega)⟩
theorem Five.set8 {w : World} {B : Nat} {v4 v5 v6 v7 v8 : Value} (h : Five w B v4 v5 v6 v7 v8) (x : Value) : Five (w.setCell ⟨B + 8, 0, none⟩ x) B v4 v5 v6 v7 x := ⟨h.h4.other (by omega), h.h5.other (by omega), h.h6.other (by omega), h.h7.other (by omega), h.h8.set _⟩
theorem Five.drew {w : World} {B : Nat} {v4 v5 v6 v7 v8 : Value} (h : Five w B v4 v5 v6 v7 v8) : Five w.drew B v4 v5 v6 v7 v8 := ⟨h.h4, h.h5, h.h6, h.h7, h.h8⟩
theorem Only.drew {B : Nat} {w w' : World} (h : Only B w w') : Only B w w'.drew := h.drewN 1
/-- The state behind a step that lengthens the recurrence. -/
theorem RegAt.long {V : VF} {S : PS (El V)} {w : World} {B k L l6 ln : Nat} {m : Int} {zs : List Int} {a an a6 : Option Addr} {n cap cn c6 : Nat} {v4 v5 v6 v7 v8 : Value} (h : RegAt V S w B k zs a n cap)
    (hF : Five w B v4 v5 v6 v7 v8) (e : bm V S (k + 1) = ⟨bmNext V S k, (bm V S k).now, k + 1 - (bm V S k).L, 1, ((bm V S k).now * S).c k⟩) (hL : (bm V S k).L = L) (hLk : L ≤ k) (hm : (((bm V S k).now * S).c k).val = m)
    (h6 : a6 = none → c6 = 0) (hl6 : (VF.lst V (bmNext V S k)).length = l6) (ho6 : OwnL w B (.slice a6 l6 c6) (VF.lst V (bmNext V S k))) (hf6 : Far B (.slice a6 l6 c6))
    (hn : an = none → cn = 0) (hln : (VF.lst V (bm V S k).now).length = ln) (hon : OwnL w B (.slice an ln cn) (VF.lst V (bm V S k).now)) (hfn : Far B (.slice an ln cn)) :
    Below B w ((((((w.setCell ⟨B + 6, 0, none⟩ (.int .i64 ((k : Int) + 1 - (L : Int)))).setCell ⟨B + 5, 0, none⟩ (.slice an ln cn)).setCell ⟨B + 8, 0, none⟩ (.int .i64 m)).setCell ⟨B + 7, 0, none⟩ (.int .i64 0)).setCell ⟨B + 4, 0, none⟩ (.slice a6 l6 c6)).setCell ⟨B + 7, 0, none⟩ (.int .i64 1)).drew ∧
    RegAt V S ((((((w.setCell ⟨B + 6, 0, none⟩ (.int .i64 ((k : Int) + 1 - (L : Int)))).setCell ⟨B + 5, 0, none⟩ (.slice an ln cn)).setCell ⟨B + 8, 0, none⟩ (.int .i64 m)).setCell ⟨B + 7, 0, none⟩ (.int .i64 0)).setCell ⟨B + 4, 0, none⟩ (.slice a6 l6 c6)).setCell ⟨B + 7, 0, none⟩ (.int .i64 1)).drew B (k + 1) zs a n cap := by
  have F := ((((((hF.set6 (.int .i64 ((k : Int) + 1 - (L : Int)))).set5 (.slice an ln cn)).set8 (.int .i64 m)).set7 (.int .i64 0)).set4 (.slice a6 l6 c6)).set7 (.int .i64 1)).drew
  have HO := (((((((Only.refl B w).set (c := B + 6) (o := 0) (by omega) (by omega) (.int .i64 ((k : Int) + 1 - (L : Int)))).set (c := B + 5) (o := 0) (by omega) (by omega) (.slice an ln cn)).set (c := B + 8) (o := 0) (by omega) (by omega) (.int .i64 m)).set (c := B + 7) (o := 0) (by omega) (by omega) (.int .i64 0)).set (c := B + 4) (o := 0) (by omega) (by omega) (.slice a6 l6 c6)).set (c := B + 7) (o := 0) (by omega) (by omega) (.int .i64 1)).drew
  refine ⟨HO.below, h.next HO F.h4 h6 (by rw [e]; exact hl6) (by rw [e]; exact ho6) hf6 F.h5 hn (by rw [e]; exact hln) (by rw [e]; exact hon) hfn ?_ ?_ ?_⟩
  · rw [e]
    show One _ _ (.int .i64 ((k + 1 - (bm V S k).L : Nat) : Int))
    rw [hL, show ((k + 1 - L : Nat) : Int) = (k : Int) + 1 - (L : Int) by omega]; exact F.h6
  · rw [e]; exact F.h7
  · rw [e]
    show One _ _ (.int .i64 (((bm V S k).now * S).c k).val)
    rw [hm]; exact F.h8
/-- The state behind a step that does not. -/
theorem RegAt.short {V : VF} {S : PS (El V)} {w : World} {B k sh l6 lb : Nat} {zs : List Int} {a ab a6 : Option Addr} {n cap cb c6 : Nat} {v4 v7 : Value} (h : RegAt V S w B k zs a n cap)
    (hF : Five w B v4 (.slice ab lb cb) (.int .i64 ((bm V S k).L : Int)) v7 (.int .i64 (bm V S k).last.val)) (e : bm V S (k + 1) = { bm V S k with now := bmNext V S k, shift := (bm V S k).shift + 1 }) (hsh : (bm V S k).shift = sh)
    (h6 : a6 = none → c6 = 0) (hl6 : (VF.lst V (bmNext V S k)).length = l6) (ho6 : OwnL w B (.slice a6 l6 c6) (VF.lst V (bmNext V S k))) (hf6 : Far B (.slice a6 l6 c6))
    (hn : ab = none → cb = 0) (hlb : (VF.lst V (bm V S k).before).length = lb) (hob : OwnL w B (.slice ab lb cb) (VF.lst V (bm V S k).before)) (hfb : Far B (.slice ab lb cb)) :
    Below B w ((w.setCell ⟨B + 4, 0, none⟩ (.slice a6 l6 c6)).setCell ⟨B + 7, 0, none⟩ (.int .i64 ((sh : Int) + 1))) ∧
    RegAt V S ((w.setCell ⟨B + 4, 0, none⟩ (.slice a6 l6 c6)).setCell ⟨B + 7, 0, none⟩ (.int .i64 ((sh : Int) + 1))) B (k + 1) zs a n cap := by
  have F := (hF.set4 (.slice a6 l6 c6)).set7 (.int .i64 ((sh : Int) + 1))
  have HO := ((Only.refl B w).set (c := B + 4) (o := 0) (by omega) (by omega) (.slice a6 l6 c6)).set (c := B + 7) (o := 0) (by omega) (by omega) (.int .i64 ((sh : Int) + 1))
  refine ⟨HO.below, h.next HO F.h4 h6 (by rw [e]; exact hl6) (by rw [e]; exact ho6) hf6 F.h5 hn (by rw [e]; exact hlb) (by rw [e]; exact hob) hfb (by rw [e]; exact F.h6) ?_ (by rw [e]; exact F.h8)⟩
  rw [e]
  show One _ _ (.int .i64 (((bm V S k).shift + 1 : Nat) : Int))
  rw [hsh, show ((sh + 1 : Nat) : Int) = (sh : Int) + 1 by omega]; exact F.h7
theorem RegAt.shiftUp {V : VF} {S : PS (El V)} {w : World} {B k : Nat} {zs : List Int} {a : Option Addr} {n cap : Nat} (h : RegAt V S w B k zs a n cap) (e : bm V S (k + 1) = { bm V S k with shift := (bm V S k).shift + 1 }) {sh : Nat} (hs : (bm V S k).shift = sh) :
    RegAt V S (w.setCell ⟨B + 7, 0, none⟩ (.int .i64 ((sh : Int) + 1))) B (k + 1) zs a n cap := by
  obtain ⟨bc, h1, h2, h3'⟩ := h.cal
  obtain ⟨an, ln, cn, h3, h4, h5, h6, hf⟩ := h.now
  obtain ⟨ab, lb, cb, h7, h8, h9, h10, hf'⟩ := h.before
  have hb : Below B w (w.setCell ⟨B + 7, 0, none⟩ (.int .i64 ((sh : Int) + 1))) := (Below.refl B w).setCell (p := ⟨B + 7, 0, none⟩) (by simp) _
  refine ⟨⟨bc, h1.other (by omega), h2.belowC hb h3', h3'⟩, h.list.other (by omega), h.row.belowN hb h.rowlt, h.rowlt, ⟨an, ln, cn, h3.other (by omega), h4, ?_, ?_, hf⟩, ⟨ab, lb, cb, h7.other (by omega), h8, ?_, ?_, hf'⟩, ?_, ?_, ?_⟩
  · rw [e]; exact h5
  · rw [e]; exact h6.other (fun g hg => (hf g hg).2.2.2.2.2.1)
  · rw [e]; exact h9
  · rw [e]; exact h10.other (fun g hg => (hf' g hg).2.2.2.2.2.1)
  · rw [e]; exact h.len.other (by omega)
  · rw [e]
    have := h.shift.set (.int .i64 ((sh : Int) + 1))
    show One _ _ (.int .i64 (((bm V S k).shift + 1 : Nat) : Int))
    rw [hs, show ((sh + 1 : Nat) : Int) = (sh : Int) + 1 by omega]; exact this
  · rw [e]; exact h.last.other (by omega)
set_option maxRecDepth 100000 in
set_option maxHeartbeats 16000000 in
theorem regStep_any {V : VF} {w : World} {B k : Nat} {zs : List Int} {a : Option Addr} {n cap : Nat} (hz : VF.els V zs) (hn : n ≤ 64) (hk : k < n) (h : RegAt V (VF.ps V zs) w B k zs a n cap) :
    Calls Try.prog 120 #[.int .i64 k, .pointer (some ⟨B + 1, 0, none⟩), .pointer (some ⟨B + 6, 0, none⟩), .pointer (some ⟨B + 4, 0, none⟩), .pointer (some ⟨B, 0, none⟩), .pointer (some ⟨B + 7, 0, none⟩), .pointer (some ⟨B + 8, 0, none⟩), .pointer (some ⟨B + 5, 0, none⟩)] w fun e w' => e = .returned (.tuple #[]) ∧ Below B w w' ∧ RegAt V (VF.ps V zs) w' B (k + 1) zs a n cap := by
  have H := Lib.hid h
  have hok := bm_ok (V := V) (VF.ps V zs) k
  have HOK := Lib.hid hok
  obtain ⟨bc, hB0, hcal, hbcl⟩ := h.cal
  obtain ⟨an, ln, cn, hB4, _, hln, hown, _⟩ := h.now
  obtain ⟨b1, o1, rfl, hb1, hcs⟩ := h.row.at' (by omega)
  have HLN := Lib.hid hln
  have c0 := hB0.cell
  have c1 := h.list.cell
  have c4 := hB4.cell
  have c6 := h.len.cell
  have hcell := hcs k hk
  clear hcs h hok
  go_enter Try.func120, Try.ntmps120
  go_wp2_with fail
  have HM0 := Lib.hid (Miss.start (k := k) hz HOK.out)
  have HZ := Lib.hid hz
  clear hz
  obtain ⟨L, hL⟩ : ∃ L, (bm V (VF.ps V zs) k).L = L := ⟨_, rfl⟩
  have HL := Lib.hid hL
  rw [hL] at c6
  have hLk : L ≤ k := by have := HOK.out.le; omega
  have hlnL : ln ≤ L + 1 := by have := HOK.out.nlen; omega
  clear hL hln
  go_loopw [9, 10] (fun ms t wr => ∃ (i : Nat) (m : Int), 1 ≤ i ∧ i ≤ L + 1 ∧ t = .int .i64 i ∧ ms = .int .i64 m ∧ Hid (Miss V (VF.ps V zs) k i m) ∧ Hid (Drew w wr)) (fun _ t _ => (L + 2 - intOf t).toNat)
  case atStart => exact ⟨1, _, by omega, by omega, rfl, rfl, HM0, Lib.hid (Drew.refl _)⟩
  case round =>
    obtain ⟨i, m, hi1, hiL, rfl, rfl, hm, hd⟩ := hrel
    clear HM0
    have d0 := (hd.out.cell _).trans c0
    have d1 := (hd.out.cell _).trans c1
    have d4 := (hd.out.cell _).trans c4
    have d6 := (hd.out.cell _).trans c6
    by_cases hlt : i ≤ L ∧ i < ln
    · obtain ⟨hl1, hl2⟩ := hlt
      obtain ⟨_, _, e5, -, hra⟩ := hown.shape
      simp only [Value.slice.injEq] at e5
      obtain ⟨rfl, -, -⟩ := e5
      rw [HLN.out] at hra
      obtain ⟨b2, o2, rfl, hb2, hcs⟩ := hra.row.at' (by omega)
      have hcn := (hd.out.cell _).trans (hcs i hl2)
      obtain ⟨b3, o3, e3, hb3, hcs3⟩ := H.out.row.at' (by omega)
      have hcz := (hd.out.cell _).trans (hcs3 (k - i) (by omega))
      simp only [Option.some.injEq, Addr.mk.injEq, and_true] at e3
      obtain ⟨rfl, rfl⟩ := e3
      obtain ⟨J, hJ⟩ : ∃ J, k - i = J := ⟨_, rfl⟩
      have HNX := Lib.hid (hm.out.next HZ.out HOK.out)
      rw [hJ] at hcz HNX
      have he1 : V.F.el (gi (VF.lst V (bm V (VF.ps V zs) k).now) i) := (VF.lst_isP HOK.out.now).els.getD i
      have he2 : V.F.el (gi zs J) := HZ.out.getD J
      have hmm := FF.mul_el V.ok (gi (VF.lst V (bm V (VF.ps V zs) k).now) i) (gi zs J)
      have HM := Lib.hid (fun W (hw : Drew w W) => mul_any (hw.cal hcal) _ _ he1 he2)
      have HA := Lib.hid (fun W (hw : Drew w W) => (add_any (hw.cal hcal) m _ hm.out.el hmm).mono fun e w' h => (⟨h.1, h.2.symm⟩ : _ ∧ w' = W))
      have eJ : (k : Int) - (i : Int) = (J : Int) := by omega
      have q1 : IntKind.i64.wrap (J : Int) = (J : Int) := IntWalk.i64_in _ (by omega)
      have q2 : (J : Int) < (n : Int) := by omega
      have q3 : (i : Int) < (ln : Int) := by omega
      have q4 : (i : Int) ≤ (L : Int) := by omega
      clear hcs hcs3 hra hJ he1 he2 hmm hlnL
      generalize V.F.mul (gi (VF.lst V (bm V (VF.ps V zs) k).now) i) (gi zs J) = y at *
      generalize gi (VF.lst V (bm V (VF.ps V zs) k).now) i = y1 at *
      generalize gi zs J = y2 at *
      go_wp2_with fail
      go_quiet (first | (go_at_call 66; exact Calls.quiet_of (HM.out _ (hd.out.more _))) | (go_at_call 74; exact Calls.quiet_of_same (HA.out _ (hd.out.more _))))
      go_wp2_with fail
      go_roundw
      case rel => exact ⟨i + 1, _, by omega, by omega, by go_num, rfl, HNX, Lib.hid (hd.out.more _)⟩
      case measure => simp [intOf]; omega
    · have HF := Lib.hid (hm.out.full HOK.out (by rw [HL.out, HLN.out]; omega) (by omega))
      have hmel := hm.out.el
      have d5s := H.out.shift.below (hd.out.below w.heap.size)
      have HD := Lib.hid hd.out
      have HW := Lib.hid (H.out.drew (hd.out.below w.heap.size))
      have hBel := Lib.hid (hd.out.below B)
      clear hd
      have hguard : decide (i ≤ L) = false ∨ (decide (i ≤ L) = true ∧ decide (i < ln) = false) := by
        by_cases h1 : i ≤ L
        · exact .inr ⟨by simpa using h1, by simp; omega⟩
        · exact .inl (by simpa using h1)
      by_cases hm0 : m = 0
      · have hmb : (m == 0) = true := by simp [hm0]
        have HB := Lib.hid (bm_zero (VF.ps V zs) (k := k) (by rw [← HF.out, hm0]; exact VF.of_zero))
        have dc := d5s.cell
        have df := d5s.frozen
        have hshb := HOK.out.shift
        obtain ⟨sh, hsh⟩ : ∃ sh, (bm V (VF.ps V zs) k).shift = sh := ⟨_, rfl⟩
        rw [hsh] at dc hshb
        have HSH := Lib.hid hsh
        clear hsh d5s hm0 hlt
        rcases hguard with hg1 | ⟨hg1, hg2⟩
        all_goals
          go_wp2_with fail
          refine bodyPost_ret (v := .tuple #[]) (by simp [results, Try.results120, go_sem]) rfl ⟨rfl, hBel.out.setCell (p := ⟨B + 7, 0, none⟩) (by simp) _, ?_⟩
          exact HW.out.shiftUp HB.out HSH.out
      · have hmb : (m == 0) = false := by simp [hm0]
        obtain ⟨ab, lb, cb, hB5, hab, hlb, hob, hfb⟩ := HW.out.before
        obtain ⟨an', ln', cn', hB4', han, hln', hon, hfn⟩ := HW.out.now
        have e4 := hB4'.cell
        have e5 := hB5.cell
        have e7 := HW.out.shift.cell
        have e8 := HW.out.last.cell
        have d0' := d0
        have hlast0 := HOK.out.last
        have hlastel := (bm V (VF.ps V zs) k).last.el
        have HQ := Lib.hid (show VF.of V m = ((bm V (VF.ps V zs) k).now * VF.ps V zs).c k from HF.out)
        have hsb := HOK.out.shift
        obtain ⟨bc', hcal', _⟩ : ∃ bc', Cal wr bc V.F ∧ True := ⟨0, HD.out.cal hcal, trivial⟩
        have HCAL := Lib.hid hcal'
        have hinv := FF.inv_el V.ok (bm V (VF.ps V zs) k).last.val
        have hmi := FF.mul_el V.ok m (V.F.inv (bm V (VF.ps V zs) k).last.val)
        have hby := FF.neg_el hmi
        have HI := Lib.hid (fun W (hw : Drew wr W) => inv_any (hw.cal HCAL.out) (bm V (VF.ps V zs) k).last.val hlastel hlast0)
        have HM := Lib.hid (fun W (hw : Drew wr W) => mul_any (hw.cal HCAL.out) m _ hmel hinv)
        have HN := Lib.hid (fun W (hw : Drew wr W) => (neg_any (hw.cal HCAL.out) _ hmi).mono fun e w' h => (⟨h.1, h.2.symm⟩ : _ ∧ w' = W))
        clear hcal' hlast0 hlastel d5s hm0 hlt
        rcases hguard with hg1 | ⟨hg1, hg2⟩
        all_goals
          go_wp2_with fail
          go_quiet (first | (go_at_call 121; exact Calls.quiet_of (HI.out _ (drew4 _ _))) | (go_at_call 66; exact Calls.quiet_of (HM.out _ (drew4 _ _))) | (go_at_call 117; exact Calls.quiet_of_same (HN.out _ (drew4 _ _))))
          have hdq := drew4 wr nq
          generalize wr.drewN nq = wv at *
          have hdb := hdq.below wr.heap.size
          have HBv := Lib.hid (hBel.out.trans (hdq.below B))
          have HV := Lib.hid (HW.out.drew hdb)
          have g0 := (hB0.below ((HD.out.below w.heap.size).trans (hdq.below w.heap.size)))
          have g4 := hB4'.below hdb
          have g5 := hB5.below hdb
          have g7 := HW.out.shift.below hdb
          have HON := Lib.hid (hon.below hdb)
          have HOB := Lib.hid (hob.below hdb)
          have hcalv := HCAL.out.below hdb
          have HCV := Lib.hid hcalv
          obtain ⟨sh, hsh⟩ : ∃ sh, (bm V (VF.ps V zs) k).shift = sh := ⟨_, rfl⟩
          have HSH := Lib.hid hsh
          have HBN := Lib.hid (bmNext_list HOK.out hmel HQ.out rfl)
          rw [hsh] at HBN g7 hsb
          have hlbb := HOK.out.blen
          rw [hlb] at hlbb
          have hlnb := HOK.out.nlen
          rw [hln', HL.out] at hlnb
          have hbp := VF.lst_isP HOK.out.before
          have hnp := VF.lst_isP HOK.out.now
          obtain ⟨_, _, ex, -, hob2⟩ := HOB.out.shape
          simp only [Value.slice.injEq] at ex
          obtain ⟨rfl, -, -⟩ := ex
          obtain ⟨_, _, ex, -, hon2⟩ := HON.out.shape
          simp only [Value.slice.injEq] at ex
          obtain ⟨rfl, -, -⟩ := ex
          rw [hlb] at hob2
          rw [hln'] at hon2
          have HRB := Lib.hid hob2.row
          have HRN := Lib.hid hon2.row
          have HAN := Lib.hid han
          have HAB := Lib.hid hab
          generalize hby9 : V.F.neg (V.F.mul m (V.F.inv (bm V (VF.ps V zs) k).last.val)) = bq at *
          have hl5 : (VF.lst V (VF.xp V sh * (PS.C (VF.of V bq) * VF.ps V (VF.lst V (bm V (VF.ps V zs) k).before)))).length ≤ sh + lb := by
            refine VF.lst_len (xpmul_dlt (PS.dlt_C_mul _ ?_) sh)
            have := VF.ps_dlt (V := V) (VF.lst V (bm V (VF.ps V zs) k).before)
            rw [hlb] at this; exact this
          have hels5 := (VF.lst_isP (V := V) (f := VF.xp V sh * (PS.C (VF.of V bq) * VF.ps V (VF.lst V (bm V (VF.ps V zs) k).before))) ((xp_poly _).mul ((PS.isPoly_C _).mul (VF.ps_poly _)))).els
          have HSC := Lib.hid (fun W (hw : Drew wv W) => scaled_any (V := V) (cap := cb) (hw.cal HCV.out) (hw.row HRB.out) (by omega) hbp bq hby sh (by omega))
          generalize VF.lst V (VF.xp V sh * (PS.C (VF.of V bq) * VF.ps V (VF.lst V (bm V (VF.ps V zs) k).before))) = l5 at *
          have HPL := Lib.hid (fun W (hb : Below wv.heap.size wv W) (a5 : Option Addr) (c5 : Nat) (hr : RowAt W a5 l5.length l5) => plus_any (V := V) (cap := cn') (capA := 1) ((HCV.out.below hb).below (below1 W (.cells #[.slice a5 l5.length c5] 100))) ((HRN.out.below' hb).below' (below1 W (.cells #[.slice a5 l5.length c5] 100))) HAN.out (by omega) (rows_one W 100 a5 l5.length c5 l5 hr _ rfl) (by omega) hnp.els hels5)
          have f0 := g0.cell
          have f4 := g4.cell
          have f5 := g5.cell
          have f7 := g7.cell
          clear HI HM HN hinv hmi hby hcalv hob2 hon2 hbp hnp hels5 hsh hby9 hdq hdb d0 d1 d4 d6 d0' e4 e5 e7 e8 hob hon hB4' hB5 hlnb hlbb hl5 c0 c1 c4 c6
          go_wp2_with fail
          go_region_held3 (fun w' => w'.cell? ⟨B + 4, 0, none⟩ = some (.slice an' ln' cn') ∧ w'.cell? ⟨B, 0, none⟩ = some (.pointer (some ⟨bc, 0, none⟩)) ∧ w'.cell? ⟨B + 5, 0, none⟩ = some (.slice ab lb cb) ∧ w'.cell? ⟨B + 7, 0, none⟩ = some (.int .i64 (sh : Int)))
            (first | go_keep | ((try (dsimp only)); go_split_ands; (repeat' apply And.intro); all_goals (first | go_keep | exact keep_cell hbP (by assumption) | exact keep_cell hbS (by assumption))))
            (first | (go_at_call 123; refine (HSC.out _ (drew1 _)).mono ?_; rintro e w5 ⟨v5, rfl, hbS, hoS⟩; obtain ⟨a5, c5, rfl, -, -, hat5⟩ := hoS.cap; have hb5 := Below.trans (Drew.below (drew1 wv) wv.heap.size) hbS) | (go_at_call 122; refine (HPL.out w5 hb5 _ _ hat5.row).mono ?_; rintro e w6 ⟨v6, rfl, hbP, hoP⟩))
          have h6b := Below.more (hb5.trans ((below1 w5 (.cells #[.slice a5 l5.length c5] 100)).mono hb5.size)) (Nat.le_refl _) hbP
          have HV6 := Lib.hid (HV.out.drew h6b)
          have HB6 := Lib.hid (HBv.out.trans (h6b.mono (by have := HV.out.last.lt; omega)))
          have HON6 := Lib.hid (HON.out.below h6b)
          have HOB6 := Lib.hid (HOB.out.below h6b)
          rw [HBN.out] at hoP
          have hbase : B + 8 < (w5.alloc (.cells #[.slice a5 l5.length c5] 100)).heap.size := by have h1 := HV.out.last.lt; have h2 := hb5.size; simp; omega
          have HOP := Lib.hid (hoP.lower (C := B) (by omega))
          obtain ⟨a6, c6', rfl, -, hn6, -⟩ := hoP.cap
          have HFP := Lib.hid (Far.of hoP hbase)
          have HN6 := Lib.hid hn6
          have HLN' := Lib.hid hln'
          have HLB := Lib.hid hlb
          have HFN := Lib.hid hfn
          have HFB := Lib.hid hfb
          obtain ⟨l6, hl6⟩ : ∃ l6, (VF.lst V (bmNext V (VF.ps V zs) k)).length = l6 := ⟨_, rfl⟩
          have HL6 := Lib.hid hl6
          rw [hl6] at HOP HFP ⊢
          obtain ⟨ab6, lb6, cb6, j5, _⟩ := HV6.out.before
          obtain ⟨an6, ln6, cn6, j4, _⟩ := HV6.out.now
          have j6 := HV6.out.len
          have j7 := HV6.out.shift
          have j8 := HV6.out.last
          rw [HL.out] at j6
          rw [HSH.out] at j7
          have g4' := g4.below h6b
          have g5' := g5.below h6b
          have J4 := Lib.hid g4'
          have J5 := Lib.hid g5'
          have J6 := Lib.hid j6
          have J7 := Lib.hid j7
          have J8 := Lib.hid j8
          have x4 := g4'.cell
          have y4 := g4'.frozen
          have y5 := g5'.frozen
          have x5 := g5'.cell
          have x6 := j6.cell
          have y6 := j6.frozen
          have x7 := j7.cell
          have y7 := j7.frozen
          have x8 := j8.cell
          have y8 := j8.frozen
          have hm0' : ¬ ((bm V (VF.ps V zs) k).now * VF.ps V zs).c k = 0 := by
            rw [← HQ.out, VF.of_eq_zero hmel]; simpa using hmb
          have HM0 := Lib.hid hm0'
          have HVAL := Lib.hid (show (((bm V (VF.ps V zs) k).now * VF.ps V zs).c k).val = m by rw [← HQ.out]; exact VF.of_val hmel)
          clear hbS hoS hat5 hb5 hbP hoP h6b hbase hn6 hl6 j4 j5 j6 j7 j8 g4 g5 g4' g5' f0 f4 f5 f7 g7 g0 hm0' hln' hlb hfn hfb
          by_cases h2L : 2 * L ≤ k
          · have hi2 : (2 : Int) * (L : Int) ≤ (k : Int) := by omega
            have HBM := Lib.hid (bm_long (V := V) (VF.ps V zs) (k := k) HM0.out (by rw [HL.out]; exact h2L))
            have w1 : IntKind.i64.wrap ((k : Int) + 1) = (k : Int) + 1 := IntWalk.i64_in _ (by omega)
            have w2 : IntKind.i64.wrap ((k : Int) + 1 - (L : Int)) = (k : Int) + 1 - (L : Int) := IntWalk.i64_in _ (by omega)
            go_wp2_with fail
            go_region
            go_wp2_with fail
            go_end0
            obtain ⟨r1, r2⟩ := HV6.out.long ⟨J4.out, J5.out, J6.out, J7.out, J8.out⟩ HBM.out HL.out hLk HVAL.out HN6.out HL6.out HOP.out HFP.out HAN.out HLN'.out HON6.out HFN.out
            exact ⟨rfl, HB6.out.trans r1, r2⟩
          · have hi2 : ¬ (2 : Int) * (L : Int) ≤ (k : Int) := by omega
            have HBM := Lib.hid (bm_short (V := V) (VF.ps V zs) (k := k) HM0.out (by rw [HL.out]; exact h2L))
            go_wp2_with fail
            go_end0
            obtain ⟨r1, r2⟩ := HV6.out.short ⟨J4.out, J5.out, by rw [HL.out]; exact J6.out, J7.out, J8.out⟩ HBM.out HSH.out HN6.out HL6.out HOP.out HFP.out HAB.out HLB.out HOB6.out HFB.out
            exact ⟨rfl, HB6.out.trans r1, r2⟩
end Go.Proofs.Ytfhkkpfiflgofaa
/-
  The walk of register.
-/
namespace Go.Proofs.Ytfhkkpfiflgofaa
open Go.RowKit
set_option linter.unusedVariables false

theorem One.new (w : World) (v : Value) (T : TypeId) (b : Nat) (hb : b = w.heap.size) : One (w.alloc (.cells #[v] T)) b v := by subst hb; exact ⟨T, heap_alloc_new w _⟩
/-- The world behind the making of the closure's variables. -/
def regW (w : World) (b : Nat) (a : Option Addr) (n cap : Nat) (T0 T1 T4 T5 T6 T7 T8 : TypeId) : World :=
  ((((((((w.alloc (.cells #[.pointer (some ⟨b, 0, none⟩)] T0)).alloc (.cells #[.slice a n cap] T1)).alloc (.cells #[.int .i64 1] 2)).alloc (.cells #[.int .i64 1] 2)).alloc (.cells #[.slice (some ⟨w.heap.size + 1 + 1, 0, none⟩) 1 1] T4)).alloc (.cells #[.slice (some ⟨w.heap.size + 1 + 1 + 1, 0, none⟩) 1 1] T5)).alloc (.cells #[.int .i64 0] T6)).alloc (.cells #[.int .i64 1] T7)).alloc (.cells #[.int .i64 1] T8)
theorem reg_start {V : VF} (S : PS (El V)) {w : World} {b : Nat} (hcal : Cal w b V.F) {a : Option Addr} {n cap : Nat} {zs : List Int} (hr : RowAt w a n zs) (T0 T1 T4 T5 T6 T7 T8 : TypeId) :
    RegAt V S (regW w b a n cap T0 T1 T4 T5 T6 T7 T8) w.heap.size 0 zs a n cap ∧ Below w.heap.size w (regW w b a n cap T0 T1 T4 T5 T6 T7 T8) := by
  obtain ⟨W1, h1⟩ : ∃ W, W = w.alloc (.cells #[.pointer (some ⟨b, 0, none⟩)] T0) := ⟨_, rfl⟩
  obtain ⟨W2, h2⟩ : ∃ W, W = W1.alloc (.cells #[.slice a n cap] T1) := ⟨_, rfl⟩
  obtain ⟨W3, h3⟩ : ∃ W, W = W2.alloc (.cells #[.int .i64 1] 2) := ⟨_, rfl⟩
  obtain ⟨W4, h4⟩ : ∃ W, W = W3.alloc (.cells #[.int .i64 1] 2) := ⟨_, rfl⟩
  obtain ⟨W5, h5⟩ : ∃ W, W = W4.alloc (.cells #[.slice (some ⟨w.heap.size + 1 + 1, 0, none⟩) 1 1] T4) := ⟨_, rfl⟩
  obtain ⟨W6, h6⟩ : ∃ W, W = W5.alloc (.cells #[.slice (some ⟨w.heap.size + 1 + 1 + 1, 0, none⟩) 1 1] T5) := ⟨_, rfl⟩
  obtain ⟨W7, h7⟩ : ∃ W, W = W6.alloc (.cells #[.int .i64 0] T6) := ⟨_, rfl⟩
  obtain ⟨W8, h8⟩ : ∃ W, W = W7.alloc (.cells #[.int .i64 1] T7) := ⟨_, rfl⟩
  obtain ⟨W9, h9⟩ : ∃ W, W = W8.alloc (.cells #[.int .i64 1] T8) := ⟨_, rfl⟩
  have e : regW w b a n cap T0 T1 T4 T5 T6 T7 T8 = W9 := by unfold regW; rw [h9, h8, h7, h6, h5, h4, h3, h2, h1]
  rw [e]
  have s1 : W1.heap.size = w.heap.size + 1 := by rw [h1]; simp
  have s2 : W2.heap.size = w.heap.size + 2 := by rw [h2]; simp [s1]
  have s3 : W3.heap.size = w.heap.size + 3 := by rw [h3]; simp [s2]
  have s4 : W4.heap.size = w.heap.size + 4 := by rw [h4]; simp [s3]
  have s5 : W5.heap.size = w.heap.size + 5 := by rw [h5]; simp [s4]
  have s6 : W6.heap.size = w.heap.size + 6 := by rw [h6]; simp [s5]
  have s7 : W7.heap.size = w.heap.size + 7 := by rw [h7]; simp [s6]
  have s8 : W8.heap.size = w.heap.size + 8 := by rw [h8]; simp [s7]
  have b1 : Below w.heap.size w W1 := by rw [h1]; exact below1 _ _
  have b2 : Below W1.heap.size W1 W2 := by rw [h2]; exact below1 _ _
  have b3 : Below W2.heap.size W2 W3 := by rw [h3]; exact below1 _ _
  have b4 : Below W3.heap.size W3 W4 := by rw [h4]; exact below1 _ _
  have b5 : Below W4.heap.size W4 W5 := by rw [h5]; exact below1 _ _
  have b6 : Below W5.heap.size W5 W6 := by rw [h6]; exact below1 _ _
  have b7 : Below W6.heap.size W6 W7 := by rw [h7]; exact below1 _ _
  have b8 : Below W7.heap.size W7 W8 := by rw [h8]; exact below1 _ _
  have b9 : Below W8.heap.size W8 W9 := by rw [h9]; exact below1 _ _
  have c8 : Below W7.heap.size W7 W9 := b8.trans (b9.mono (by omega))
  have c7 : Below W6.heap.size W6 W9 := b7.trans (c8.mono (by omega))
  have c6 : Below W5.heap.size W5 W9 := b6.trans (c7.mono (by omega))
  have c5 : Below W4.heap.size W4 W9 := b5.trans (c6.mono (by omega))
  have c4 : Below W3.heap.size W3 W9 := b4.trans (c5.mono (by omega))
  have c3 : Below W2.heap.size W2 W9 := b3.trans (c4.mono (by omega))
  have c2 : Below W1.heap.size W1 W9 := b2.trans (c3.mono (by omega))
  have c1 : Below w.heap.size w W9 := b1.trans (c2.mono (by omega))
  have o1 : One W1 w.heap.size (.pointer (some ⟨b, 0, none⟩)) := by rw [h1]; exact One.new w _ T0 _ rfl
  have o2 : One W2 (w.heap.size + 1) (.slice a n cap) := by rw [h2]; exact One.new W1 _ T1 _ s1.symm
  have o5 : One W5 (w.heap.size + 4) (.slice (some ⟨w.heap.size + 1 + 1, 0, none⟩) 1 1) := by rw [h5]; exact One.new W4 _ T4 _ s4.symm
  have o6 : One W6 (w.heap.size + 5) (.slice (some ⟨w.heap.size + 1 + 1 + 1, 0, none⟩) 1 1) := by rw [h6]; exact One.new W5 _ T5 _ s5.symm
  have o7 : One W7 (w.heap.size + 6) (.int .i64 0) := by rw [h7]; exact One.new W6 _ T6 _ s6.symm
  have o8 : One W8 (w.heap.size + 7) (.int .i64 1) := by rw [h8]; exact One.new W7 _ T7 _ s7.symm
  have o9 : One W9 (w.heap.size + 8) (.int .i64 1) := by rw [h9]; exact One.new W8 _ T8 _ s8.symm
  have l3 : OwnL W3 w.heap.size (.slice (some ⟨w.heap.size + 1 + 1, 0, none⟩) 1 1) [1] := by rw [h3]; exact OwnL.lit1 W2 _ (by omega) _ (by omega) _ rfl
  have l4 : OwnL W4 w.heap.size (.slice (some ⟨w.heap.size + 1 + 1 + 1, 0, none⟩) 1 1) [1] := by rw [h4]; exact OwnL.lit1 W3 _ (by omega) _ (by omega) _ rfl
  have eone : VF.lst V (bm V S 0).now = [1] := lst_one V
  have eone' : VF.lst V (bm V S 0).before = [1] := lst_one V
  refine ⟨⟨⟨b, o1.below c2, hcal.below c1, hcal.lt⟩, o2.below c3, hr.below' c1, fun h0 x hx => ?_, ⟨_, 1, 1, o5.below c6, (fun h => by cases h), by rw [eone]; rfl, by rw [eone]; exact l3.below c4, fun g hg => ?_⟩, ⟨_, 1, 1, o6.below c7, (fun h => by cases h), by rw [eone']; rfl, by rw [eone']; exact l4.below c5, fun g hg => ?_⟩, o7.below c8, o8.below b9, ?_⟩, c1⟩
  · obtain ⟨b', off, e', hlt, _⟩ := hr.at' h0
    rw [hx] at e'; simp only [Option.some.injEq] at e'; rw [e']; exact hlt
  · simp [Value.ownBlock] at hg; omega
  · simp [Value.ownBlock] at hg; omega
  · have : (bm V S 0).last.val = 1 := VF.one_val V
    rw [this]; exact o9
set_option maxRecDepth 100000 in
set_option maxHeartbeats 4000000 in
theorem register_any {V : VF} {w : World} {b : Nat} (hcal : Cal w b V.F) {a : Option Addr} {n cap : Nat} {zs : List Int} (hr : RowAt w a n zs) (hn : n ≤ 64) (hz : VF.els V zs) :
    Calls Try.prog 63 #[.pointer (some ⟨b, 0, none⟩), .slice a n cap] w fun e w' => ∃ v, e = .returned (.tuple #[v, .int .i64 ((bm V (VF.ps V zs) n).L : Int)]) ∧ Below w.heap.size w w' ∧ OwnL w' w.heap.size v (VF.lst V (bm V (VF.ps V zs) n).now) := by
  have HC := Lib.hid hcal
  have HR := Lib.hid hr
  have HZ := Lib.hid hz
  clear hcal hr hz
  go_enter Try.func63, Try.ntmps63
  go_wp2_with fail
  obtain ⟨HS, HB0⟩ := reg_start (VF.ps V zs) HC.out (cap := cap) HR.out 80 26 100 100 3 3 2
  have HS0 := Lib.hid HS
  have HB0 := Lib.hid HB0
  clear HS
  go_loopw [18] (fun t wr => ∃ k : Nat, k ≤ n ∧ t = .int .i64 k ∧ Hid (RegAt V (VF.ps V zs) wr w.heap.size k zs a n cap) ∧ Hid (Below w.heap.size w wr)) (fun t _ => (n - intOf t).toNat)
  case atStart => exact ⟨0, by omega, rfl, HS0, HB0⟩
  case round =>
    obtain ⟨k, hk, rfl, hreg, hbel⟩ := hrel
    clear HS0 HB0
    by_cases hlt : k < n
    · have HSTEP := Lib.hid (regStep_any HZ.out hn hlt hreg.out)
      go_wp2_with fail
      refine HSTEP.out.mono ?_
      rintro e w2 ⟨rfl, hb2, hreg2⟩
      have HB2 := Lib.hid (hbel.out.trans hb2)
      have HR2 := Lib.hid hreg2
      clear hb2 hreg2
      go_wp2_with fail
      go_roundw
      case rel => exact ⟨k + 1, by omega, by go_num, HR2, HB2⟩
      case measure => simp [intOf]; omega
    · obtain rfl : k = n := by omega
      obtain ⟨an, ln, cn, h4, _, _, hon, _⟩ := hreg.out.now
      have c4 : wr.cell? ⟨w.heap.size + 1 + 1 + 1 + 1, 0, none⟩ = some (.slice an ln cn) := h4.cell
      have c6 : wr.cell? ⟨w.heap.size + 1 + 1 + 1 + 1 + 1 + 1, 0, none⟩ = some (.int .i64 ((bm V (VF.ps V zs) k).L : Int)) := hreg.out.len.cell
      have HON := Lib.hid hon
      clear h4 hon
      go_wp2_with fail
      go_quiet (fail)
      go_wp2_with fail
      go_ret2
      exact ⟨_, rfl, hbel.out.trans (Drew.below (drew4 wr _) _), HON.out.below (Drew.below (drew4 wr _) _)⟩
end Go.Proofs.Ytfhkkpfiflgofaa
