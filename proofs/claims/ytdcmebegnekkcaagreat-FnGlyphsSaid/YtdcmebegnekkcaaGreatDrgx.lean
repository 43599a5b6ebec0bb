/-
  The parts Drg, LawFnGlyphs.
-/
import Derived.Test.YtdcmebegnekkcaaGreatBoxz
import Derived.Test.YtdcmebegnekkcaaGreatSega
import Derived.Lib.Split
import Derived.Laws.Rows
import Derived.Test.YtdcmebegnekkcaaGreatDrawK
import Derived.Deep.CutRange
/-
  Draws of items and of bytes with glyphs.
-/
namespace Go.Proofs.YtdcmebegnekkcaaGreat
open Go.RowKit
set_option linter.unusedVariables false

/-- A slice of bytes of the call's own that may be appended to. -/
def OwnB (w : World) (B : Nat) (v : Value) (bs : List UInt8) : Prop := B ≤ w.heap.size ∧ w.ownsRow B 5 1 v bs.length (Lib.byteCells bs)
theorem OwnB.nil (w : World) (B : Nat) (hB : B ≤ w.heap.size) : OwnB w B (.slice none 0 0) [] := ⟨hB, World.ownsRow_nil _ _ _ _⟩
theorem OwnB.empty (w : World) (B : Nat) (hB : B ≤ w.heap.size) (b : Nat) (hb : b = w.heap.size) : OwnB (w.alloc (.cells #[] 5)) B (.slice (some ⟨b, 0, none⟩) 0 0) [] := by
  subst hb
  exact ⟨by simp; omega, World.ownsRow_made w #[] 0 hB (by unfold maxLen; omega) rfl⟩
theorem OwnB.belowV {w w' : World} {B M : Nat} {v : Value} {bs : List UInt8} (h : OwnB w B v bs) (hb : Below M w w') (hg : ∀ k, v.ownBlock = some k → k < M) : OwnB w' B v bs := by
  obtain ⟨hB, hl, h2⟩ := h
  refine ⟨Nat.le_trans hB hb.size, hl, ?_⟩
  rcases h2 with h0 | ⟨g', cp, cur, rfl, hg', hh, rest⟩
  · exact .inl h0
  · exact .inr ⟨g', cp, cur, rfl, hg', (hb.block g' (hg g' rfl)).trans hh, rest⟩
theorem OwnB.blk {w : World} {B : Nat} {v : Value} {bs : List UInt8} (h : OwnB w B v bs) {k : Nat} (hk : v.ownBlock = some k) : B ≤ k ∧ k < w.heap.size := h.2.lt k hk
theorem OwnB.below {w w' : World} {B : Nat} {v : Value} {bs : List UInt8} (h : OwnB w B v bs) (hb : Below w.heap.size w w') : OwnB w' B v bs := h.belowV hb fun k hk => (h.blk hk).2
theorem OwnB.lower {w : World} {B C : Nat} {v : Value} {bs : List UInt8} (h : OwnB w B v bs) (hC : C ≤ B) : OwnB w C v bs := by
  obtain ⟨hB, hl, h2⟩ := h
  refine ⟨by omega, hl, ?_⟩
  rcases h2 with h2 | ⟨g, cap, cur, rfl, hg, r⟩
  · exact .inl h2
  · exact .inr ⟨g, cap, cur, rfl, by omega, r⟩
theorem OwnB.other {w : World} {B G j : Nat} {v x : Value} {bs : List UInt8} (h : OwnB w B v bs) (hne : ∀ k, v.ownBlock = some k → k ≠ G) : OwnB (w.setCell ⟨G, j, none⟩ x) B v bs := by
  obtain ⟨hB, hl, h2⟩ := h
  refine ⟨by simpa [World.setCell] using hB, hl, ?_⟩
  rcases h2 with h2 | ⟨g, cap, cur, rfl, hg, hh, r⟩
  · exact .inl h2
  · exact .inr ⟨g, cap, cur, rfl, hg, (Below.heap_setCell _ _ _ _ (hne g rfl)).trans hh, r⟩
/-- A row of bytes that may be read. -/
structure RowU (w : World) (a : Option Addr) (n cap : Nat) (bs : List UInt8) : Prop where
  len : bs.length = n
  le : n ≤ cap
  no : a = none → cap = 0
  small : cap ≤ 9223372036854775807
  at' : ∀ ad, a = some ad → ad.block < w.heap.size ∧ ∀ j (hj : j < bs.length), w.cell? (ad.add j) = some (.int .u8 (bs[j].toNat : Int))
theorem addr_blk (ad : Addr) (j : Nat) : (ad.add j).block = ad.block := by unfold Addr.add; split <;> rfl
theorem RowU.below {w w' : World} {a : Option Addr} {n cap : Nat} {bs : List UInt8} (h : RowU w a n cap bs) (hb : Below w.heap.size w w') : RowU w' a n cap bs :=
  ⟨h.len, h.le, h.no, h.small, fun ad e => ⟨by have := (h.at' ad e).1; have := hb.size; omega, fun j hj => (hb.cell (p := ad.add j) (by rw [addr_blk]; exact (h.at' ad e).1)).trans ((h.at' ad e).2 j hj)⟩⟩
theorem OwnB.row {w : World} {B : Nat} {v : Value} {bs : List UInt8} (h : OwnB w B v bs) : ∃ a cap, v = .slice a bs.length cap ∧ RowU w a bs.length cap bs ∧ (∀ ad, a = some ad → ∃ g, ad = ⟨g, 0, none⟩ ∧ B ≤ g ∧ v.ownBlock = some g) := by
  rcases h.2.2 with ⟨rfl, h0⟩ | ⟨g, cap, cur, rfl, hg, hh, hn, hm, hs, ht⟩
  · have h0' : bs = [] := List.eq_nil_of_length_eq_zero h0
    subst h0'
    exact ⟨none, 0, rfl, ⟨rfl, Nat.le_refl _, fun _ => rfl, by omega, fun ad e => by cases e⟩, fun ad e => by cases e⟩
  · unfold maxLen at hm
    refine ⟨some ⟨g, 0, none⟩, cap, rfl, ⟨rfl, hn, (fun e => by cases e), hm, fun ad e => ?_⟩, fun ad e => ⟨g, by cases e; rfl, hg, rfl⟩⟩
    cases e
    refine ⟨lt_of_heap hh, fun j hj => ?_⟩
    exact h.2.cells (g := g) rfl j _ (by simp [Lib.byteCells, hj])
/-- 'string(b)' of a slice of bytes. -/
theorem run_str {w : World} {a : Option Addr} {n cap : Nat} {bs : List UInt8} (h : RowU w a n cap bs) : (convert 22 9 (.slice a n cap)).run Tryz.prog w = .ok (.string (str bs)) w := by
  obtain ⟨hl, hle, hno, hs, hat⟩ := h
  subst hl
  cases a with
  | some ad => exact run_convert_bytes_back w _ _ _ ad cap bs Tryz.underlying22 Tryz.underlying5 Tryz.underlying9 (hat ad rfl).2
  | none =>
    have hc := hno rfl
    subst hc
    have h0 : bs = [] := List.eq_nil_of_length_eq_zero (by omega)
    subst h0
    rw [run_convert_bytes_string w _ _ _ none _ 0 Tryz.underlying22 Tryz.underlying5 Tryz.underlying9]
    simp [Conv.bytesToString, str]
    rfl
theorem info_u8 : (Tryz.prog.info? 5).map (fun i => (i.zero, i.size, i.bytes)) = some (some (.int .u8 0), 1, 1) := by kernel_rfl
/-- One more byte. -/
theorem appendB_one {W0 : World} {ops : Array Oper} {rest : List Oper} {o : Oper} {a : Act} {Q : Exit → Act → World → Prop} (hgd : o.guard = none) (s x : Operand) (t : TypeId)
    (ho : o.op = .call { callee := .builtin .append, args := #[s, x], argTypes := #[t, t] }) (ht : Tryz.prog.underlying t = some (.slice 5))
    {B : Nat} {v : Value} {bs : List UInt8} (z : Int) (c : UInt8) (hz : z = (c.toNat : Int)) (hown : OwnB W0 B v bs) (hs : a.eval s = v) (b : Nat) (hb : b = W0.heap.size) (hx : a.eval x = .slice (some ⟨b, 0, none⟩) 1 1) (hn : bs.length ≤ 16777216)
    (h : ∀ v' w', OwnB w' B v' (bs ++ [c]) → Below B W0 w' → wpList Tryz.prog ops Q rest (a.put o.dst v') w') : wpList Tryz.prog ops Q (o :: rest) a (W0.alloc (.cells #[.int .u8 z] 5)) := by
  subst hb
  subst hz
  obtain ⟨i0, hi, hz0, hz1, hz2⟩ := info_parts info_u8
  obtain ⟨hB, hown⟩ := hown
  refine wpList_append_own _ hgd s x t ho B 5 i0 (.int .u8 0) 1 1 ht hi hz0 hz1 hz2 rfl (by decide) v bs.length (Lib.byteCells bs) hs (hown.alloc _) ⟨W0.heap.size, 0, none⟩ 1 1 [.int .u8 (c.toNat : Int)] hx rfl ?_ ?_ (by unfold maxLen; omega) (by omega) (by simp; omega) ?_
  · intro j u hj
    match j, hj with
    | 0, hj => simp at hj; subst hj; simp [Addr.add, go_sem]
  · intro u hu; simp at hu; subst hu; rfl
  · intro v' w' h1 hg _
    exact h v' w' ⟨by have := hg.size; simp at this; omega, by rw [Lib.byteCells_append, List.length_append]; exact h1⟩ (append_below hB hg fun k hk => (hown.lt k hk).1)
theorem OwnB.dr {s : Nat} {w w' : World} {B : Nat} {v : Value} {bs : List UInt8} (h : OwnB w B v bs) (hd : Dr s w w') (hs : s < B) : OwnB w' B v bs := by
  refine ⟨Nat.le_trans h.1 hd.size, h.2.1, ?_⟩
  rcases h.2.2 with h2 | ⟨g, cap, cur, rfl, hg, hh, r⟩
  · exact .inl h2
  · exact .inr ⟨g, cap, cur, rfl, hg, (hd.block g (Array.getElem?_eq_some_iff.1 hh).1 (by omega)).trans hh, r⟩
theorem Dr.ofBelow {s : Nat} {w a b : World} (h : Dr s w a) (k : Below w.heap.size a b) : Dr s w b :=
  ⟨k.os.trans h.os, k.tape.trans h.tape, k.output.trans h.output, Nat.le_trans h.size k.size, fun j hj hn => (k.block j hj).trans (h.block j hj hn)⟩
theorem setM_len {m : Int} (hm : m = 1 ∨ m = 2) : ∃ L n, setM m = L ∧ L.length = n ∧ 1 < n ∧ n ≤ 45 := by
  rcases hm with rfl | rfl
  · exact ⟨_, _, rfl, rfl, by decide, by decide⟩
  · exact ⟨_, _, rfl, rfl, by decide, by decide⟩
set_option maxHeartbeats 8000000 in
set_option maxRecDepth 100000 in
theorem l09DrawText_any {w : World} {s : Nat} (hs : Src w s) {m : Int} (hm : m = 1 ∨ m = 2) :
    Calls Tryz.prog 47 #[.pointer (some ⟨s, 0, none⟩), .int .i64 m, .int .i64 5] w fun e w' => (∃ l, e = .returned (.string (str l)) ∧ l.length ≤ 5) ∧ Dr s w w' ∧ Src w' s := by
  obtain ⟨L, n, hL, hn, n1, n2⟩ := setM_len hm
  have hlt := hs.lt
  have hm4 : ¬ m = 4 := by omega
  have hm4b : (m == 4) = false := by simp [hm4]
  have hsz := str_size L
  rw [hn] at hsz
  have O0 := Lib.hid (OwnB.empty w w.heap.size (Nat.le_refl _) w.heap.size rfl)
  have S0 := Lib.hid (hs.alloc (.cells #[] 5))
  have D0 := Lib.hid ((Dr.refl s w).alloc (.cells #[] 5))
  have HLS := Lib.hid (fun (V : World) => (show Calls Tryz.prog 57 #[.int .i64 m] V fun e w' => e = .returned (.string (str L)) ∧ V = w' from by rw [← hL]; exact l09Set_any m V))
  clear hL hm hs
  go_enter Tryz.func47, Tryz.ntmps47
  go_wp2_with fail
  refine (next_any S0.out 6 (by omega) (by omega)).mono ?_
  rintro e w2 ⟨k0, rfl, hk0, hd, hs2⟩
  have O2 := Lib.hid (O0.out.dr hd hlt)
  have D2 := Lib.hid (D0.out.trans hd)
  have S2 := Lib.hid hs2
  clear hd hs2 O0 D0 S0
  go_wp2_with fail
  go_loopw [7, 8] (fun tv ti wr => ∃ (j : Nat) (bs : List UInt8), bs.length + j ≤ 5 ∧ ti = .int .i64 (j : Int) ∧ Hid (OwnB wr w.heap.size tv bs) ∧ Hid (Dr s w wr) ∧ Hid (Src wr s)) (fun _ ti _ => (intOf ti).toNat)
  case atStart => exact ⟨k0, [], by simp; omega, rfl, O2, D2, S2⟩
  case round =>
    obtain ⟨j, bs, hj, rfl, hO, hD, hS⟩ := hrel
    clear O2 D2 S2
    by_cases hj0 : 0 < j
    · have hji : (0 : Int) < (j : Int) := by omega
      have hbl : bs.length ≤ 16777216 := by omega
      go_wp2_with fail
      refine (HLS.out _).mono ?_
      rintro e w3 ⟨rfl, rfl⟩
      go_wp2_with fail
      refine (next_any hS.out n n1 (by omega)).mono ?_
      rintro e w4 ⟨q, rfl, hq, hd, hs4⟩
      have O4 := Lib.hid (hO.out.dr hd hlt)
      have D4 := Lib.hid (hD.out.trans hd)
      have S4 := Lib.hid hs4
      have hql : q < (str L).size := by rw [hsz]; exact hq
      have HC := Lib.hid (show (((str L)[q]'hql).toNat : Int) = (((str L)[q]'hql).toNat : Int) from rfl)
      clear hd hs4
      generalize hcc : (str L)[q]'hql = c at *
      go_wp2_with (at_builtin; refine appendB_one rfl _ _ _ rfl Tryz.underlying22 _ c rfl O4.out rfl _ rfl rfl hbl ?_; intro v' w5 hown5 hb5)
      have HO5 := Lib.hid hown5
      have HD5 := Lib.hid (D4.out.ofBelow hb5)
      have HS5 := Lib.hid (S4.out.lo hlt hb5)
      have hl5 : (bs ++ [c]).length + (j - 1) ≤ 5 := by rw [List.length_append]; show bs.length + 1 + (j - 1) ≤ 5; omega
      clear hown5 hb5
      go_roundw
      case rel => exact ⟨j - 1, bs ++ [c], hl5, by go_num, HO5, HD5, HS5⟩
      case measure => simp [intOf]; omega
    · have hji : ¬ (0 : Int) < (j : Int) := by omega
      obtain ⟨a, cap, hform, hrow, -⟩ := hO.out.row
      have hrun := run_str hrow
      subst hform
      have HBL := Lib.hid (show bs.length ≤ 5 by omega)
      go_wp2_with fail
      go_ret
      exact ⟨⟨bs, rfl, HBL.out⟩, hD.out, hS.out⟩
set_option maxHeartbeats 8000000 in
set_option maxRecDepth 100000 in
theorem drawGlyph_any {w : World} {c : Option Addr} {n cap : Nat} {bs : List Int} (hr : RowB w c n bs) :
    Calls Tryz.prog 8 #[.slice c n cap] w fun e w' => (∃ b, e = .returned (.int .i64 b)) ∧ Below w.heap.size w w' := by
  go_enter Tryz.func8, Tryz.ntmps8
  go_wp2_with fail
  refine (l01From_any hr).mono ?_
  rintro e w1 ⟨s, rfl, hs0, hb1, hs1⟩
  have S1 := Lib.hid hs1
  have B1 := Lib.hid hb1
  clear hs1 hb1
  go_wp2_with fail
  refine (next_any S1.out 10 (by omega) (by omega)).mono ?_
  rintro e w2 ⟨k1, rfl, hk1, hd2, hs2⟩
  have S2 := Lib.hid hs2
  have B2 := Lib.hid (B1.out.trans (hd2.below hs0 B1.out.size))
  clear hs2 hd2
  go_wp2_with fail
  refine (next_any S2.out 26 (by omega) (by omega)).mono ?_
  rintro e w3 ⟨k2, rfl, hk2, hd3, hs3⟩
  have S3 := Lib.hid hs3
  have B3 := Lib.hid (B2.out.trans (hd3.below hs0 B2.out.size))
  clear hs3 hd3
  go_wp2_with fail
  refine (next_any S3.out 26 (by omega) (by omega)).mono ?_
  rintro e w4 ⟨k3, rfl, hk3, hd4, hs4⟩
  have S4 := Lib.hid hs4
  have B4 := Lib.hid (B3.out.trans (hd4.below hs0 B3.out.size))
  clear hs4 hd4
  go_wp2_with fail
  refine (pickN_any S4.out [32, 47, 58, 64, 91, -1, 48 + (k1 : Int), 65 + (k2 : Int), 65 + (k3 : Int)] 2 9 (by omega) (by omega) (by simp)).mono ?_
  rintro e w5 ⟨k, rfl, hk, hcell, hd5, hs5, hlt⟩
  have B5 := Lib.hid (B4.out.trans (hd5.below hs0 B4.out.size))
  have hc := hcell k (by simpa using hk)
  clear hs5 hd5 hcell
  generalize gi [32, 47, 58, 64, 91, -1, 48 + (k1 : Int), 65 + (k2 : Int), 65 + (k3 : Int)] k = b at *
  go_wp2_with fail
  go_ret
  exact ⟨⟨b, rfl⟩, B5.out⟩
/-- A value out of a list. -/
theorem pickV_any {W : World} {s : Nat} (hs : Src W s) (vs : Array Value) (t : TypeId) (n : Nat) (h1 : 1 < n) (hn : n ≤ 1000) :
    Calls Tryz.prog 29 #[.pointer (some ⟨s, 0, none⟩), .int .i64 (n : Int)] (W.alloc (.cells vs t)) fun e w' => ∃ k : Nat, e = .returned (.int .i64 (k : Int)) ∧ k < n ∧
      (∀ j, w'.cell? ⟨W.heap.size, j, none⟩ = vs[j]?) ∧ Dr s W w' ∧ Src w' s ∧ W.heap.size < w'.heap.size := by
  have hb := (Below.refl W.heap.size W).alloc (Nat.le_refl _) (.cells vs t)
  refine (next_any (hs.below hb) n h1 (by omega)).mono ?_
  rintro e w2 ⟨k, rfl, hk, hd, hs2⟩
  have hlt := hs.lt
  have hz := hd.size
  have hh : w2.heap[W.heap.size]? = some (.cells vs t (0, 0)) := (hd.block W.heap.size (by simp) (by omega)).trans (heap_new _ _)
  refine ⟨k, rfl, hk, fun j => ?_, (Dr.of hb).trans hd, hs2, by simp at hz; omega⟩
  unfold World.cell?
  rw [hh]
  rfl
/-- An item that is being drawn. -/
structure DI (w0 w : World) (s R Q : Nat) (x : It) : Prop where
  it : ItB w Q ITy x
  rz : ∃ f, Tf w R 9 ITy f
  dr : Dr s w0 w
  sr : Src w s
  s0 : s < w0.heap.size
  r0 : w0.heap.size ≤ R
  q0 : R < Q
section
variable {w0 w w' : World} {s R Q : Nat} {x : It}
theorem DI.draw (h : DI w0 w s R Q x) (hd : Dr s w w') (hs : Src w' s) : DI w0 w' s R Q x :=
  ⟨Tf.dr h.it hd (by have := h.s0; have := h.r0; have := h.q0; omega), by obtain ⟨f, hf⟩ := h.rz; exact ⟨f, hf.dr hd (by have := h.s0; have := h.r0; omega)⟩, h.dr.trans hd, hs, h.s0, h.r0, h.q0⟩
theorem DI.below (h : DI w0 w s R Q x) (hb : Below w.heap.size w w') : DI w0 w' s R Q x := h.draw (Dr.of hb) (h.sr.below hb)
theorem DI.put (h : DI w0 w s R Q x) (j : Nat) (v : Value) (y : It) (hy : ∀ i, i < 9 → upd (itF x) j v i = itF y i) : DI w0 (w.setCell ⟨Q, j, none⟩ v) s R Q y :=
  ⟨(Tf.set h.it j v).congr hy, by obtain ⟨f, hf⟩ := h.rz; exact ⟨f, hf.other (by have := h.q0; omega) j v⟩, h.dr.setNew (by have := h.r0; have := h.q0; omega) j v, h.sr.other (by have := h.s0; have := h.r0; have := h.q0; omega) j v, h.s0, h.r0, h.q0⟩
theorem DI.tx (h : DI w0 w s R Q x) (l : List UInt8) : DI w0 (w.setCell ⟨Q, 8, none⟩ (.string (str l))) s R Q { x with tx := l } := h.put 8 _ _ fun i hi => by rcases (show i = 0 ∨ i = 1 ∨ i = 2 ∨ i = 3 ∨ i = 4 ∨ i = 5 ∨ i = 6 ∨ i = 7 ∨ i = 8 by omega) with rfl | rfl | rfl | rfl | rfl | rfl | rfl | rfl | rfl <;> rfl
theorem DI.nm (h : DI w0 w s R Q x) (l : List UInt8) : DI w0 (w.setCell ⟨Q, 6, none⟩ (.string (str l))) s R Q { x with nm := l } := h.put 6 _ _ fun i hi => by rcases (show i = 0 ∨ i = 1 ∨ i = 2 ∨ i = 3 ∨ i = 4 ∨ i = 5 ∨ i = 6 ∨ i = 7 ∨ i = 8 by omega) with rfl | rfl | rfl | rfl | rfl | rfl | rfl | rfl | rfl <;> rfl
theorem DI.sc (h : DI w0 w s R Q x) (z : Int) : DI w0 (w.setCell ⟨Q, 3, none⟩ (.int .i64 z)) s R Q { x with sc := z } := h.put 3 _ _ fun i hi => by rcases (show i = 0 ∨ i = 1 ∨ i = 2 ∨ i = 3 ∨ i = 4 ∨ i = 5 ∨ i = 6 ∨ i = 7 ∨ i = 8 by omega) with rfl | rfl | rfl | rfl | rfl | rfl | rfl | rfl | rfl <;> rfl
theorem DI.kd (h : DI w0 w s R Q x) (z : Int) : DI w0 (w.setCell ⟨Q, 0, none⟩ (.int .i64 z)) s R Q { x with kd := z } := h.put 0 _ _ fun i hi => by rcases (show i = 0 ∨ i = 1 ∨ i = 2 ∨ i = 3 ∨ i = 4 ∨ i = 5 ∨ i = 6 ∨ i = 7 ∨ i = 8 by omega) with rfl | rfl | rfl | rfl | rfl | rfl | rfl | rfl | rfl <;> rfl
theorem DI.lv (h : DI w0 w s R Q x) (z : Int) : DI w0 (w.setCell ⟨Q, 7, none⟩ (.int .i64 z)) s R Q { x with lv := z } := h.put 7 _ _ fun i hi => by rcases (show i = 0 ∨ i = 1 ∨ i = 2 ∨ i = 3 ∨ i = 4 ∨ i = 5 ∨ i = 6 ∨ i = 7 ∨ i = 8 by omega) with rfl | rfl | rfl | rfl | rfl | rfl | rfl | rfl | rfl <;> rfl
abbrev set9 (w : World) (B : Nat) (v0 v1 v2 v3 v4 v5 v6 v7 v8 : Value) : World := ((((((((w.setCell ⟨B, 0, none⟩ v0).setCell ⟨B, 1, none⟩ v1).setCell ⟨B, 2, none⟩ v2).setCell ⟨B, 3, none⟩ v3).setCell ⟨B, 4, none⟩ v4).setCell ⟨B, 5, none⟩ v5).setCell ⟨B, 6, none⟩ v6).setCell ⟨B, 7, none⟩ v7).setCell ⟨B, 8, none⟩ v8
theorem DI.all (h : DI w0 w s R Q x) (y : It) : DI w0 (set9 w Q (.int .i64 y.kd) (.int .i64 y.rw) (.int .i64 y.cl) (.int .i64 y.sc) (.int .i64 y.tl) (.int .i64 y.wd) (.string (str y.nm)) (.int .i64 y.lv) (.string (str y.tx))) s R Q y :=
  ((((((((h.put 0 (.int .i64 y.kd) { x with kd := y.kd } fun i hi => by rcases (show i = 0 ∨ i = 1 ∨ i = 2 ∨ i = 3 ∨ i = 4 ∨ i = 5 ∨ i = 6 ∨ i = 7 ∨ i = 8 by omega) with rfl | rfl | rfl | rfl | rfl | rfl | rfl | rfl | rfl <;> rfl).put 1 (.int .i64 y.rw) { x with kd := y.kd, rw := y.rw } fun i hi => by rcases (show i = 0 ∨ i = 1 ∨ i = 2 ∨ i = 3 ∨ i = 4 ∨ i = 5 ∨ i = 6 ∨ i = 7 ∨ i = 8 by omega) with rfl | rfl | rfl | rfl | rfl | rfl | rfl | rfl | rfl <;> rfl).put 2 (.int .i64 y.cl) { x with kd := y.kd, rw := y.rw, cl := y.cl } fun i hi => by rcases (show i = 0 ∨ i = 1 ∨ i = 2 ∨ i = 3 ∨ i = 4 ∨ i = 5 ∨ i = 6 ∨ i = 7 ∨ i = 8 by omega) with rfl | rfl | rfl | rfl | rfl | rfl | rfl | rfl | rfl <;> rfl).put 3 (.int .i64 y.sc) { x with kd := y.kd, rw := y.rw, cl := y.cl, sc := y.sc } fun i hi => by rcases (show i = 0 ∨ i = 1 ∨ i = 2 ∨ i = 3 ∨ i = 4 ∨ i = 5 ∨ i = 6 ∨ i = 7 ∨ i = 8 by omega) with rfl | rfl | rfl | rfl | rfl | rfl | rfl | rfl | rfl <;> rfl).put 4 (.int .i64 y.tl) { x with kd := y.kd, rw := y.rw, cl := y.cl, sc := y.sc, tl := y.tl } fun i hi => by rcases (show i = 0 ∨ i = 1 ∨ i = 2 ∨ i = 3 ∨ i = 4 ∨ i = 5 ∨ i = 6 ∨ i = 7 ∨ i = 8 by omega) with rfl | rfl | rfl | rfl | rfl | rfl | rfl | rfl | rfl <;> rfl).put 5 (.int .i64 y.wd) { x with kd := y.kd, rw := y.rw, cl := y.cl, sc := y.sc, tl := y.tl, wd := y.wd } fun i hi => by rcases (show i = 0 ∨ i = 1 ∨ i = 2 ∨ i = 3 ∨ i = 4 ∨ i = 5 ∨ i = 6 ∨ i = 7 ∨ i = 8 by omega) with rfl | rfl | rfl | rfl | rfl | rfl | rfl | rfl | rfl <;> rfl).put 6 (.string (str y.nm)) { x with kd := y.kd, rw := y.rw, cl := y.cl, sc := y.sc, tl := y.tl, wd := y.wd, nm := y.nm } fun i hi => by rcases (show i = 0 ∨ i = 1 ∨ i = 2 ∨ i = 3 ∨ i = 4 ∨ i = 5 ∨ i = 6 ∨ i = 7 ∨ i = 8 by omega) with rfl | rfl | rfl | rfl | rfl | rfl | rfl | rfl | rfl <;> rfl).put 7 (.int .i64 y.lv) { x with kd := y.kd, rw := y.rw, cl := y.cl, sc := y.sc, tl := y.tl, wd := y.wd, nm := y.nm, lv := y.lv } fun i hi => by rcases (show i = 0 ∨ i = 1 ∨ i = 2 ∨ i = 3 ∨ i = 4 ∨ i = 5 ∨ i = 6 ∨ i = 7 ∨ i = 8 by omega) with rfl | rfl | rfl | rfl | rfl | rfl | rfl | rfl | rfl <;> rfl).put 8 (.string (str y.tx)) y fun i hi => by rcases (show i = 0 ∨ i = 1 ∨ i = 2 ∨ i = 3 ∨ i = 4 ∨ i = 5 ∨ i = 6 ∨ i = 7 ∨ i = 8 by omega) with rfl | rfl | rfl | rfl | rfl | rfl | rfl | rfl | rfl <;> rfl
theorem hp_set9 {f : Nat → Value} (h : Tf w R 9 ITy f) (x : It) : (set9 w R (.int .i64 x.kd) (.int .i64 x.rw) (.int .i64 x.cl) (.int .i64 x.sc) (.int .i64 x.tl) (.int .i64 x.wd) (.string (str x.nm)) (.int .i64 x.lv) (.string (str x.tx))).heap[R]? = some (.cells (itL x).toArray ITy (0, 0)) :=
  tf_obj (((((((((h.set 0 (.int .i64 x.kd)).set 1 (.int .i64 x.rw)).set 2 (.int .i64 x.cl)).set 3 (.int .i64 x.sc)).set 4 (.int .i64 x.tl)).set 5 (.int .i64 x.wd)).set 6 (.string (str x.nm))).set 7 (.int .i64 x.lv)).set 8 (.string (str x.tx))) (itL x) rfl fun i hi => by rcases (show i = 0 ∨ i = 1 ∨ i = 2 ∨ i = 3 ∨ i = 4 ∨ i = 5 ∨ i = 6 ∨ i = 7 ∨ i = 8 by omega) with rfl | rfl | rfl | rfl | rfl | rfl | rfl | rfl | rfl <;> rfl
theorem dr_set9 (h : Dr s w0 w) (hB : w0.heap.size ≤ R) (v0 v1 v2 v3 v4 v5 v6 v7 v8 : Value) : Dr s w0 (set9 w R v0 v1 v2 v3 v4 v5 v6 v7 v8) :=
  ((((((((h.setNew hB 0 v0).setNew hB 1 v1).setNew hB 2 v2).setNew hB 3 v3).setNew hB 4 v4).setNew hB 5 v5).setNew hB 6 v6).setNew hB 7 v7).setNew hB 8 v8
theorem sr_set9 (h : Src w s) (hB : s < R) (v0 v1 v2 v3 v4 v5 v6 v7 v8 : Value) : Src (set9 w R v0 v1 v2 v3 v4 v5 v6 v7 v8) s :=
  ((((((((h.other hB 0 v0).other hB 1 v1).other hB 2 v2).other hB 3 v3).other hB 4 v4).other hB 5 v5).other hB 6 v6).other hB 7 v7).other hB 8 v8
end
abbrev itZ9 : Array Value := #[.int .i64 0, .int .i64 0, .int .i64 0, .int .i64 0, .int .i64 0, .int .i64 0, .string { data := #[] }, .int .i64 0, .string { data := #[] }]
def tx5 : Array Value := #[.string { data := #[65] }, .string { data := #[76, 79, 84, 32, 55] }, .string { data := #[50, 48, 50, 54] }, .string { data := #[90, 57] }, .string { data := #[80, 65, 67, 75] }]
def nm4 : Array Value := #[.string { data := #[116, 105, 108, 101] }, .string { data := #[112, 108, 97, 116, 101] }, .string { data := #[112, 97, 110, 101, 108] }, .string { data := #[114, 105, 98, 98, 111, 110] }]
def tx3 : Array Value := #[.string { data := #[98] }, .string { data := #[126] }, .string { data := #[10] }]
theorem tx5_at {k : Nat} (h : k < 5) : ∃ l, tx5[k]? = some (.string (str l)) ∧ l.length ≤ 5 := by
  rcases (show k = 0 ∨ k = 1 ∨ k = 2 ∨ k = 3 ∨ k = 4 by omega) with rfl | rfl | rfl | rfl | rfl
  · exact ⟨[65], rfl, by decide⟩
  · exact ⟨[76, 79, 84, 32, 55], rfl, by decide⟩
  · exact ⟨[50, 48, 50, 54], rfl, by decide⟩
  · exact ⟨[90, 57], rfl, by decide⟩
  · exact ⟨[80, 65, 67, 75], rfl, by decide⟩
theorem nm4_at {k : Nat} (h : k < 4) : ∃ l, nm4[k]? = some (.string (str l)) := by
  rcases (show k = 0 ∨ k = 1 ∨ k = 2 ∨ k = 3 by omega) with rfl | rfl | rfl | rfl
  · exact ⟨[116, 105, 108, 101], rfl⟩
  · exact ⟨[112, 108, 97, 116, 101], rfl⟩
  · exact ⟨[112, 97, 110, 101, 108], rfl⟩
  · exact ⟨[114, 105, 98, 98, 111, 110], rfl⟩
theorem tx3_at {k : Nat} (h : k < 3) : ∃ l, tx3[k]? = some (.string (str l)) ∧ l.length ≤ 1 := by
  rcases (show k = 0 ∨ k = 1 ∨ k = 2 by omega) with rfl | rfl | rfl
  · exact ⟨[98], rfl, by decide⟩
  · exact ⟨[126], rfl, by decide⟩
  · exact ⟨[10], rfl, by decide⟩
set_option maxHeartbeats 16000000 in
set_option maxRecDepth 100000 in
theorem l29DrawItem_any {w : World} {s : Nat} (hs : Src w s) :
    Calls Tryz.prog 33 #[.pointer (some ⟨s, 0, none⟩)] w fun e w' => (∃ x, e = .returned (itV x) ∧ x.tx.length ≤ 6) ∧ Dr s w w' ∧ Src w' s := by
  have hsl := hs.lt
  have S0 := Lib.hid (hs.alloc (.cells itZ9 ITy))
  have D0 := Lib.hid ((Dr.refl s w).alloc (.cells itZ9 ITy))
  have T0 := Lib.hid (Tf.mkd w itZ9 ITy)
  have HRES := Lib.hid (show Tryz.f33.results = #[.cell 2 ITy] by kernel_rfl)
  clear hs
  go_enter Tryz.func33, Tryz.ntmps33
  go_wp2_with fail
  obtain ⟨w1, hw1⟩ : ∃ w1, w.alloc (.cells itZ9 ITy) = w1 := ⟨_, rfl⟩
  rw [hw1] at S0 D0 T0
  (try rw [show w.alloc (.cells #[.int .i64 0, .int .i64 0, .int .i64 0, .int .i64 0, .int .i64 0, .int .i64 0, .string { data := #[] }, .int .i64 0, .string { data := #[] }] ITy) = w1 from hw1])
  clear hw1
  obtain ⟨R, hR⟩ : ∃ R, w.heap.size = R := ⟨_, rfl⟩
  rw [hR] at T0
  rw [hR]
  have hsR : s < R := by omega
  refine (next_any S0.out 3 (by omega) (by omega)).mono ?_
  rintro e w2 ⟨k0, rfl, hk0, hd, hsN⟩
  have S2 := Lib.hid hsN
  have D2 := Lib.hid (D0.out.trans hd)
  have T2 := Lib.hid (T0.out.dr hd (by omega))
  clear hd hsN S0 D0 T0
  go_wp2_with fail
  refine (next_any S2.out 12 (by omega) (by omega)).mono ?_
  rintro e w3 ⟨k1, rfl, hk1, hd, hsN⟩
  have S3 := Lib.hid hsN
  have D3 := Lib.hid (D2.out.trans hd)
  have T3 := Lib.hid (T2.out.dr hd (by omega))
  clear hd hsN S2 D2 T2
  go_wp2_with fail
  refine (next_any S3.out 12 (by omega) (by omega)).mono ?_
  rintro e w4 ⟨k2, rfl, hk2, hd, hsN⟩
  have S4 := Lib.hid hsN
  have D4 := Lib.hid (D3.out.trans hd)
  have T4 := Lib.hid (T3.out.dr hd (by omega))
  clear hd hsN S3 D3 T3
  go_wp2_with fail
  refine (next_any S4.out 2 (by omega) (by omega)).mono ?_
  rintro e w5 ⟨k3, rfl, hk3, hd, hsN⟩
  have S5 := Lib.hid hsN
  have D5 := Lib.hid (D4.out.trans hd)
  have T5 := Lib.hid (T4.out.dr hd (by omega))
  clear hd hsN S4 D4 T4
  obtain ⟨kd, hkd⟩ : ∃ kd : Int, 1 + (k0 : Int) = kd := ⟨_, rfl⟩
  have hkd3 : kd = 1 ∨ kd = 2 ∨ kd = 3 := by omega
  go_upto_region 2 with (fail)
  have hRl : R < w5.heap.size := T5.out.lt
  have I6 := Lib.hid (show DI w (w5.alloc (.cells (itL ⟨kd, (k1 : Int), (k2 : Int), 1 + (k3 : Int), 0, 0, [], 0, []⟩).toArray ITy)) s R w5.heap.size ⟨kd, (k1 : Int), (k2 : Int), 1 + (k3 : Int), 0, 0, [], 0, []⟩ from
    ⟨ItB.new _ _ _, ⟨_, T5.out.below (below1 w5 _) T5.out.lt⟩, D5.out.more (below1 w5 _), S5.out.below (below1 w5 _), hsl, by omega, hRl⟩)
  have HX := Lib.hid (show (⟨kd, (k1 : Int), (k2 : Int), 1 + (k3 : Int), 0, 0, [], 0, []⟩ : It).tx.length ≤ 5 from Nat.zero_le _)
  obtain ⟨w6, hw6⟩ : ∃ w6, w5.alloc (.cells (itL ⟨kd, (k1 : Int), (k2 : Int), 1 + (k3 : Int), 0, 0, [], 0, []⟩).toArray ITy) = w6 := ⟨_, rfl⟩
  rw [hw6] at I6
  rw [show w5.alloc (.cells #[.int .i64 kd, .int .i64 (k1 : Int), .int .i64 (k2 : Int), .int .i64 (1 + (k3 : Int)), .int .i64 0, .int .i64 0, .string { data := #[] }, .int .i64 0, .string { data := #[] }] ITy) = w6 from hw6]
  clear hw6
  obtain ⟨Q, hQ⟩ : ∃ Q, w5.heap.size = Q := ⟨_, rfl⟩
  rw [hQ] at I6
  rw [hQ]
  clear hQ D5 S5 T5 hRl
  obtain ⟨x, hx⟩ : ∃ x : It, ⟨kd, (k1 : Int), (k2 : Int), 1 + (k3 : Int), 0, 0, [], 0, []⟩ = x := ⟨_, rfl⟩
  have hxk : x.kd = kd := by rw [← hx]
  rw [hx] at I6 HX
  clear hx
  rcases hkd3 with hk | hk | hk
  · have e1 : (kd == 1) = true := by simp [hk]
    clear hk
    have i0 := I6.out.it.c0
    rw [hxk] at i0
    go_wp2_with fail
    refine (pickV_any I6.out.sr tx5 9 5 (by omega) (by omega)).mono ?_
    rintro e w7 ⟨k4, rfl, hk4, hcell, hd, hs7, hlt⟩
    obtain ⟨l, hlv, hll⟩ := tx5_at hk4
    have hc := (hcell k4).trans hlv
    have hk4i : (k4 : Int) < 5 := by omega
    have I7 := Lib.hid (I6.out.draw hd hs7)
    clear hd hs7 hcell hlv I6
    have z8 := I7.out.it.fz 8
    have i8 := I7.out.it.c8
    have I8 := Lib.hid (I7.out.tx l)
    have HLL := Lib.hid hll
    go_wp2_with fail
    obtain ⟨w8, hw8⟩ : ∃ w8, w7.setCell ⟨Q, 8, none⟩ (.string (str l)) = w8 := ⟨_, rfl⟩
    rw [hw8] at I8
    rw [hw8]
    clear hw8 I7 hc i8 z8 i0
    obtain ⟨y, hy⟩ : ∃ y : It, { x with tx := l } = y := ⟨_, rfl⟩
    rw [hy] at I8
    have HXY := Lib.hid (show y.tx.length ≤ 5 from by rw [← hy]; exact HLL.out)
    clear hy
    refine (next_any I8.out.sr 30 (by omega) (by omega)).mono ?_
    rintro e w9 ⟨kk, rfl, hkk, hd, hs9⟩
    have I9 := Lib.hid (I8.out.draw hd hs9)
    clear hd hs9 I8
    have z8 := I9.out.it.fz 8
    have y8 := I9.out.it.c8
    rcases (show kk = 0 ∨ kk = 1 ∨ kk = 2 ∨ kk = 3 ∨ 4 ≤ kk by omega) with hke | hke | hke | hke | hke
    · have e0 : ((kk : Int) == 0) = true := by simp [hke]
      clear hke
      go_wp2_with fail
      have hQs : Q ≠ s := by have := I9.out.s0; have := I9.out.r0; have := I9.out.q0; omega
      have ID := Lib.hid (show DI w w9.drew s R Q y from I9.out.below (Below.refl _ _).drew)
      have hszD : w9.drew.heap.size = w9.heap.size := rfl
      clear I9
      refine wp_region_last (S := (fun w' => w'.cell? ⟨Q, 8, none⟩ = some (.string (str y.tx)))) 9 (by kernel_rfl) rfl (by kernel_rfl) ?_ (fun hHeld => ?_)
      · first | (exact ID.out.it.c8) | ((try dsimp only); exact ID.out.it.c8)
      simp only [List.take_succ_cons, List.take_zero]
      refine wpAnyH_take (i := 0) (oi := _) (v := ?_) rfl (by kernel_rfl) (by kernel_rfl) (by kernel_rfl) (fun _ _ _ h => h) (Or.inl ⟨by kernel_rfl, ?_⟩) hHeld ?_
      rotate_left
      · intro w0 hSw; (try dsimp only at hSw); go_simp; (try with_reducible rfl)
      (try dsimp only [Act.put, List.setIfInBounds_toArray, List.set_cons_zero, List.set_cons_succ])
      refine wpAnyH_take (i := 1) (oi := _) (v := ?_) rfl (by kernel_rfl) (by kernel_rfl) (by kernel_rfl) (fun _ _ _ h => h) (Or.inl ⟨by kernel_rfl, ?_⟩) hHeld ?_
      rotate_left
      · intro w0 hSw; (try dsimp only at hSw); go_simp; (try with_reducible rfl)
      (try dsimp only [Act.put, List.setIfInBounds_toArray, List.set_cons_zero, List.set_cons_succ])
      refine wpAnyH_take (i := 3) (oi := _) (v := ?_) rfl (by kernel_rfl) (by kernel_rfl) (by kernel_rfl) (fun _ _ _ h => h) (Or.inl ⟨by kernel_rfl, ?_⟩) hHeld ?_
      rotate_left
      · intro w0 hSw; (try dsimp only at hSw); go_simp; (try with_reducible rfl)
      (try dsimp only [Act.put, List.setIfInBounds_toArray, List.set_cons_zero, List.set_cons_succ])
      refine wpAnyH_ready (rs := [2, 4]) (by kernel_rfl) (by simp) ?_
      refine AllReadyH.cons (o := _) rfl (fun K hK => ?_) (AllReadyH.cons (o := _) rfl (fun K hK => ?_) AllReadyH.nil)
      · go_simp
        refine hK.out _ _ ?_ (fun hHeld => ?_)
        · first | (exact keep_cell (below1 _ _) hHeld) | ((try dsimp only); exact keep_cell (below1 _ _) hHeld)
        clear hK K
        (try dsimp only [Act.put, List.setIfInBounds_toArray, List.set_cons_zero, List.set_cons_succ])
        refine wpAnyH_ready (rs := [4]) (by kernel_rfl) (by simp) ?_
        refine AllReadyH.cons (o := _) rfl (fun K hK => ?_) AllReadyH.nil
        go_simp
        refine (pickV_any ID.out.sr tx3 9 3 (by omega) (by omega)).mono ?_
        rintro e w10 ⟨q, rfl, hq, hcell, hd, hs10, hlt⟩
        obtain ⟨l, hlv, hll⟩ := tx3_at hq
        have hc : w10.cell? ⟨w9.heap.size, q, none⟩ = some (.string (str l)) := (hcell q).trans hlv
        have hqi : (q : Int) < 3 := by omega
        have hadd : str y.tx ++ str l = str (y.tx ++ l) := str_add _ _
        have hcat : ¬ 9223372036854775807 < (str y.tx).size + (str l).size := by rw [str_size, str_size]; have := HXY.out; omega
        have IA := Lib.hid (ID.out.draw hd hs10)
        go_simp
        refine hK.out _ _ ?_ (fun hHeld => ?_)
        · first | (exact IA.out.it.c8) | ((try dsimp only); exact IA.out.it.c8)
        clear hK K
        (try dsimp only [Act.put, List.setIfInBounds_toArray, List.set_cons_zero, List.set_cons_succ])
        refine wpAnyH_take (i := 5) (oi := _) (v := ?_) rfl (by kernel_rfl) (by kernel_rfl) (by kernel_rfl) (fun _ _ _ h => h) (Or.inl ⟨by kernel_rfl, ?_⟩) hHeld ?_
        rotate_left
        · intro w0 hSw; (try dsimp only at hSw); go_simp; (try with_reducible rfl)
        (try dsimp only [Act.put, List.setIfInBounds_toArray, List.set_cons_zero, List.set_cons_succ])
        refine wpAnyH_ready (rs := [6]) (by kernel_rfl) (by simp) ?_
        refine AllReadyH.cons (o := _) rfl (fun K hK => ?_) AllReadyH.nil
        go_simp
        refine hK.out _ _ ?_ (fun hHeld => ?_)
        · first | (exact hHeld) | ((try dsimp only); exact hHeld)
        clear hK K
        (try dsimp only [Act.put, List.setIfInBounds_toArray, List.set_cons_zero, List.set_cons_succ])
        refine wpAnyH_take (i := 7) (oi := _) (v := ?_) rfl (by kernel_rfl) (by kernel_rfl) (by kernel_rfl) (fun _ _ _ h => h) (Or.inl ⟨by kernel_rfl, ?_⟩) hHeld ?_
        rotate_left
        · intro w0 hSw; (try dsimp only at hSw); go_simp; (try with_reducible rfl)
        (try dsimp only [Act.put, List.setIfInBounds_toArray, List.set_cons_zero, List.set_cons_succ])
        refine wpAnyH_take (i := 8) (oi := _) (v := ?_) rfl (by kernel_rfl) (by kernel_rfl) (by kernel_rfl) (fun _ _ _ h => h) (Or.inl ⟨by kernel_rfl, ?_⟩) hHeld ?_
        rotate_left
        · intro w0 hSw; (try dsimp only at hSw); go_simp; (try with_reducible rfl)
        (try dsimp only [Act.put, List.setIfInBounds_toArray, List.set_cons_zero, List.set_cons_succ])
        refine wpAnyH_done (by kernel_rfl) (lastQ_normal ?_) _
        have HI := Lib.hid (IA.out.tx (y.tx ++ l))
        obtain ⟨f, hTR⟩ := IA.out.rz
        have i0 := IA.out.it.c0
        have i1 := IA.out.it.c1
        have i2 := IA.out.it.c2
        have i3 := IA.out.it.c3
        have i4 := IA.out.it.c4
        have i5 := IA.out.it.c5
        have i6 := IA.out.it.c6
        have i7 := IA.out.it.c7
        have i8 := IA.out.it.c8
        have r0 := hTR.cell (i := 0) (by omega)
        have g0 := hTR.fz 0
        have r1 := hTR.cell (i := 1) (by omega)
        have g1 := hTR.fz 1
        have r2 := hTR.cell (i := 2) (by omega)
        have g2 := hTR.fz 2
        have r3 := hTR.cell (i := 3) (by omega)
        have g3 := hTR.fz 3
        have r4 := hTR.cell (i := 4) (by omega)
        have g4 := hTR.fz 4
        have r5 := hTR.cell (i := 5) (by omega)
        have g5 := hTR.fz 5
        have r6 := hTR.cell (i := 6) (by omega)
        have g6 := hTR.fz 6
        have r7 := hTR.cell (i := 7) (by omega)
        have g7 := hTR.fz 7
        have r8 := hTR.cell (i := 8) (by omega)
        have g8 := hTR.fz 8
        have zq := IA.out.it.fz 8
        have HT := Lib.hid (hTR.other (H := Q) (by have := IA.out.q0; omega) 8 (.string (str (y.tx ++ l))))
        have HXX := Lib.hid (show ({ y with tx := y.tx ++ l } : It).tx.length ≤ 6 from by show (y.tx ++ l).length ≤ 6; rw [List.length_append]; have := HXY.out; omega)
        clear hTR
        have hRw : R < w10.heap.size := by have := HT.out.lt; simpa [World.setCell] using this
        have hQw : Q < w10.heap.size := IA.out.it.lt
        have hRQ : R < Q := IA.out.q0
        go_simp
        go_wp2_with fail
        exact ret_cell1 HRES.out Tryz.underlying30 rfl (by kernel_rfl) rfl rfl (hp_set9 HT.out { y with tx := y.tx ++ l }) ⟨⟨{ y with tx := y.tx ++ l }, rfl, HXX.out⟩, dr_set9 HI.out.dr (by rw [hR]; exact Nat.le_refl _) _ _ _ _ _ _ _ _ _, sr_set9 HI.out.sr hsR _ _ _ _ _ _ _ _ _⟩
      · go_simp
        refine (next_any ID.out.sr 3 (by omega) (by omega)).mono ?_
        rintro e w10 ⟨q, rfl, hq, hd, hs10⟩
        obtain ⟨l, hlv, hll⟩ := tx3_at hq
        have hqi : (q : Int) < 3 := by omega
        have hadd : str y.tx ++ str l = str (y.tx ++ l) := str_add _ _
        have hcat : ¬ 9223372036854775807 < (str y.tx).size + (str l).size := by rw [str_size, str_size]; have := HXY.out; omega
        have IB := Lib.hid (ID.out.draw hd hs10)
        go_simp
        refine hK.out _ _ ?_ (fun hHeld => ?_)
        · first | (exact IB.out.it.c8) | ((try dsimp only); exact IB.out.it.c8)
        clear hK K
        (try dsimp only [Act.put, List.setIfInBounds_toArray, List.set_cons_zero, List.set_cons_succ])
        refine wpAnyH_ready (rs := [2]) (by kernel_rfl) (by simp) ?_
        refine AllReadyH.cons (o := _) rfl (fun K hK => ?_) AllReadyH.nil
        go_simp
        have hc2 : (w10.alloc (.cells #[.string { data := #[98] }, .string { data := #[126] }, .string { data := #[10] }] 9)).cell? ⟨w10.heap.size, q, none⟩ = some (.string (str l)) := by (unfold World.cell?; rw [heap_new]; exact hlv)
        refine hK.out _ _ ?_ (fun hHeld => ?_)
        · first | (exact keep_cell (below1 _ _) hHeld) | ((try dsimp only); exact keep_cell (below1 _ _) hHeld)
        clear hK K
        (try dsimp only [Act.put, List.setIfInBounds_toArray, List.set_cons_zero, List.set_cons_succ])
        refine wpAnyH_take (i := 5) (oi := _) (v := ?_) rfl (by kernel_rfl) (by kernel_rfl) (by kernel_rfl) (fun _ _ _ h => h) (Or.inl ⟨by kernel_rfl, ?_⟩) hHeld ?_
        rotate_left
        · intro w0 hSw; (try dsimp only at hSw); go_simp; (try with_reducible rfl)
        (try dsimp only [Act.put, List.setIfInBounds_toArray, List.set_cons_zero, List.set_cons_succ])
        refine wpAnyH_ready (rs := [6]) (by kernel_rfl) (by simp) ?_
        refine AllReadyH.cons (o := _) rfl (fun K hK => ?_) AllReadyH.nil
        go_simp
        refine hK.out _ _ ?_ (fun hHeld => ?_)
        · first | (exact hHeld) | ((try dsimp only); exact hHeld)
        clear hK K
        (try dsimp only [Act.put, List.setIfInBounds_toArray, List.set_cons_zero, List.set_cons_succ])
        refine wpAnyH_take (i := 7) (oi := _) (v := ?_) rfl (by kernel_rfl) (by kernel_rfl) (by kernel_rfl) (fun _ _ _ h => h) (Or.inl ⟨by kernel_rfl, ?_⟩) hHeld ?_
        rotate_left
        · intro w0 hSw; (try dsimp only at hSw); go_simp; (try with_reducible rfl)
        (try dsimp only [Act.put, List.setIfInBounds_toArray, List.set_cons_zero, List.set_cons_succ])
        refine wpAnyH_take (i := 8) (oi := _) (v := ?_) rfl (by kernel_rfl) (by kernel_rfl) (by kernel_rfl) (fun _ _ _ h => h) (Or.inl ⟨by kernel_rfl, ?_⟩) hHeld ?_
        rotate_left
        · intro w0 hSw; (try dsimp only at hSw); go_simp; (try with_reducible rfl)
        (try dsimp only [Act.put, List.setIfInBounds_toArray, List.set_cons_zero, List.set_cons_succ])
        refine wpAnyH_done (by kernel_rfl) (lastQ_normal ?_) _
        obtain ⟨w11, hw11⟩ : ∃ w11, w10.alloc (.cells #[.string { data := #[98] }, .string { data := #[126] }, .string { data := #[10] }] 9) = w11 := ⟨_, rfl⟩
        have IA := Lib.hid (show DI w w11 s R Q y from by rw [← hw11]; exact IB.out.below (below1 _ _))
        rw [hw11]
        clear hw11 hc2 hHeld IB
        have HI := Lib.hid (IA.out.tx (y.tx ++ l))
        obtain ⟨f, hTR⟩ := IA.out.rz
        have i0 := IA.out.it.c0
        have i1 := IA.out.it.c1
        have i2 := IA.out.it.c2
        have i3 := IA.out.it.c3
        have i4 := IA.out.it.c4
        have i5 := IA.out.it.c5
        have i6 := IA.out.it.c6
        have i7 := IA.out.it.c7
        have i8 := IA.out.it.c8
        have r0 := hTR.cell (i := 0) (by omega)
        have g0 := hTR.fz 0
        have r1 := hTR.cell (i := 1) (by omega)
        have g1 := hTR.fz 1
        have r2 := hTR.cell (i := 2) (by omega)
        have g2 := hTR.fz 2
        have r3 := hTR.cell (i := 3) (by omega)
        have g3 := hTR.fz 3
        have r4 := hTR.cell (i := 4) (by omega)
        have g4 := hTR.fz 4
        have r5 := hTR.cell (i := 5) (by omega)
        have g5 := hTR.fz 5
        have r6 := hTR.cell (i := 6) (by omega)
        have g6 := hTR.fz 6
        have r7 := hTR.cell (i := 7) (by omega)
        have g7 := hTR.fz 7
        have r8 := hTR.cell (i := 8) (by omega)
        have g8 := hTR.fz 8
        have zq := IA.out.it.fz 8
        have HT := Lib.hid (hTR.other (H := Q) (by have := IA.out.q0; omega) 8 (.string (str (y.tx ++ l))))
        have HXX := Lib.hid (show ({ y with tx := y.tx ++ l } : It).tx.length ≤ 6 from by show (y.tx ++ l).length ≤ 6; rw [List.length_append]; have := HXY.out; omega)
        clear hTR
        have hRw : R < w11.heap.size := by have := HT.out.lt; simpa [World.setCell] using this
        have hQw : Q < w11.heap.size := IA.out.it.lt
        have hRQ : R < Q := IA.out.q0
        go_simp
        go_wp2_with fail
        exact ret_cell1 HRES.out Tryz.underlying30 rfl (by kernel_rfl) rfl rfl (hp_set9 HT.out { y with tx := y.tx ++ l }) ⟨⟨{ y with tx := y.tx ++ l }, rfl, HXX.out⟩, dr_set9 HI.out.dr (by rw [hR]; exact Nat.le_refl _) _ _ _ _ _ _ _ _ _, sr_set9 HI.out.sr hsR _ _ _ _ _ _ _ _ _⟩
    · have e0 : ((kk : Int) == 0) = false := by simp [hke]
      have e1 : ((kk : Int) == 1) = true := by simp [hke]
      clear hke
      go_wp2_with fail
      refine (pickN_any I9.out.sr [0, 8, 9] 2 3 (by omega) (by omega) (by simp)).mono ?_
      rintro e w10 ⟨q, rfl, hq, hcell, hd, hs10, hlt⟩
      have hqi : (q : Int) < 3 := by omega
      have hc := hcell q hq
      have IA := Lib.hid (I9.out.draw hd hs10)
      clear hd hs10 hcell I9
      generalize gi [0, 8, 9] q = v at *
      obtain ⟨f, hTR⟩ := IA.out.rz
      have i0 := IA.out.it.c0
      have i1 := IA.out.it.c1
      have i2 := IA.out.it.c2
      have i3 := IA.out.it.c3
      have i4 := IA.out.it.c4
      have i5 := IA.out.it.c5
      have i6 := IA.out.it.c6
      have i7 := IA.out.it.c7
      have i8 := IA.out.it.c8
      have r0 := hTR.cell (i := 0) (by omega)
      have g0 := hTR.fz 0
      have r1 := hTR.cell (i := 1) (by omega)
      have g1 := hTR.fz 1
      have r2 := hTR.cell (i := 2) (by omega)
      have g2 := hTR.fz 2
      have r3 := hTR.cell (i := 3) (by omega)
      have g3 := hTR.fz 3
      have r4 := hTR.cell (i := 4) (by omega)
      have g4 := hTR.fz 4
      have r5 := hTR.cell (i := 5) (by omega)
      have g5 := hTR.fz 5
      have r6 := hTR.cell (i := 6) (by omega)
      have g6 := hTR.fz 6
      have r7 := hTR.cell (i := 7) (by omega)
      have g7 := hTR.fz 7
      have r8 := hTR.cell (i := 8) (by omega)
      have g8 := hTR.fz 8
      have zq := IA.out.it.fz 3
      have HI := Lib.hid (IA.out.sc v)
      have HT := Lib.hid (hTR.other (H := Q) (by have := IA.out.q0; omega) 3 (.int .i64 v))
      have HXX := Lib.hid (show ({ y with sc := v } : It).tx.length ≤ 6 from Nat.le_succ_of_le HXY.out)
      clear hTR
      have hRw : R < w10.heap.size := by have := HT.out.lt; simpa [World.setCell] using this
      have hQw : Q < w10.heap.size := IA.out.it.lt
      have hRQ : R < Q := IA.out.q0
      go_wp2_with fail
      exact ret_cell1 HRES.out Tryz.underlying30 rfl (by kernel_rfl) rfl rfl (hp_set9 HT.out { y with sc := v }) ⟨⟨{ y with sc := v }, rfl, HXX.out⟩, dr_set9 HI.out.dr (by rw [hR]; exact Nat.le_refl _) _ _ _ _ _ _ _ _ _, sr_set9 HI.out.sr hsR _ _ _ _ _ _ _ _ _⟩
    · have e0 : ((kk : Int) == 0) = false := by simp [hke]
      have e1 : ((kk : Int) == 1) = false := by simp [hke]
      have e2 : ((kk : Int) == 2) = true := by simp [hke]
      clear hke
      go_wp2_with fail
      refine (pickN_any I9.out.sr [0, 4] 2 2 (by omega) (by omega) (by simp)).mono ?_
      rintro e w10 ⟨q, rfl, hq, hcell, hd, hs10, hlt⟩
      have hqi : (q : Int) < 2 := by omega
      have hc := hcell q hq
      have IA := Lib.hid (I9.out.draw hd hs10)
      clear hd hs10 hcell I9
      generalize gi [0, 4] q = v at *
      obtain ⟨f, hTR⟩ := IA.out.rz
      have i0 := IA.out.it.c0
      have i1 := IA.out.it.c1
      have i2 := IA.out.it.c2
      have i3 := IA.out.it.c3
      have i4 := IA.out.it.c4
      have i5 := IA.out.it.c5
      have i6 := IA.out.it.c6
      have i7 := IA.out.it.c7
      have i8 := IA.out.it.c8
      have r0 := hTR.cell (i := 0) (by omega)
      have g0 := hTR.fz 0
      have r1 := hTR.cell (i := 1) (by omega)
      have g1 := hTR.fz 1
      have r2 := hTR.cell (i := 2) (by omega)
      have g2 := hTR.fz 2
      have r3 := hTR.cell (i := 3) (by omega)
      have g3 := hTR.fz 3
      have r4 := hTR.cell (i := 4) (by omega)
      have g4 := hTR.fz 4
      have r5 := hTR.cell (i := 5) (by omega)
      have g5 := hTR.fz 5
      have r6 := hTR.cell (i := 6) (by omega)
      have g6 := hTR.fz 6
      have r7 := hTR.cell (i := 7) (by omega)
      have g7 := hTR.fz 7
      have r8 := hTR.cell (i := 8) (by omega)
      have g8 := hTR.fz 8
      have zq := IA.out.it.fz 0
      have HI := Lib.hid (IA.out.kd v)
      have HT := Lib.hid (hTR.other (H := Q) (by have := IA.out.q0; omega) 0 (.int .i64 v))
      have HXX := Lib.hid (show ({ y with kd := v } : It).tx.length ≤ 6 from Nat.le_succ_of_le HXY.out)
      clear hTR
      have hRw : R < w10.heap.size := by have := HT.out.lt; simpa [World.setCell] using this
      have hQw : Q < w10.heap.size := IA.out.it.lt
      have hRQ : R < Q := IA.out.q0
      go_wp2_with fail
      exact ret_cell1 HRES.out Tryz.underlying30 rfl (by kernel_rfl) rfl rfl (hp_set9 HT.out { y with kd := v }) ⟨⟨{ y with kd := v }, rfl, HXX.out⟩, dr_set9 HI.out.dr (by rw [hR]; exact Nat.le_refl _) _ _ _ _ _ _ _ _ _, sr_set9 HI.out.sr hsR _ _ _ _ _ _ _ _ _⟩
    · have e0 : ((kk : Int) == 0) = false := by simp [hke]
      have e1 : ((kk : Int) == 1) = false := by simp [hke]
      have e2 : ((kk : Int) == 2) = false := by simp [hke]
      have e3 : ((kk : Int) == 3) = true := by simp [hke]
      clear hke
      go_wp2_with fail
      refine (pickN_any I9.out.sr [1, 9, -1] 2 3 (by omega) (by omega) (by simp)).mono ?_
      rintro e w10 ⟨q, rfl, hq, hcell, hd, hs10, hlt⟩
      have hqi : (q : Int) < 3 := by omega
      have hc := hcell q hq
      have IA := Lib.hid (I9.out.draw hd hs10)
      clear hd hs10 hcell I9
      generalize gi [1, 9, -1] q = v at *
      obtain ⟨f, hTR⟩ := IA.out.rz
      have i0 := IA.out.it.c0
      have i1 := IA.out.it.c1
      have i2 := IA.out.it.c2
      have i3 := IA.out.it.c3
      have i4 := IA.out.it.c4
      have i5 := IA.out.it.c5
      have i6 := IA.out.it.c6
      have i7 := IA.out.it.c7
      have i8 := IA.out.it.c8
      have r0 := hTR.cell (i := 0) (by omega)
      have g0 := hTR.fz 0
      have r1 := hTR.cell (i := 1) (by omega)
      have g1 := hTR.fz 1
      have r2 := hTR.cell (i := 2) (by omega)
      have g2 := hTR.fz 2
      have r3 := hTR.cell (i := 3) (by omega)
      have g3 := hTR.fz 3
      have r4 := hTR.cell (i := 4) (by omega)
      have g4 := hTR.fz 4
      have r5 := hTR.cell (i := 5) (by omega)
      have g5 := hTR.fz 5
      have r6 := hTR.cell (i := 6) (by omega)
      have g6 := hTR.fz 6
      have r7 := hTR.cell (i := 7) (by omega)
      have g7 := hTR.fz 7
      have r8 := hTR.cell (i := 8) (by omega)
      have g8 := hTR.fz 8
      have zq := IA.out.it.fz 7
      have HI := Lib.hid (IA.out.lv v)
      have HT := Lib.hid (hTR.other (H := Q) (by have := IA.out.q0; omega) 7 (.int .i64 v))
      have HXX := Lib.hid (show ({ y with lv := v } : It).tx.length ≤ 6 from Nat.le_succ_of_le HXY.out)
      clear hTR
      have hRw : R < w10.heap.size := by have := HT.out.lt; simpa [World.setCell] using this
      have hQw : Q < w10.heap.size := IA.out.it.lt
      have hRQ : R < Q := IA.out.q0
      go_wp2_with fail
      exact ret_cell1 HRES.out Tryz.underlying30 rfl (by kernel_rfl) rfl rfl (hp_set9 HT.out { y with lv := v }) ⟨⟨{ y with lv := v }, rfl, HXX.out⟩, dr_set9 HI.out.dr (by rw [hR]; exact Nat.le_refl _) _ _ _ _ _ _ _ _ _, sr_set9 HI.out.sr hsR _ _ _ _ _ _ _ _ _⟩
    · have e0 : ((kk : Int) == 0) = false := by simp; omega
      have e1 : ((kk : Int) == 1) = false := by simp; omega
      have e2 : ((kk : Int) == 2) = false := by simp; omega
      have e3 : ((kk : Int) == 3) = false := by simp; omega
      clear hke
      obtain ⟨f, hTR⟩ := I9.out.rz
      have i0 := I9.out.it.c0
      have i1 := I9.out.it.c1
      have i2 := I9.out.it.c2
      have i3 := I9.out.it.c3
      have i4 := I9.out.it.c4
      have i5 := I9.out.it.c5
      have i6 := I9.out.it.c6
      have i7 := I9.out.it.c7
      have i8 := I9.out.it.c8
      have r0 := hTR.cell (i := 0) (by omega)
      have g0 := hTR.fz 0
      have r1 := hTR.cell (i := 1) (by omega)
      have g1 := hTR.fz 1
      have r2 := hTR.cell (i := 2) (by omega)
      have g2 := hTR.fz 2
      have r3 := hTR.cell (i := 3) (by omega)
      have g3 := hTR.fz 3
      have r4 := hTR.cell (i := 4) (by omega)
      have g4 := hTR.fz 4
      have r5 := hTR.cell (i := 5) (by omega)
      have g5 := hTR.fz 5
      have r6 := hTR.cell (i := 6) (by omega)
      have g6 := hTR.fz 6
      have r7 := hTR.cell (i := 7) (by omega)
      have g7 := hTR.fz 7
      have r8 := hTR.cell (i := 8) (by omega)
      have g8 := hTR.fz 8
      have HI := Lib.hid I9.out
      have HT := Lib.hid hTR
      have HXX := Lib.hid (show y.tx.length ≤ 6 from Nat.le_succ_of_le HXY.out)
      clear hTR
      have hRw : R < w9.heap.size := HT.out.lt
      have hQw : Q < w9.heap.size := I9.out.it.lt
      have hRQ : R < Q := I9.out.q0
      go_wp2_with fail
      exact ret_cell1 HRES.out Tryz.underlying30 rfl (by kernel_rfl) rfl rfl (hp_set9 HT.out y) ⟨⟨y, rfl, HXX.out⟩, dr_set9 HI.out.dr (by rw [hR]; exact Nat.le_refl _) _ _ _ _ _ _ _ _ _, sr_set9 HI.out.sr hsR _ _ _ _ _ _ _ _ _⟩
  · have e1 : (kd == 1) = false := by simp [hk]
    have e2 : (kd == 2) = true := by simp [hk]
    clear hk
    have i0 := I6.out.it.c0
    rw [hxk] at i0
    have i1 := I6.out.it.c1
    have i2 := I6.out.it.c2
    have hQs : Q ≠ s := by have := I6.out.s0; have := I6.out.r0; have := I6.out.q0; omega
    go_wp2_with fail
    have ID := Lib.hid (show DI w w6.drew s R Q x from I6.out.below (Below.refl _ _).drew)
    clear I6
    refine wp_region_last (S := (fun w' => w'.cell? ⟨Q, 0, none⟩ = some (.int .i64 kd) ∧ w'.cell? ⟨Q, 1, none⟩ = some (.int .i64 x.rw) ∧ w'.cell? ⟨Q, 2, none⟩ = some (.int .i64 x.cl))) 13 (by kernel_rfl) rfl (by kernel_rfl) ?_ (fun hHeld => ?_)
    · (try dsimp only); exact ⟨i0, i1, i2⟩
    simp only [List.take_succ_cons, List.take_zero]
    refine wpAnyH_take (i := 0) (oi := _) (v := ?_) rfl (by kernel_rfl) (by kernel_rfl) (by kernel_rfl) (fun _ _ _ h => h) (Or.inl ⟨by kernel_rfl, ?_⟩) hHeld ?_
    rotate_left
    · intro w0 hSw; (try dsimp only at hSw); go_simp; (try with_reducible rfl)
    (try dsimp only [Act.put, List.setIfInBounds_toArray, List.set_cons_zero, List.set_cons_succ])
    refine wpAnyH_take (i := 1) (oi := _) (v := ?_) rfl (by kernel_rfl) (by kernel_rfl) (by kernel_rfl) (fun _ _ _ h => h) (Or.inl ⟨by kernel_rfl, ?_⟩) hHeld ?_
    rotate_left
    · intro w0 hSw; (try dsimp only at hSw); go_simp; (try with_reducible rfl)
    (try dsimp only [Act.put, List.setIfInBounds_toArray, List.set_cons_zero, List.set_cons_succ])
    refine wpAnyH_take (i := 2) (oi := _) (v := ?_) rfl (by kernel_rfl) (by kernel_rfl) (by kernel_rfl) (fun _ _ _ h => h) (Or.inl ⟨by kernel_rfl, ?_⟩) hHeld ?_
    rotate_left
    · intro w0 hSw; (try dsimp only at hSw); go_simp; (try with_reducible rfl)
    (try dsimp only [Act.put, List.setIfInBounds_toArray, List.set_cons_zero, List.set_cons_succ])
    refine wpAnyH_take (i := 3) (oi := _) (v := ?_) rfl (by kernel_rfl) (by kernel_rfl) (by kernel_rfl) (fun _ _ _ h => h) (Or.inl ⟨by kernel_rfl, ?_⟩) hHeld ?_
    rotate_left
    · intro w0 hSw; (try dsimp only at hSw); go_simp; (try with_reducible rfl)
    (try dsimp only [Act.put, List.setIfInBounds_toArray, List.set_cons_zero, List.set_cons_succ])
    refine wpAnyH_take (i := 4) (oi := _) (v := ?_) rfl (by kernel_rfl) (by kernel_rfl) (by kernel_rfl) (fun _ _ _ h => h) (Or.inl ⟨by kernel_rfl, ?_⟩) hHeld ?_
    rotate_left
    · intro w0 hSw; (try dsimp only at hSw); go_simp; (try with_reducible rfl)
    (try dsimp only [Act.put, List.setIfInBounds_toArray, List.set_cons_zero, List.set_cons_succ])
    refine wpAnyH_take (i := 5) (oi := _) (v := ?_) rfl (by kernel_rfl) (by kernel_rfl) (by kernel_rfl) (fun _ _ _ h => h) (Or.inl ⟨by kernel_rfl, ?_⟩) hHeld ?_
    rotate_left
    · intro w0 hSw; (try dsimp only at hSw); go_simp; (try with_reducible rfl)
    (try dsimp only [Act.put, List.setIfInBounds_toArray, List.set_cons_zero, List.set_cons_succ])
    refine wpAnyH_take (i := 6) (oi := _) (v := ?_) rfl (by kernel_rfl) (by kernel_rfl) (by kernel_rfl) (fun _ _ _ h => h) (Or.inl ⟨by kernel_rfl, ?_⟩) hHeld ?_
    rotate_left
    · intro w0 hSw; (try dsimp only at hSw); go_simp; (try with_reducible rfl)
    (try dsimp only [Act.put, List.setIfInBounds_toArray, List.set_cons_zero, List.set_cons_succ])
    refine wpAnyH_take (i := 9) (oi := _) (v := ?_) rfl (by kernel_rfl) (by kernel_rfl) (by kernel_rfl) (fun _ _ _ h => h) (Or.inl ⟨by kernel_rfl, ?_⟩) hHeld ?_
    rotate_left
    · intro w0 hSw; (try dsimp only at hSw); go_simp; (try with_reducible rfl)
    (try dsimp only [Act.put, List.setIfInBounds_toArray, List.set_cons_zero, List.set_cons_succ])
    refine wpAnyH_ready (rs := [7]) (by kernel_rfl) (by simp) ?_
    refine AllReadyH.cons (o := _) rfl (fun K hK => ?_) AllReadyH.nil
    go_simp
    refine (next_any ID.out.sr 9 (by omega) (by omega)).mono ?_
    rintro e w7 ⟨k4, rfl, hk4, hd, hs7⟩
    have I7 := Lib.hid (ID.out.draw hd hs7)
    go_wp2_with fail
    refine hK.out _ _ ?_ (fun hHeld => ?_)
    · (try dsimp only); exact ⟨hd.cell hHeld.1 hQs, hd.cell hHeld.2.1 hQs, hd.cell hHeld.2.2 hQs⟩
    clear hK K
    (try dsimp only [Act.put, List.setIfInBounds_toArray, List.set_cons_zero, List.set_cons_succ])
    refine wpAnyH_take (i := 8) (oi := _) (v := ?_) rfl (by kernel_rfl) (by kernel_rfl) (by kernel_rfl) (fun _ _ _ h => h) (Or.inl ⟨by kernel_rfl, ?_⟩) hHeld ?_
    rotate_left
    · intro w0 hSw; (try dsimp only at hSw); go_simp; (try with_reducible rfl)
    (try dsimp only [Act.put, List.setIfInBounds_toArray, List.set_cons_zero, List.set_cons_succ])
    refine wpAnyH_ready (rs := [10]) (by kernel_rfl) (by simp) ?_
    refine AllReadyH.cons (o := _) rfl (fun K hK => ?_) AllReadyH.nil
    go_simp
    refine (next_any I7.out.sr 20 (by omega) (by omega)).mono ?_
    rintro e w8 ⟨k5, rfl, hk5, hd, hs8⟩
    have I8 := Lib.hid (I7.out.draw hd hs8)
    go_wp2_with fail
    refine hK.out _ _ ?_ (fun hHeld => ?_)
    · (try dsimp only); exact ⟨hd.cell hHeld.1 hQs, hd.cell hHeld.2.1 hQs, hd.cell hHeld.2.2 hQs⟩
    clear hK K
    (try dsimp only [Act.put, List.setIfInBounds_toArray, List.set_cons_zero, List.set_cons_succ])
    refine wpAnyH_take (i := 11) (oi := _) (v := ?_) rfl (by kernel_rfl) (by kernel_rfl) (by kernel_rfl) (fun _ _ _ h => h) (Or.inl ⟨by kernel_rfl, ?_⟩) hHeld ?_
    rotate_left
    · intro w0 hSw; (try dsimp only at hSw); go_simp; (try with_reducible rfl)
    (try dsimp only [Act.put, List.setIfInBounds_toArray, List.set_cons_zero, List.set_cons_succ])
    refine wpAnyH_take (i := 12) (oi := _) (v := ?_) rfl (by kernel_rfl) (by kernel_rfl) (by kernel_rfl) (fun _ _ _ h => h) (Or.inl ⟨by kernel_rfl, ?_⟩) hHeld ?_
    rotate_left
    · intro w0 hSw; (try dsimp only at hSw); go_simp; (try with_reducible rfl)
    (try dsimp only [Act.put, List.setIfInBounds_toArray, List.set_cons_zero, List.set_cons_succ])
    refine wpAnyH_done (by kernel_rfl) (lastQ_normal ?_) _
    clear hHeld i0 i1 i2 ID I7
    have i0 := I8.out.it.c0
    have g0 := I8.out.it.fz 0
    have i1 := I8.out.it.c1
    have g1 := I8.out.it.fz 1
    have i2 := I8.out.it.c2
    have g2 := I8.out.it.fz 2
    have i3 := I8.out.it.c3
    have g3 := I8.out.it.fz 3
    have i4 := I8.out.it.c4
    have g4 := I8.out.it.fz 4
    have i5 := I8.out.it.c5
    have g5 := I8.out.it.fz 5
    have i6 := I8.out.it.c6
    have g6 := I8.out.it.fz 6
    have i7 := I8.out.it.c7
    have g7 := I8.out.it.fz 7
    have i8 := I8.out.it.c8
    have g8 := I8.out.it.fz 8
    have IC := Lib.hid (show DI w (set9 w8 Q (.int .i64 kd) (.int .i64 x.rw) (.int .i64 x.cl) (.int .i64 0) (.int .i64 (1 + (k4 : Int))) (.int .i64 (1 + (k5 : Int))) (.string { data := #[] }) (.int .i64 0) (.string { data := #[] })) s R Q ⟨kd, x.rw, x.cl, 0, 1 + (k4 : Int), 1 + (k5 : Int), [], 0, []⟩ from I8.out.all ⟨kd, x.rw, x.cl, 0, 1 + (k4 : Int), 1 + (k5 : Int), [], 0, []⟩)
    go_simp
    go_wp2_with fail
    clear I8 i0 i1 i2 i3 i4 i5 i6 i7 i8 g0 g1 g2 g3 g4 g5 g6 g7 g8
    obtain ⟨y, hy⟩ : ∃ y : It, ⟨kd, x.rw, x.cl, 0, 1 + (k4 : Int), 1 + (k5 : Int), [], 0, []⟩ = y := ⟨_, rfl⟩
    rw [hy] at IC
    have HXY := Lib.hid (show y.tx.length ≤ 5 from by rw [← hy]; exact Nat.zero_le _)
    clear hy
    refine (next_any IC.out.sr 30 (by omega) (by omega)).mono ?_
    rintro e w9 ⟨kk, rfl, hkk, hd, hs9⟩
    have I9 := Lib.hid (IC.out.draw hd hs9)
    clear hd hs9 IC
    have z8 := I9.out.it.fz 8
    have y8 := I9.out.it.c8
    rcases (show kk = 0 ∨ kk = 1 ∨ kk = 2 ∨ kk = 3 ∨ 4 ≤ kk by omega) with hke | hke | hke | hke | hke
    · have e0 : ((kk : Int) == 0) = true := by simp [hke]
      clear hke
      go_wp2_with fail
      have hQs : Q ≠ s := by have := I9.out.s0; have := I9.out.r0; have := I9.out.q0; omega
      have ID := Lib.hid (show DI w w9.drew s R Q y from I9.out.below (Below.refl _ _).drew)
      have hszD : w9.drew.heap.size = w9.heap.size := rfl
      clear I9
      refine wp_region_last (S := (fun w' => w'.cell? ⟨Q, 8, none⟩ = some (.string (str y.tx)))) 9 (by kernel_rfl) rfl (by kernel_rfl) ?_ (fun hHeld => ?_)
      · first | (exact ID.out.it.c8) | ((try dsimp only); exact ID.out.it.c8)
      simp only [List.take_succ_cons, List.take_zero]
      refine wpAnyH_take (i := 0) (oi := _) (v := ?_) rfl (by kernel_rfl) (by kernel_rfl) (by kernel_rfl) (fun _ _ _ h => h) (Or.inl ⟨by kernel_rfl, ?_⟩) hHeld ?_
      rotate_left
      · intro w0 hSw; (try dsimp only at hSw); go_simp; (try with_reducible rfl)
      (try dsimp only [Act.put, List.setIfInBounds_toArray, List.set_cons_zero, List.set_cons_succ])
      refine wpAnyH_take (i := 1) (oi := _) (v := ?_) rfl (by kernel_rfl) (by kernel_rfl) (by kernel_rfl) (fun _ _ _ h => h) (Or.inl ⟨by kernel_rfl, ?_⟩) hHeld ?_
      rotate_left
      · intro w0 hSw; (try dsimp only at hSw); go_simp; (try with_reducible rfl)
      (try dsimp only [Act.put, List.setIfInBounds_toArray, List.set_cons_zero, List.set_cons_succ])
      refine wpAnyH_take (i := 3) (oi := _) (v := ?_) rfl (by kernel_rfl) (by kernel_rfl) (by kernel_rfl) (fun _ _ _ h => h) (Or.inl ⟨by kernel_rfl, ?_⟩) hHeld ?_
      rotate_left
      · intro w0 hSw; (try dsimp only at hSw); go_simp; (try with_reducible rfl)
      (try dsimp only [Act.put, List.setIfInBounds_toArray, List.set_cons_zero, List.set_cons_succ])
      refine wpAnyH_ready (rs := [2, 4]) (by kernel_rfl) (by simp) ?_
      refine AllReadyH.cons (o := _) rfl (fun K hK => ?_) (AllReadyH.cons (o := _) rfl (fun K hK => ?_) AllReadyH.nil)
      · go_simp
        refine hK.out _ _ ?_ (fun hHeld => ?_)
        · first | (exact keep_cell (below1 _ _) hHeld) | ((try dsimp only); exact keep_cell (below1 _ _) hHeld)
        clear hK K
        (try dsimp only [Act.put, List.setIfInBounds_toArray, List.set_cons_zero, List.set_cons_succ])
        refine wpAnyH_ready (rs := [4]) (by kernel_rfl) (by simp) ?_
        refine AllReadyH.cons (o := _) rfl (fun K hK => ?_) AllReadyH.nil
        go_simp
        refine (pickV_any ID.out.sr tx3 9 3 (by omega) (by omega)).mono ?_
        rintro e w10 ⟨q, rfl, hq, hcell, hd, hs10, hlt⟩
        obtain ⟨l, hlv, hll⟩ := tx3_at hq
        have hc : w10.cell? ⟨w9.heap.size, q, none⟩ = some (.string (str l)) := (hcell q).trans hlv
        have hqi : (q : Int) < 3 := by omega
        have hadd : str y.tx ++ str l = str (y.tx ++ l) := str_add _ _
        have hcat : ¬ 9223372036854775807 < (str y.tx).size + (str l).size := by rw [str_size, str_size]; have := HXY.out; omega
        have IA := Lib.hid (ID.out.draw hd hs10)
        go_simp
        refine hK.out _ _ ?_ (fun hHeld => ?_)
        · first | (exact IA.out.it.c8) | ((try dsimp only); exact IA.out.it.c8)
        clear hK K
        (try dsimp only [Act.put, List.setIfInBounds_toArray, List.set_cons_zero, List.set_cons_succ])
        refine wpAnyH_take (i := 5) (oi := _) (v := ?_) rfl (by kernel_rfl) (by kernel_rfl) (by kernel_rfl) (fun _ _ _ h => h) (Or.inl ⟨by kernel_rfl, ?_⟩) hHeld ?_
        rotate_left
        · intro w0 hSw; (try dsimp only at hSw); go_simp; (try with_reducible rfl)
        (try dsimp only [Act.put, List.setIfInBounds_toArray, List.set_cons_zero, List.set_cons_succ])
        refine wpAnyH_ready (rs := [6]) (by kernel_rfl) (by simp) ?_
        refine AllReadyH.cons (o := _) rfl (fun K hK => ?_) AllReadyH.nil
        go_simp
        refine hK.out _ _ ?_ (fun hHeld => ?_)
        · first | (exact hHeld) | ((try dsimp only); exact hHeld)
        clear hK K
        (try dsimp only [Act.put, List.setIfInBounds_toArray, List.set_cons_zero, List.set_cons_succ])
        refine wpAnyH_take (i := 7) (oi := _) (v := ?_) rfl (by kernel_rfl) (by kernel_rfl) (by kernel_rfl) (fun _ _ _ h => h) (Or.inl ⟨by kernel_rfl, ?_⟩) hHeld ?_
        rotate_left
        · intro w0 hSw; (try dsimp only at hSw); go_simp; (try with_reducible rfl)
        (try dsimp only [Act.put, List.setIfInBounds_toArray, List.set_cons_zero, List.set_cons_succ])
        refine wpAnyH_take (i := 8) (oi := _) (v := ?_) rfl (by kernel_rfl) (by kernel_rfl) (by kernel_rfl) (fun _ _ _ h => h) (Or.inl ⟨by kernel_rfl, ?_⟩) hHeld ?_
        rotate_left
        · intro w0 hSw; (try dsimp only at hSw); go_simp; (try with_reducible rfl)
        (try dsimp only [Act.put, List.setIfInBounds_toArray, List.set_cons_zero, List.set_cons_succ])
        refine wpAnyH_done (by kernel_rfl) (lastQ_normal ?_) _
        have HI := Lib.hid (IA.out.tx (y.tx ++ l))
        obtain ⟨f, hTR⟩ := IA.out.rz
        have i0 := IA.out.it.c0
        have i1 := IA.out.it.c1
        have i2 := IA.out.it.c2
        have i3 := IA.out.it.c3
        have i4 := IA.out.it.c4
        have i5 := IA.out.it.c5
        have i6 := IA.out.it.c6
        have i7 := IA.out.it.c7
        have i8 := IA.out.it.c8
        have r0 := hTR.cell (i := 0) (by omega)
        have g0 := hTR.fz 0
        have r1 := hTR.cell (i := 1) (by omega)
        have g1 := hTR.fz 1
        have r2 := hTR.cell (i := 2) (by omega)
        have g2 := hTR.fz 2
        have r3 := hTR.cell (i := 3) (by omega)
        have g3 := hTR.fz 3
        have r4 := hTR.cell (i := 4) (by omega)
        have g4 := hTR.fz 4
        have r5 := hTR.cell (i := 5) (by omega)
        have g5 := hTR.fz 5
        have r6 := hTR.cell (i := 6) (by omega)
        have g6 := hTR.fz 6
        have r7 := hTR.cell (i := 7) (by omega)
        have g7 := hTR.fz 7
        have r8 := hTR.cell (i := 8) (by omega)
        have g8 := hTR.fz 8
        have zq := IA.out.it.fz 8
        have HT := Lib.hid (hTR.other (H := Q) (by have := IA.out.q0; omega) 8 (.string (str (y.tx ++ l))))
        have HXX := Lib.hid (show ({ y with tx := y.tx ++ l } : It).tx.length ≤ 6 from by show (y.tx ++ l).length ≤ 6; rw [List.length_append]; have := HXY.out; omega)
        clear hTR
        have hRw : R < w10.heap.size := by have := HT.out.lt; simpa [World.setCell] using this
        have hQw : Q < w10.heap.size := IA.out.it.lt
        have hRQ : R < Q := IA.out.q0
        go_simp
        go_wp2_with fail
        exact ret_cell1 HRES.out Tryz.underlying30 rfl (by kernel_rfl) rfl rfl (hp_set9 HT.out { y with tx := y.tx ++ l }) ⟨⟨{ y with tx := y.tx ++ l }, rfl, HXX.out⟩, dr_set9 HI.out.dr (by rw [hR]; exact Nat.le_refl _) _ _ _ _ _ _ _ _ _, sr_set9 HI.out.sr hsR _ _ _ _ _ _ _ _ _⟩
      · go_simp
        refine (next_any ID.out.sr 3 (by omega) (by omega)).mono ?_
        rintro e w10 ⟨q, rfl, hq, hd, hs10⟩
        obtain ⟨l, hlv, hll⟩ := tx3_at hq
        have hqi : (q : Int) < 3 := by omega
        have hadd : str y.tx ++ str l = str (y.tx ++ l) := str_add _ _
        have hcat : ¬ 9223372036854775807 < (str y.tx).size + (str l).size := by rw [str_size, str_size]; have := HXY.out; omega
        have IB := Lib.hid (ID.out.draw hd hs10)
        go_simp
        refine hK.out _ _ ?_ (fun hHeld => ?_)
        · first | (exact IB.out.it.c8) | ((try dsimp only); exact IB.out.it.c8)
        clear hK K
        (try dsimp only [Act.put, List.setIfInBounds_toArray, List.set_cons_zero, List.set_cons_succ])
        refine wpAnyH_ready (rs := [2]) (by kernel_rfl) (by simp) ?_
        refine AllReadyH.cons (o := _) rfl (fun K hK => ?_) AllReadyH.nil
        go_simp
        have hc2 : (w10.alloc (.cells #[.string { data := #[98] }, .string { data := #[126] }, .string { data := #[10] }] 9)).cell? ⟨w10.heap.size, q, none⟩ = some (.string (str l)) := by (unfold World.cell?; rw [heap_new]; exact hlv)
        refine hK.out _ _ ?_ (fun hHeld => ?_)
        · first | (exact keep_cell (below1 _ _) hHeld) | ((try dsimp only); exact keep_cell (below1 _ _) hHeld)
        clear hK K
        (try dsimp only [Act.put, List.setIfInBounds_toArray, List.set_cons_zero, List.set_cons_succ])
        refine wpAnyH_take (i := 5) (oi := _) (v := ?_) rfl (by kernel_rfl) (by kernel_rfl) (by kernel_rfl) (fun _ _ _ h => h) (Or.inl ⟨by kernel_rfl, ?_⟩) hHeld ?_
        rotate_left
        · intro w0 hSw; (try dsimp only at hSw); go_simp; (try with_reducible rfl)
        (try dsimp only [Act.put, List.setIfInBounds_toArray, List.set_cons_zero, List.set_cons_succ])
        refine wpAnyH_ready (rs := [6]) (by kernel_rfl) (by simp) ?_
        refine AllReadyH.cons (o := _) rfl (fun K hK => ?_) AllReadyH.nil
        go_simp
        refine hK.out _ _ ?_ (fun hHeld => ?_)
        · first | (exact hHeld) | ((try dsimp only); exact hHeld)
        clear hK K
        (try dsimp only [Act.put, List.setIfInBounds_toArray, List.set_cons_zero, List.set_cons_succ])
        refine wpAnyH_take (i := 7) (oi := _) (v := ?_) rfl (by kernel_rfl) (by kernel_rfl) (by kernel_rfl) (fun _ _ _ h => h) (Or.inl ⟨by kernel_rfl, ?_⟩) hHeld ?_
        rotate_left
        · intro w0 hSw; (try dsimp only at hSw); go_simp; (try with_reducible rfl)
        (try dsimp only [Act.put, List.setIfInBounds_toArray, List.set_cons_zero, List.set_cons_succ])
        refine wpAnyH_take (i := 8) (oi := _) (v := ?_) rfl (by kernel_rfl) (by kernel_rfl) (by kernel_rfl) (fun _ _ _ h => h) (Or.inl ⟨by kernel_rfl, ?_⟩) hHeld ?_
        rotate_left
        · intro w0 hSw; (try dsimp only at hSw); go_simp; (try with_reducible rfl)
        (try dsimp only [Act.put, List.setIfInBounds_toArray, List.set_cons_zero, List.set_cons_succ])
        refine wpAnyH_done (by kernel_rfl) (lastQ_normal ?_) _
        obtain ⟨w11, hw11⟩ : ∃ w11, w10.alloc (.cells #[.string { data := #[98] }, .string { data := #[126] }, .string { data := #[10] }] 9) = w11 := ⟨_, rfl⟩
        have IA := Lib.hid (show DI w w11 s R Q y from by rw [← hw11]; exact IB.out.below (below1 _ _))
        rw [hw11]
        clear hw11 hc2 hHeld IB
        have HI := Lib.hid (IA.out.tx (y.tx ++ l))
        obtain ⟨f, hTR⟩ := IA.out.rz
        have i0 := IA.out.it.c0
        have i1 := IA.out.it.c1
        have i2 := IA.out.it.c2
        have i3 := IA.out.it.c3
        have i4 := IA.out.it.c4
        have i5 := IA.out.it.c5
        have i6 := IA.out.it.c6
        have i7 := IA.out.it.c7
        have i8 := IA.out.it.c8
        have r0 := hTR.cell (i := 0) (by omega)
        have g0 := hTR.fz 0
        have r1 := hTR.cell (i := 1) (by omega)
        have g1 := hTR.fz 1
        have r2 := hTR.cell (i := 2) (by omega)
        have g2 := hTR.fz 2
        have r3 := hTR.cell (i := 3) (by omega)
        have g3 := hTR.fz 3
        have r4 := hTR.cell (i := 4) (by omega)
        have g4 := hTR.fz 4
        have r5 := hTR.cell (i := 5) (by omega)
        have g5 := hTR.fz 5
        have r6 := hTR.cell (i := 6) (by omega)
        have g6 := hTR.fz 6
        have r7 := hTR.cell (i := 7) (by omega)
        have g7 := hTR.fz 7
        have r8 := hTR.cell (i := 8) (by omega)
        have g8 := hTR.fz 8
        have zq := IA.out.it.fz 8
        have HT := Lib.hid (hTR.other (H := Q) (by have := IA.out.q0; omega) 8 (.string (str (y.tx ++ l))))
        have HXX := Lib.hid (show ({ y with tx := y.tx ++ l } : It).tx.length ≤ 6 from by show (y.tx ++ l).length ≤ 6; rw [List.length_append]; have := HXY.out; omega)
        clear hTR
        have hRw : R < w11.heap.size := by have := HT.out.lt; simpa [World.setCell] using this
        have hQw : Q < w11.heap.size := IA.out.it.lt
        have hRQ : R < Q := IA.out.q0
        go_simp
        go_wp2_with fail
        exact ret_cell1 HRES.out Tryz.underlying30 rfl (by kernel_rfl) rfl rfl (hp_set9 HT.out { y with tx := y.tx ++ l }) ⟨⟨{ y with tx := y.tx ++ l }, rfl, HXX.out⟩, dr_set9 HI.out.dr (by rw [hR]; exact Nat.le_refl _) _ _ _ _ _ _ _ _ _, sr_set9 HI.out.sr hsR _ _ _ _ _ _ _ _ _⟩
    · have e0 : ((kk : Int) == 0) = false := by simp [hke]
      have e1 : ((kk : Int) == 1) = true := by simp [hke]
      clear hke
      go_wp2_with fail
      refine (pickN_any I9.out.sr [0, 8, 9] 2 3 (by omega) (by omega) (by simp)).mono ?_
      rintro e w10 ⟨q, rfl, hq, hcell, hd, hs10, hlt⟩
      have hqi : (q : Int) < 3 := by omega
      have hc := hcell q hq
      have IA := Lib.hid (I9.out.draw hd hs10)
      clear hd hs10 hcell I9
      generalize gi [0, 8, 9] q = v at *
      obtain ⟨f, hTR⟩ := IA.out.rz
      have i0 := IA.out.it.c0
      have i1 := IA.out.it.c1
      have i2 := IA.out.it.c2
      have i3 := IA.out.it.c3
      have i4 := IA.out.it.c4
      have i5 := IA.out.it.c5
      have i6 := IA.out.it.c6
      have i7 := IA.out.it.c7
      have i8 := IA.out.it.c8
      have r0 := hTR.cell (i := 0) (by omega)
      have g0 := hTR.fz 0
      have r1 := hTR.cell (i := 1) (by omega)
      have g1 := hTR.fz 1
      have r2 := hTR.cell (i := 2) (by omega)
      have g2 := hTR.fz 2
      have r3 := hTR.cell (i := 3) (by omega)
      have g3 := hTR.fz 3
      have r4 := hTR.cell (i := 4) (by omega)
      have g4 := hTR.fz 4
      have r5 := hTR.cell (i := 5) (by omega)
      have g5 := hTR.fz 5
      have r6 := hTR.cell (i := 6) (by omega)
      have g6 := hTR.fz 6
      have r7 := hTR.cell (i := 7) (by omega)
      have g7 := hTR.fz 7
      have r8 := hTR.cell (i := 8) (by omega)
      have g8 := hTR.fz 8
      have zq := IA.out.it.fz 3
      have HI := Lib.hid (IA.out.sc v)
      have HT := Lib.hid (hTR.other (H := Q) (by have := IA.out.q0; omega) 3 (.int .i64 v))
      have HXX := Lib.hid (show ({ y with sc := v } : It).tx.length ≤ 6 from Nat.le_succ_of_le HXY.out)
      clear hTR
      have hRw : R < w10.heap.size := by have := HT.out.lt; simpa [World.setCell] using this
      have hQw : Q < w10.heap.size := IA.out.it.lt
      have hRQ : R < Q := IA.out.q0
      go_wp2_with fail
      exact ret_cell1 HRES.out Tryz.underlying30 rfl (by kernel_rfl) rfl rfl (hp_set9 HT.out { y with sc := v }) ⟨⟨{ y with sc := v }, rfl, HXX.out⟩, dr_set9 HI.out.dr (by rw [hR]; exact Nat.le_refl _) _ _ _ _ _ _ _ _ _, sr_set9 HI.out.sr hsR _ _ _ _ _ _ _ _ _⟩
    · have e0 : ((kk : Int) == 0) = false := by simp [hke]
      have e1 : ((kk : Int) == 1) = false := by simp [hke]
      have e2 : ((kk : Int) == 2) = true := by simp [hke]
      clear hke
      go_wp2_with fail
      refine (pickN_any I9.out.sr [0, 4] 2 2 (by omega) (by omega) (by simp)).mono ?_
      rintro e w10 ⟨q, rfl, hq, hcell, hd, hs10, hlt⟩
      have hqi : (q : Int) < 2 := by omega
      have hc := hcell q hq
      have IA := Lib.hid (I9.out.draw hd hs10)
      clear hd hs10 hcell I9
      generalize gi [0, 4] q = v at *
      obtain ⟨f, hTR⟩ := IA.out.rz
      have i0 := IA.out.it.c0
      have i1 := IA.out.it.c1
      have i2 := IA.out.it.c2
      have i3 := IA.out.it.c3
      have i4 := IA.out.it.c4
      have i5 := IA.out.it.c5
      have i6 := IA.out.it.c6
      have i7 := IA.out.it.c7
      have i8 := IA.out.it.c8
      have r0 := hTR.cell (i := 0) (by omega)
      have g0 := hTR.fz 0
      have r1 := hTR.cell (i := 1) (by omega)
      have g1 := hTR.fz 1
      have r2 := hTR.cell (i := 2) (by omega)
      have g2 := hTR.fz 2
      have r3 := hTR.cell (i := 3) (by omega)
      have g3 := hTR.fz 3
      have r4 := hTR.cell (i := 4) (by omega)
      have g4 := hTR.fz 4
      have r5 := hTR.cell (i := 5) (by omega)
      have g5 := hTR.fz 5
      have r6 := hTR.cell (i := 6) (by omega)
      have g6 := hTR.fz 6
      have r7 := hTR.cell (i := 7) (by omega)
      have g7 := hTR.fz 7
      have r8 := hTR.cell (i := 8) (by omega)
      have g8 := hTR.fz 8
      have zq := IA.out.it.fz 0
      have HI := Lib.hid (IA.out.kd v)
      have HT := Lib.hid (hTR.other (H := Q) (by have := IA.out.q0; omega) 0 (.int .i64 v))
      have HXX := Lib.hid (show ({ y with kd := v } : It).tx.length ≤ 6 from Nat.le_succ_of_le HXY.out)
      clear hTR
      have hRw : R < w10.heap.size := by have := HT.out.lt; simpa [World.setCell] using this
      have hQw : Q < w10.heap.size := IA.out.it.lt
      have hRQ : R < Q := IA.out.q0
      go_wp2_with fail
      exact ret_cell1 HRES.out Tryz.underlying30 rfl (by kernel_rfl) rfl rfl (hp_set9 HT.out { y with kd := v }) ⟨⟨{ y with kd := v }, rfl, HXX.out⟩, dr_set9 HI.out.dr (by rw [hR]; exact Nat.le_refl _) _ _ _ _ _ _ _ _ _, sr_set9 HI.out.sr hsR _ _ _ _ _ _ _ _ _⟩
    · have e0 : ((kk : Int) == 0) = false := by simp [hke]
      have e1 : ((kk : Int) == 1) = false := by simp [hke]
      have e2 : ((kk : Int) == 2) = false := by simp [hke]
      have e3 : ((kk : Int) == 3) = true := by simp [hke]
      clear hke
      go_wp2_with fail
      refine (pickN_any I9.out.sr [1, 9, -1] 2 3 (by omega) (by omega) (by simp)).mono ?_
      rintro e w10 ⟨q, rfl, hq, hcell, hd, hs10, hlt⟩
      have hqi : (q : Int) < 3 := by omega
      have hc := hcell q hq
      have IA := Lib.hid (I9.out.draw hd hs10)
      clear hd hs10 hcell I9
      generalize gi [1, 9, -1] q = v at *
      obtain ⟨f, hTR⟩ := IA.out.rz
      have i0 := IA.out.it.c0
      have i1 := IA.out.it.c1
      have i2 := IA.out.it.c2
      have i3 := IA.out.it.c3
      have i4 := IA.out.it.c4
      have i5 := IA.out.it.c5
      have i6 := IA.out.it.c6
      have i7 := IA.out.it.c7
      have i8 := IA.out.it.c8
      have r0 := hTR.cell (i := 0) (by omega)
      have g0 := hTR.fz 0
      have r1 := hTR.cell (i := 1) (by omega)
      have g1 := hTR.fz 1
      have r2 := hTR.cell (i := 2) (by omega)
      have g2 := hTR.fz 2
      have r3 := hTR.cell (i := 3) (by omega)
      have g3 := hTR.fz 3
      have r4 := hTR.cell (i := 4) (by omega)
      have g4 := hTR.fz 4
      have r5 := hTR.cell (i := 5) (by omega)
      have g5 := hTR.fz 5
      have r6 := hTR.cell (i := 6) (by omega)
      have g6 := hTR.fz 6
      have r7 := hTR.cell (i := 7) (by omega)
      have g7 := hTR.fz 7
      have r8 := hTR.cell (i := 8) (by omega)
      have g8 := hTR.fz 8
      have zq := IA.out.it.fz 7
      have HI := Lib.hid (IA.out.lv v)
      have HT := Lib.hid (hTR.other (H := Q) (by have := IA.out.q0; omega) 7 (.int .i64 v))
      have HXX := Lib.hid (show ({ y with lv := v } : It).tx.length ≤ 6 from Nat.le_succ_of_le HXY.out)
      clear hTR
      have hRw : R < w10.heap.size := by have := HT.out.lt; simpa [World.setCell] using this
      have hQw : Q < w10.heap.size := IA.out.it.lt
      have hRQ : R < Q := IA.out.q0
      go_wp2_with fail
      exact ret_cell1 HRES.out Tryz.underlying30 rfl (by kernel_rfl) rfl rfl (hp_set9 HT.out { y with lv := v }) ⟨⟨{ y with lv := v }, rfl, HXX.out⟩, dr_set9 HI.out.dr (by rw [hR]; exact Nat.le_refl _) _ _ _ _ _ _ _ _ _, sr_set9 HI.out.sr hsR _ _ _ _ _ _ _ _ _⟩
    · have e0 : ((kk : Int) == 0) = false := by simp; omega
      have e1 : ((kk : Int) == 1) = false := by simp; omega
      have e2 : ((kk : Int) == 2) = false := by simp; omega
      have e3 : ((kk : Int) == 3) = false := by simp; omega
      clear hke
      obtain ⟨f, hTR⟩ := I9.out.rz
      have i0 := I9.out.it.c0
      have i1 := I9.out.it.c1
      have i2 := I9.out.it.c2
      have i3 := I9.out.it.c3
      have i4 := I9.out.it.c4
      have i5 := I9.out.it.c5
      have i6 := I9.out.it.c6
      have i7 := I9.out.it.c7
      have i8 := I9.out.it.c8
      have r0 := hTR.cell (i := 0) (by omega)
      have g0 := hTR.fz 0
      have r1 := hTR.cell (i := 1) (by omega)
      have g1 := hTR.fz 1
      have r2 := hTR.cell (i := 2) (by omega)
      have g2 := hTR.fz 2
      have r3 := hTR.cell (i := 3) (by omega)
      have g3 := hTR.fz 3
      have r4 := hTR.cell (i := 4) (by omega)
      have g4 := hTR.fz 4
      have r5 := hTR.cell (i := 5) (by omega)
      have g5 := hTR.fz 5
      have r6 := hTR.cell (i := 6) (by omega)
      have g6 := hTR.fz 6
      have r7 := hTR.cell (i := 7) (by omega)
      have g7 := hTR.fz 7
      have r8 := hTR.cell (i := 8) (by omega)
      have g8 := hTR.fz 8
      have HI := Lib.hid I9.out
      have HT := Lib.hid hTR
      have HXX := Lib.hid (show y.tx.length ≤ 6 from Nat.le_succ_of_le HXY.out)
      clear hTR
      have hRw : R < w9.heap.size := HT.out.lt
      have hQw : Q < w9.heap.size := I9.out.it.lt
      have hRQ : R < Q := I9.out.q0
      go_wp2_with fail
      exact ret_cell1 HRES.out Tryz.underlying30 rfl (by kernel_rfl) rfl rfl (hp_set9 HT.out y) ⟨⟨y, rfl, HXX.out⟩, dr_set9 HI.out.dr (by rw [hR]; exact Nat.le_refl _) _ _ _ _ _ _ _ _ _, sr_set9 HI.out.sr hsR _ _ _ _ _ _ _ _ _⟩
  · have e1 : (kd == 1) = false := by simp [hk]
    have e2 : (kd == 2) = false := by simp [hk]
    clear hk
    have i0 := I6.out.it.c0
    rw [hxk] at i0
    go_wp2_with fail
    refine (pickV_any I6.out.sr nm4 9 4 (by omega) (by omega)).mono ?_
    rintro e w7 ⟨k4, rfl, hk4, hcell, hd, hs7, hlt⟩
    obtain ⟨l, hlv⟩ := nm4_at hk4
    have hc := (hcell k4).trans hlv
    have hk4i : (k4 : Int) < 4 := by omega
    have I7 := Lib.hid (I6.out.draw hd hs7)
    clear hd hs7 hcell hlv I6
    have z6 := I7.out.it.fz 6
    have i6 := I7.out.it.c6
    have I8 := Lib.hid (I7.out.nm l)
    go_wp2_with fail
    obtain ⟨w8, hw8⟩ : ∃ w8, w7.setCell ⟨Q, 6, none⟩ (.string (str l)) = w8 := ⟨_, rfl⟩
    rw [hw8] at I8
    rw [hw8]
    clear hw8 I7 hc i6 z6 i0
    obtain ⟨y2, hy2⟩ : ∃ y : It, { x with nm := l } = y := ⟨_, rfl⟩
    rw [hy2] at I8
    clear hy2
    refine (next_any I8.out.sr 2 (by omega) (by omega)).mono ?_
    rintro e wA ⟨k5, rfl, hk5, hd, hsA⟩
    have IA := Lib.hid (I8.out.draw hd hsA)
    clear hd hsA I8
    go_wp2_with fail
    refine (l09DrawText_any IA.out.sr (m := 1 + (k5 : Int)) (by omega)).mono ?_
    rintro e wB ⟨⟨tt, rfl, htt⟩, hd, hsB⟩
    have IB := Lib.hid (IA.out.draw hd hsB)
    clear hd hsB IA
    have z8 := IB.out.it.fz 8
    have i8 := IB.out.it.c8
    have IC := Lib.hid (IB.out.tx tt)
    have HLL := Lib.hid htt
    go_wp2_with fail
    obtain ⟨wC, hwC⟩ : ∃ wC, wB.setCell ⟨Q, 8, none⟩ (.string (str tt)) = wC := ⟨_, rfl⟩
    rw [hwC] at IC
    rw [hwC]
    clear hwC IB i8 z8
    obtain ⟨y, hy⟩ : ∃ y : It, { y2 with tx := tt } = y := ⟨_, rfl⟩
    rw [hy] at IC
    have HXY := Lib.hid (show y.tx.length ≤ 5 from by rw [← hy]; exact HLL.out)
    clear hy
    refine (next_any IC.out.sr 30 (by omega) (by omega)).mono ?_
    rintro e w9 ⟨kk, rfl, hkk, hd, hs9⟩
    have I9 := Lib.hid (IC.out.draw hd hs9)
    clear hd hs9 IC
    have z8 := I9.out.it.fz 8
    have y8 := I9.out.it.c8
    rcases (show kk = 0 ∨ kk = 1 ∨ kk = 2 ∨ kk = 3 ∨ 4 ≤ kk by omega) with hke | hke | hke | hke | hke
    · have e0 : ((kk : Int) == 0) = true := by simp [hke]
      clear hke
      go_wp2_with fail
      have hQs : Q ≠ s := by have := I9.out.s0; have := I9.out.r0; have := I9.out.q0; omega
      have ID := Lib.hid (show DI w w9.drew s R Q y from I9.out.below (Below.refl _ _).drew)
      have hszD : w9.drew.heap.size = w9.heap.size := rfl
      clear I9
      refine wp_region_last (S := (fun w' => w'.cell? ⟨Q, 8, none⟩ = some (.string (str y.tx)))) 9 (by kernel_rfl) rfl (by kernel_rfl) ?_ (fun hHeld => ?_)
      · first | (exact ID.out.it.c8) | ((try dsimp only); exact ID.out.it.c8)
      simp only [List.take_succ_cons, List.take_zero]
      refine wpAnyH_take (i := 0) (oi := _) (v := ?_) rfl (by kernel_rfl) (by kernel_rfl) (by kernel_rfl) (fun _ _ _ h => h) (Or.inl ⟨by kernel_rfl, ?_⟩) hHeld ?_
      rotate_left
      · intro w0 hSw; (try dsimp only at hSw); go_simp; (try with_reducible rfl)
      (try dsimp only [Act.put, List.setIfInBounds_toArray, List.set_cons_zero, List.set_cons_succ])
      refine wpAnyH_take (i := 1) (oi := _) (v := ?_) rfl (by kernel_rfl) (by kernel_rfl) (by kernel_rfl) (fun _ _ _ h => h) (Or.inl ⟨by kernel_rfl, ?_⟩) hHeld ?_
      rotate_left
      · intro w0 hSw; (try dsimp only at hSw); go_simp; (try with_reducible rfl)
      (try dsimp only [Act.put, List.setIfInBounds_toArray, List.set_cons_zero, List.set_cons_succ])
      refine wpAnyH_take (i := 3) (oi := _) (v := ?_) rfl (by kernel_rfl) (by kernel_rfl) (by kernel_rfl) (fun _ _ _ h => h) (Or.inl ⟨by kernel_rfl, ?_⟩) hHeld ?_
      rotate_left
      · intro w0 hSw; (try dsimp only at hSw); go_simp; (try with_reducible rfl)
      (try dsimp only [Act.put, List.setIfInBounds_toArray, List.set_cons_zero, List.set_cons_succ])
      refine wpAnyH_ready (rs := [2, 4]) (by kernel_rfl) (by simp) ?_
      refine AllReadyH.cons (o := _) rfl (fun K hK => ?_) (AllReadyH.cons (o := _) rfl (fun K hK => ?_) AllReadyH.nil)
      · go_simp
        refine hK.out _ _ ?_ (fun hHeld => ?_)
        · first | (exact keep_cell (below1 _ _) hHeld) | ((try dsimp only); exact keep_cell (below1 _ _) hHeld)
        clear hK K
        (try dsimp only [Act.put, List.setIfInBounds_toArray, List.set_cons_zero, List.set_cons_succ])
        refine wpAnyH_ready (rs := [4]) (by kernel_rfl) (by simp) ?_
        refine AllReadyH.cons (o := _) rfl (fun K hK => ?_) AllReadyH.nil
        go_simp
        refine (pickV_any ID.out.sr tx3 9 3 (by omega) (by omega)).mono ?_
        rintro e w10 ⟨q, rfl, hq, hcell, hd, hs10, hlt⟩
        obtain ⟨l, hlv, hll⟩ := tx3_at hq
        have hc : w10.cell? ⟨w9.heap.size, q, none⟩ = some (.string (str l)) := (hcell q).trans hlv
        have hqi : (q : Int) < 3 := by omega
        have hadd : str y.tx ++ str l = str (y.tx ++ l) := str_add _ _
        have hcat : ¬ 9223372036854775807 < (str y.tx).size + (str l).size := by rw [str_size, str_size]; have := HXY.out; omega
        have IA := Lib.hid (ID.out.draw hd hs10)
        go_simp
        refine hK.out _ _ ?_ (fun hHeld => ?_)
        · first | (exact IA.out.it.c8) | ((try dsimp only); exact IA.out.it.c8)
        clear hK K
        (try dsimp only [Act.put, List.setIfInBounds_toArray, List.set_cons_zero, List.set_cons_succ])
        refine wpAnyH_take (i := 5) (oi := _) (v := ?_) rfl (by kernel_rfl) (by kernel_rfl) (by kernel_rfl) (fun _ _ _ h => h) (Or.inl ⟨by kernel_rfl, ?_⟩) hHeld ?_
        rotate_left
        · intro w0 hSw; (try dsimp only at hSw); go_simp; (try with_reducible rfl)
        (try dsimp only [Act.put, List.setIfInBounds_toArray, List.set_cons_zero, List.set_cons_succ])
        refine wpAnyH_ready (rs := [6]) (by kernel_rfl) (by simp) ?_
        refine AllReadyH.cons (o := _) rfl (fun K hK => ?_) AllReadyH.nil
        go_simp
        refine hK.out _ _ ?_ (fun hHeld => ?_)
        · first | (exact hHeld) | ((try dsimp only); exact hHeld)
        clear hK K
        (try dsimp only [Act.put, List.setIfInBounds_toArray, List.set_cons_zero, List.set_cons_succ])
        refine wpAnyH_take (i := 7) (oi := _) (v := ?_) rfl (by kernel_rfl) (by kernel_rfl) (by kernel_rfl) (fun _ _ _ h => h) (Or.inl ⟨by kernel_rfl, ?_⟩) hHeld ?_
        rotate_left
        · intro w0 hSw; (try dsimp only at hSw); go_simp; (try with_reducible rfl)
        (try dsimp only [Act.put, List.setIfInBounds_toArray, List.set_cons_zero, List.set_cons_succ])
        refine wpAnyH_take (i := 8) (oi := _) (v := ?_) rfl (by kernel_rfl) (by kernel_rfl) (by kernel_rfl) (fun _ _ _ h => h) (Or.inl ⟨by kernel_rfl, ?_⟩) hHeld ?_
        rotate_left
        · intro w0 hSw; (try dsimp only at hSw); go_simp; (try with_reducible rfl)
        (try dsimp only [Act.put, List.setIfInBounds_toArray, List.set_cons_zero, List.set_cons_succ])
        refine wpAnyH_done (by kernel_rfl) (lastQ_normal ?_) _
        have HI := Lib.hid (IA.out.tx (y.tx ++ l))
        obtain ⟨f, hTR⟩ := IA.out.rz
        have i0 := IA.out.it.c0
        have i1 := IA.out.it.c1
        have i2 := IA.out.it.c2
        have i3 := IA.out.it.c3
        have i4 := IA.out.it.c4
        have i5 := IA.out.it.c5
        have i6 := IA.out.it.c6
        have i7 := IA.out.it.c7
        have i8 := IA.out.it.c8
        have r0 := hTR.cell (i := 0) (by omega)
        have g0 := hTR.fz 0
        have r1 := hTR.cell (i := 1) (by omega)
        have g1 := hTR.fz 1
        have r2 := hTR.cell (i := 2) (by omega)
        have g2 := hTR.fz 2
        have r3 := hTR.cell (i := 3) (by omega)
        have g3 := hTR.fz 3
        have r4 := hTR.cell (i := 4) (by omega)
        have g4 := hTR.fz 4
        have r5 := hTR.cell (i := 5) (by omega)
        have g5 := hTR.fz 5
        have r6 := hTR.cell (i := 6) (by omega)
        have g6 := hTR.fz 6
        have r7 := hTR.cell (i := 7) (by omega)
        have g7 := hTR.fz 7
        have r8 := hTR.cell (i := 8) (by omega)
        have g8 := hTR.fz 8
        have zq := IA.out.it.fz 8
        have HT := Lib.hid (hTR.other (H := Q) (by have := IA.out.q0; omega) 8 (.string (str (y.tx ++ l))))
        have HXX := Lib.hid (show ({ y with tx := y.tx ++ l } : It).tx.length ≤ 6 from by show (y.tx ++ l).length ≤ 6; rw [List.length_append]; have := HXY.out; omega)
        clear hTR
        have hRw : R < w10.heap.size := by have := HT.out.lt; simpa [World.setCell] using this
        have hQw : Q < w10.heap.size := IA.out.it.lt
        have hRQ : R < Q := IA.out.q0
        go_simp
        go_wp2_with fail
        exact ret_cell1 HRES.out Tryz.underlying30 rfl (by kernel_rfl) rfl rfl (hp_set9 HT.out { y with tx := y.tx ++ l }) ⟨⟨{ y with tx := y.tx ++ l }, rfl, HXX.out⟩, dr_set9 HI.out.dr (by rw [hR]; exact Nat.le_refl _) _ _ _ _ _ _ _ _ _, sr_set9 HI.out.sr hsR _ _ _ _ _ _ _ _ _⟩
      · go_simp
        refine (next_any ID.out.sr 3 (by omega) (by omega)).mono ?_
        rintro e w10 ⟨q, rfl, hq, hd, hs10⟩
        obtain ⟨l, hlv, hll⟩ := tx3_at hq
        have hqi : (q : Int) < 3 := by omega
        have hadd : str y.tx ++ str l = str (y.tx ++ l) := str_add _ _
        have hcat : ¬ 9223372036854775807 < (str y.tx).size + (str l).size := by rw [str_size, str_size]; have := HXY.out; omega
        have IB := Lib.hid (ID.out.draw hd hs10)
        go_simp
        refine hK.out _ _ ?_ (fun hHeld => ?_)
        · first | (exact IB.out.it.c8) | ((try dsimp only); exact IB.out.it.c8)
        clear hK K
        (try dsimp only [Act.put, List.setIfInBounds_toArray, List.set_cons_zero, List.set_cons_succ])
        refine wpAnyH_ready (rs := [2]) (by kernel_rfl) (by simp) ?_
        refine AllReadyH.cons (o := _) rfl (fun K hK => ?_) AllReadyH.nil
        go_simp
        have hc2 : (w10.alloc (.cells #[.string { data := #[98] }, .string { data := #[126] }, .string { data := #[10] }] 9)).cell? ⟨w10.heap.size, q, none⟩ = some (.string (str l)) := by (unfold World.cell?; rw [heap_new]; exact hlv)
        refine hK.out _ _ ?_ (fun hHeld => ?_)
        · first | (exact keep_cell (below1 _ _) hHeld) | ((try dsimp only); exact keep_cell (below1 _ _) hHeld)
        clear hK K
        (try dsimp only [Act.put, List.setIfInBounds_toArray, List.set_cons_zero, List.set_cons_succ])
        refine wpAnyH_take (i := 5) (oi := _) (v := ?_) rfl (by kernel_rfl) (by kernel_rfl) (by kernel_rfl) (fun _ _ _ h => h) (Or.inl ⟨by kernel_rfl, ?_⟩) hHeld ?_
        rotate_left
        · intro w0 hSw; (try dsimp only at hSw); go_simp; (try with_reducible rfl)
        (try dsimp only [Act.put, List.setIfInBounds_toArray, List.set_cons_zero, List.set_cons_succ])
        refine wpAnyH_ready (rs := [6]) (by kernel_rfl) (by simp) ?_
        refine AllReadyH.cons (o := _) rfl (fun K hK => ?_) AllReadyH.nil
        go_simp
        refine hK.out _ _ ?_ (fun hHeld => ?_)
        · first | (exact hHeld) | ((try dsimp only); exact hHeld)
        clear hK K
        (try dsimp only [Act.put, List.setIfInBounds_toArray, List.set_cons_zero, List.set_cons_succ])
        refine wpAnyH_take (i := 7) (oi := _) (v := ?_) rfl (by kernel_rfl) (by kernel_rfl) (by kernel_rfl) (fun _ _ _ h => h) (Or.inl ⟨by kernel_rfl, ?_⟩) hHeld ?_
        rotate_left
        · intro w0 hSw; (try dsimp only at hSw); go_simp; (try with_reducible rfl)
        (try dsimp only [Act.put, List.setIfInBounds_toArray, List.set_cons_zero, List.set_cons_succ])
        refine wpAnyH_take (i := 8) (oi := _) (v := ?_) rfl (by kernel_rfl) (by kernel_rfl) (by kernel_rfl) (fun _ _ _ h => h) (Or.inl ⟨by kernel_rfl, ?_⟩) hHeld ?_
        rotate_left
        · intro w0 hSw; (try dsimp only at hSw); go_simp; (try with_reducible rfl)
        (try dsimp only [Act.put, List.setIfInBounds_toArray, List.set_cons_zero, List.set_cons_succ])
        refine wpAnyH_done (by kernel_rfl) (lastQ_normal ?_) _
        obtain ⟨w11, hw11⟩ : ∃ w11, w10.alloc (.cells #[.string { data := #[98] }, .string { data := #[126] }, .string { data := #[10] }] 9) = w11 := ⟨_, rfl⟩
        have IA := Lib.hid (show DI w w11 s R Q y from by rw [← hw11]; exact IB.out.below (below1 _ _))
        rw [hw11]
        clear hw11 hc2 hHeld IB
        have HI := Lib.hid (IA.out.tx (y.tx ++ l))
        obtain ⟨f, hTR⟩ := IA.out.rz
        have i0 := IA.out.it.c0
        have i1 := IA.out.it.c1
        have i2 := IA.out.it.c2
        have i3 := IA.out.it.c3
        have i4 := IA.out.it.c4
        have i5 := IA.out.it.c5
        have i6 := IA.out.it.c6
        have i7 := IA.out.it.c7
        have i8 := IA.out.it.c8
        have r0 := hTR.cell (i := 0) (by omega)
        have g0 := hTR.fz 0
        have r1 := hTR.cell (i := 1) (by omega)
        have g1 := hTR.fz 1
        have r2 := hTR.cell (i := 2) (by omega)
        have g2 := hTR.fz 2
        have r3 := hTR.cell (i := 3) (by omega)
        have g3 := hTR.fz 3
        have r4 := hTR.cell (i := 4) (by omega)
        have g4 := hTR.fz 4
        have r5 := hTR.cell (i := 5) (by omega)
        have g5 := hTR.fz 5
        have r6 := hTR.cell (i := 6) (by omega)
        have g6 := hTR.fz 6
        have r7 := hTR.cell (i := 7) (by omega)
        have g7 := hTR.fz 7
        have r8 := hTR.cell (i := 8) (by omega)
        have g8 := hTR.fz 8
        have zq := IA.out.it.fz 8
        have HT := Lib.hid (hTR.other (H := Q) (by have := IA.out.q0; omega) 8 (.string (str (y.tx ++ l))))
        have HXX := Lib.hid (show ({ y with tx := y.tx ++ l } : It).tx.length ≤ 6 from by show (y.tx ++ l).length ≤ 6; rw [List.length_append]; have := HXY.out; omega)
        clear hTR
        have hRw : R < w11.heap.size := by have := HT.out.lt; simpa [World.setCell] using this
        have hQw : Q < w11.heap.size := IA.out.it.lt
        have hRQ : R < Q := IA.out.q0
        go_simp
        go_wp2_with fail
        exact ret_cell1 HRES.out Tryz.underlying30 rfl (by kernel_rfl) rfl rfl (hp_set9 HT.out { y with tx := y.tx ++ l }) ⟨⟨{ y with tx := y.tx ++ l }, rfl, HXX.out⟩, dr_set9 HI.out.dr (by rw [hR]; exact Nat.le_refl _) _ _ _ _ _ _ _ _ _, sr_set9 HI.out.sr hsR _ _ _ _ _ _ _ _ _⟩
    · have e0 : ((kk : Int) == 0) = false := by simp [hke]
      have e1 : ((kk : Int) == 1) = true := by simp [hke]
      clear hke
      go_wp2_with fail
      refine (pickN_any I9.out.sr [0, 8, 9] 2 3 (by omega) (by omega) (by simp)).mono ?_
      rintro e w10 ⟨q, rfl, hq, hcell, hd, hs10, hlt⟩
      have hqi : (q : Int) < 3 := by omega
      have hc := hcell q hq
      have IA := Lib.hid (I9.out.draw hd hs10)
      clear hd hs10 hcell I9
      generalize gi [0, 8, 9] q = v at *
      obtain ⟨f, hTR⟩ := IA.out.rz
      have i0 := IA.out.it.c0
      have i1 := IA.out.it.c1
      have i2 := IA.out.it.c2
      have i3 := IA.out.it.c3
      have i4 := IA.out.it.c4
      have i5 := IA.out.it.c5
      have i6 := IA.out.it.c6
      have i7 := IA.out.it.c7
      have i8 := IA.out.it.c8
      have r0 := hTR.cell (i := 0) (by omega)
      have g0 := hTR.fz 0
      have r1 := hTR.cell (i := 1) (by omega)
      have g1 := hTR.fz 1
      have r2 := hTR.cell (i := 2) (by omega)
      have g2 := hTR.fz 2
      have r3 := hTR.cell (i := 3) (by omega)
      have g3 := hTR.fz 3
      have r4 := hTR.cell (i := 4) (by omega)
      have g4 := hTR.fz 4
      have r5 := hTR.cell (i := 5) (by omega)
      have g5 := hTR.fz 5
      have r6 := hTR.cell (i := 6) (by omega)
      have g6 := hTR.fz 6
      have r7 := hTR.cell (i := 7) (by omega)
      have g7 := hTR.fz 7
      have r8 := hTR.cell (i := 8) (by omega)
      have g8 := hTR.fz 8
      have zq := IA.out.it.fz 3
      have HI := Lib.hid (IA.out.sc v)
      have HT := Lib.hid (hTR.other (H := Q) (by have := IA.out.q0; omega) 3 (.int .i64 v))
      have HXX := Lib.hid (show ({ y with sc := v } : It).tx.length ≤ 6 from Nat.le_succ_of_le HXY.out)
      clear hTR
      have hRw : R < w10.heap.size := by have := HT.out.lt; simpa [World.setCell] using this
      have hQw : Q < w10.heap.size := IA.out.it.lt
      have hRQ : R < Q := IA.out.q0
      go_wp2_with fail
      exact ret_cell1 HRES.out Tryz.underlying30 rfl (by kernel_rfl) rfl rfl (hp_set9 HT.out { y with sc := v }) ⟨⟨{ y with sc := v }, rfl, HXX.out⟩, dr_set9 HI.out.dr (by rw [hR]; exact Nat.le_refl _) _ _ _ _ _ _ _ _ _, sr_set9 HI.out.sr hsR _ _ _ _ _ _ _ _ _⟩
    · have e0 : ((kk : Int) == 0) = false := by simp [hke]
      have e1 : ((kk : Int) == 1) = false := by simp [hke]
      have e2 : ((kk : Int) == 2) = true := by simp [hke]
      clear hke
      go_wp2_with fail
      refine (pickN_any I9.out.sr [0, 4] 2 2 (by omega) (by omega) (by simp)).mono ?_
      rintro e w10 ⟨q, rfl, hq, hcell, hd, hs10, hlt⟩
      have hqi : (q : Int) < 2 := by omega
      have hc := hcell q hq
      have IA := Lib.hid (I9.out.draw hd hs10)
      clear hd hs10 hcell I9
      generalize gi [0, 4] q = v at *
      obtain ⟨f, hTR⟩ := IA.out.rz
      have i0 := IA.out.it.c0
      have i1 := IA.out.it.c1
      have i2 := IA.out.it.c2
      have i3 := IA.out.it.c3
      have i4 := IA.out.it.c4
      have i5 := IA.out.it.c5
      have i6 := IA.out.it.c6
      have i7 := IA.out.it.c7
      have i8 := IA.out.it.c8
      have r0 := hTR.cell (i := 0) (by omega)
      have g0 := hTR.fz 0
      have r1 := hTR.cell (i := 1) (by omega)
      have g1 := hTR.fz 1
      have r2 := hTR.cell (i := 2) (by omega)
      have g2 := hTR.fz 2
      have r3 := hTR.cell (i := 3) (by omega)
      have g3 := hTR.fz 3
      have r4 := hTR.cell (i := 4) (by omega)
      have g4 := hTR.fz 4
      have r5 := hTR.cell (i := 5) (by omega)
      have g5 := hTR.fz 5
      have r6 := hTR.cell (i := 6) (by omega)
      have g6 := hTR.fz 6
      have r7 := hTR.cell (i := 7) (by omega)
      have g7 := hTR.fz 7
      have r8 := hTR.cell (i := 8) (by omega)
      have g8 := hTR.fz 8
      have zq := IA.out.it.fz 0
      have HI := Lib.hid (IA.out.kd v)
      have HT := Lib.hid (hTR.other (H := Q) (by have := IA.out.q0; omega) 0 (.int .i64 v))
      have HXX := Lib.hid (show ({ y with kd := v } : It).tx.length ≤ 6 from Nat.le_succ_of_le HXY.out)
      clear hTR
      have hRw : R < w10.heap.size := by have := HT.out.lt; simpa [World.setCell] using this
      have hQw : Q < w10.heap.size := IA.out.it.lt
      have hRQ : R < Q := IA.out.q0
      go_wp2_with fail
      exact ret_cell1 HRES.out Tryz.underlying30 rfl (by kernel_rfl) rfl rfl (hp_set9 HT.out { y with kd := v }) ⟨⟨{ y with kd := v }, rfl, HXX.out⟩, dr_set9 HI.out.dr (by rw [hR]; exact Nat.le_refl _) _ _ _ _ _ _ _ _ _, sr_set9 HI.out.sr hsR _ _ _ _ _ _ _ _ _⟩
    · have e0 : ((kk : Int) == 0) = false := by simp [hke]
      have e1 : ((kk : Int) == 1) = false := by simp [hke]
      have e2 : ((kk : Int) == 2) = false := by simp [hke]
      have e3 : ((kk : Int) == 3) = true := by simp [hke]
      clear hke
      go_wp2_with fail
      refine (pickN_any I9.out.sr [1, 9, -1] 2 3 (by omega) (by omega) (by simp)).mono ?_
      rintro e w10 ⟨q, rfl, hq, hcell, hd, hs10, hlt⟩
      have hqi : (q : Int) < 3 := by omega
      have hc := hcell q hq
      have IA := Lib.hid (I9.out.draw hd hs10)
      clear hd hs10 hcell I9
      generalize gi [1, 9, -1] q = v at *
      obtain ⟨f, hTR⟩ := IA.out.rz
      have i0 := IA.out.it.c0
      have i1 := IA.out.it.c1
      have i2 := IA.out.it.c2
      have i3 := IA.out.it.c3
      have i4 := IA.out.it.c4
      have i5 := IA.out.it.c5
      have i6 := IA.out.it.c6
      have i7 := IA.out.it.c7
      have i8 := IA.out.it.c8
      have r0 := hTR.cell (i := 0) (by omega)
      have g0 := hTR.fz 0
      have r1 := hTR.cell (i := 1) (by omega)
      have g1 := hTR.fz 1
      have r2 := hTR.cell (i := 2) (by omega)
      have g2 := hTR.fz 2
      have r3 := hTR.cell (i := 3) (by omega)
      have g3 := hTR.fz 3
      have r4 := hTR.cell (i := 4) (by omega)
      have g4 := hTR.fz 4
      have r5 := hTR.cell (i := 5) (by omega)
      have g5 := hTR.fz 5
      have r6 := hTR.cell (i := 6) (by omega)
      have g6 := hTR.fz 6
      have r7 := hTR.cell (i := 7) (by omega)
      have g7 := hTR.fz 7
      have r8 := hTR.cell (i := 8) (by omega)
      have g8 := hTR.fz 8
      have zq := IA.out.it.fz 7
      have HI := Lib.hid (IA.out.lv v)
      have HT := Lib.hid (hTR.other (H := Q) (by have := IA.out.q0; omega) 7 (.int .i64 v))
      have HXX := Lib.hid (show ({ y with lv := v } : It).tx.length ≤ 6 from Nat.le_succ_of_le HXY.out)
      clear hTR
      have hRw : R < w10.heap.size := by have := HT.out.lt; simpa [World.setCell] using this
      have hQw : Q < w10.heap.size := IA.out.it.lt
      have hRQ : R < Q := IA.out.q0
      go_wp2_with fail
      exact ret_cell1 HRES.out Tryz.underlying30 rfl (by kernel_rfl) rfl rfl (hp_set9 HT.out { y with lv := v }) ⟨⟨{ y with lv := v }, rfl, HXX.out⟩, dr_set9 HI.out.dr (by rw [hR]; exact Nat.le_refl _) _ _ _ _ _ _ _ _ _, sr_set9 HI.out.sr hsR _ _ _ _ _ _ _ _ _⟩
    · have e0 : ((kk : Int) == 0) = false := by simp; omega
      have e1 : ((kk : Int) == 1) = false := by simp; omega
      have e2 : ((kk : Int) == 2) = false := by simp; omega
      have e3 : ((kk : Int) == 3) = false := by simp; omega
      clear hke
      obtain ⟨f, hTR⟩ := I9.out.rz
      have i0 := I9.out.it.c0
      have i1 := I9.out.it.c1
      have i2 := I9.out.it.c2
      have i3 := I9.out.it.c3
      have i4 := I9.out.it.c4
      have i5 := I9.out.it.c5
      have i6 := I9.out.it.c6
      have i7 := I9.out.it.c7
      have i8 := I9.out.it.c8
      have r0 := hTR.cell (i := 0) (by omega)
      have g0 := hTR.fz 0
      have r1 := hTR.cell (i := 1) (by omega)
      have g1 := hTR.fz 1
      have r2 := hTR.cell (i := 2) (by omega)
      have g2 := hTR.fz 2
      have r3 := hTR.cell (i := 3) (by omega)
      have g3 := hTR.fz 3
      have r4 := hTR.cell (i := 4) (by omega)
      have g4 := hTR.fz 4
      have r5 := hTR.cell (i := 5) (by omega)
      have g5 := hTR.fz 5
      have r6 := hTR.cell (i := 6) (by omega)
      have g6 := hTR.fz 6
      have r7 := hTR.cell (i := 7) (by omega)
      have g7 := hTR.fz 7
      have r8 := hTR.cell (i := 8) (by omega)
      have g8 := hTR.fz 8
      have HI := Lib.hid I9.out
      have HT := Lib.hid hTR
      have HXX := Lib.hid (show y.tx.length ≤ 6 from Nat.le_succ_of_le HXY.out)
      clear hTR
      have hRw : R < w9.heap.size := HT.out.lt
      have hQw : Q < w9.heap.size := I9.out.it.lt
      have hRQ : R < Q := I9.out.q0
      go_wp2_with fail
      exact ret_cell1 HRES.out Tryz.underlying30 rfl (by kernel_rfl) rfl rfl (hp_set9 HT.out y) ⟨⟨y, rfl, HXX.out⟩, dr_set9 HI.out.dr (by rw [hR]; exact Nat.le_refl _) _ _ _ _ _ _ _ _ _, sr_set9 HI.out.sr hsR _ _ _ _ _ _ _ _ _⟩
end Go.Proofs.YtdcmebegnekkcaaGreat
/-
  The walk of the law FnGlyphs.
-/
namespace Go.Proofs.YtdcmebegnekkcaaGreat
open Go.RowKit
set_option linter.unusedVariables false

theorem gly_bd {b : Int} {k : Nat} (h : k < (glyL b).length) : 0 ≤ gi (glyL b) k ∧ gi (glyL b) k ≤ 7 := by
  have hall : ∀ x ∈ glyL b, 0 ≤ x ∧ x ≤ 7 := by
    unfold glyL
    split
    · decide
    · split
      · rename_i h32 hg
        intro x hx
        unfold rowG at hx
        obtain ⟨j, hj, rfl⟩ := List.mem_map.1 hx
        have hj5 := List.mem_range.1 hj
        refine glyF_bd ?_
        unfold hasG at hg
        simp only [Bool.or_eq_true, decide_eq_true_eq] at hg
        unfold glyA
        rcases hg with h1 | h1 | h1
        · exact absurd h1 h32
        · have := inR_iff.1 h1
          rw [if_pos this.2]; omega
        · have := inR_iff.1 h1
          rw [if_neg (by omega)]; omega
      · intro x hx; cases hx
  have e : gi (glyL b) k = (glyL b)[k] := by unfold gi; rw [List.getD_eq_getElem?_getD, List.getElem?_eq_getElem h]; rfl
  rw [e]
  exact hall _ (List.getElem_mem h)
theorem gly_len (b : Int) : (hasG b = true → (glyL b).length = 5) ∧ (hasG b = false → (glyL b).length = 0) := by
  refine ⟨fun h => ?_, fun h => by rw [glyL_no h]; rfl⟩
  rw [glyL_of h]
  obtain ⟨a0, a1, a2, a3, a4, h5⟩ := gl5_five b
  rw [h5]; rfl
theorem below_set9 {M R : Nat} {w0 w : World} (h : Below M w0 w) (hB : M ≤ R) (v0 v1 v2 v3 v4 v5 v6 v7 v8 : Value) : Below M w0 (set9 w R v0 v1 v2 v3 v4 v5 v6 v7 v8) :=
  ((((((((h.setCell (p := ⟨R, 0, none⟩) hB v0).setCell (p := ⟨R, 1, none⟩) hB v1).setCell (p := ⟨R, 2, none⟩) hB v2).setCell (p := ⟨R, 3, none⟩) hB v3).setCell (p := ⟨R, 4, none⟩) hB v4).setCell (p := ⟨R, 5, none⟩) hB v5).setCell (p := ⟨R, 6, none⟩) hB v6).setCell (p := ⟨R, 7, none⟩) hB v7).setCell (p := ⟨R, 8, none⟩) hB v8
set_option maxHeartbeats 4000000 in
theorem drawItemBox_any {w : World} {c : Option Addr} {n cap : Nat} {bs : List Int} (hr : RowB w c n bs) :
    Calls Tryz.prog 12 #[.slice c n cap] w fun e w' => (∃ x, e = .returned (itV x) ∧ x.tx.length ≤ 6) ∧ Below w.heap.size w w' := by
  have HRES := Lib.hid (show Tryz.f12.results = #[.cell 2 ITy] by kernel_rfl)
  go_enter Tryz.func12, Tryz.ntmps12
  obtain ⟨R, hR⟩ : ∃ R, w.heap.size = R := ⟨_, rfl⟩
  have T0 := Lib.hid (Tf.mkd w itZ9 ITy)
  have B0 := Lib.hid (below1 w (.cells itZ9 ITy))
  have HRW := Lib.hid (hr.below' (below1 w (.cells itZ9 ITy)))
  rw [hR] at T0 B0
  go_wp2_with fail
  refine (l01From_any HRW.out).mono ?_
  rintro e w1 ⟨s, rfl, hs0, hb1, hs1⟩
  have T1 := Lib.hid (T0.out.below hb1 (by simp [hR]))
  have hsz : R ≤ (w.alloc (.cells itZ9 ITy)).heap.size := by simp [← hR]
  have B1 := Lib.hid (B0.out.trans (hb1.mono hsz))
  have S1 := Lib.hid hs1
  have hsR : R < s := by have : (w.alloc (.cells itZ9 ITy)).heap.size = R + 1 := by simp [hR]
                         omega
  clear hb1 hs1 hs0 T0 B0 hr HRW hsz
  go_wp2_with fail
  refine (l29DrawItem_any S1.out).mono ?_
  rintro e w2 ⟨⟨x, rfl, hxt⟩, hd, hs2⟩
  have T2 := Lib.hid (T1.out.dr hd (by omega))
  have B2 := Lib.hid (B1.out.trans (hd.below (Nat.le_of_lt hsR) (by have := B1.out.size; omega)))
  have HX := Lib.hid hxt
  clear hd hs2 T1 B1 S1 hxt
  rw [show itV x = .agg #[.int .i64 x.kd, .int .i64 x.rw, .int .i64 x.cl, .int .i64 x.sc, .int .i64 x.tl, .int .i64 x.wd, .string (str x.nm), .int .i64 x.lv, .string (str x.tx)] from rfl]
  have r0 := T2.out.cell (i := 0) (by decide)
  have g0 := T2.out.fz 0
  have r1 := T2.out.cell (i := 1) (by decide)
  have g1 := T2.out.fz 1
  have r2 := T2.out.cell (i := 2) (by decide)
  have g2 := T2.out.fz 2
  have r3 := T2.out.cell (i := 3) (by decide)
  have g3 := T2.out.fz 3
  have r4 := T2.out.cell (i := 4) (by decide)
  have g4 := T2.out.fz 4
  have r5 := T2.out.cell (i := 5) (by decide)
  have g5 := T2.out.fz 5
  have r6 := T2.out.cell (i := 6) (by decide)
  have g6 := T2.out.fz 6
  have r7 := T2.out.cell (i := 7) (by decide)
  have g7 := T2.out.fz 7
  have r8 := T2.out.cell (i := 8) (by decide)
  have g8 := T2.out.fz 8
  have hRl : R < w2.heap.size := T2.out.lt
  have HBF := Lib.hid (below_set9 B2.out (Nat.le_refl R) (.int .i64 x.kd) (.int .i64 x.rw) (.int .i64 x.cl) (.int .i64 x.sc) (.int .i64 x.tl) (.int .i64 x.wd) (.string (str x.nm)) (.int .i64 x.lv) (.string (str x.tx)))
  go_wp2_with fail
  exact ret_cell1 HRES.out Tryz.underlying30 rfl (by kernel_rfl) rfl rfl (hp_set9 (show Tf w2 R 9 ITy _ from T2.out) x) ⟨⟨x, rfl, HX.out⟩, hR ▸ HBF.out⟩
set_option maxHeartbeats 16000000 in
set_option maxRecDepth 100000 in
theorem lawFnGlyphs (s0 : Option Addr) (n0 cap0 : Nat) (z0 : List Int) (w : World) (hr0 : RowB w s0 n0 z0) :
    Calls Tryz.prog 3 #[.slice s0 n0 cap0] w fun e w' => e = .returned (.bool true) ∧ Below w.heap.size w w' := by
  have HR := Lib.hid hr0
  clear hr0
  by_cases hbig : (4096 : Int) < (n0 : Int)
  · go_enter Tryz.func3, Tryz.ntmps3
    go_wp2_with fail
    refine (bigL_any _ _ _ _).mono ?_
    rintro e w1 ⟨rfl, rfl⟩
    rw [show decide ((4096 : Int) < (n0 : Int)) = true from decide_eq_true (by omega)]
    go_wp2_with fail
    go_ret
    exact ⟨rfl, Below.refl _ _⟩
  go_enter Tryz.func3, Tryz.ntmps3
  go_wp2_with fail
  refine (bigL_any _ _ _ _).mono ?_
  rintro e w1 ⟨rfl, rfl⟩
  rw [show decide ((4096 : Int) < (n0 : Int)) = false from decide_eq_false (by omega)]
  clear hbig
  go_wp2_with fail
  refine (drawGlyph_any HR.out).mono ?_
  rintro e w1 ⟨⟨b, rfl⟩, hb1⟩
  have B1 := Lib.hid hb1
  have HGB := Lib.hid (fun (k : Nat) (h : k < (glyL b).length) => gly_bd h)
  have HGL := Lib.hid (gly_len b)
  have HIM := Lib.hid (fun (V : World) => implGlyphRows_any b V)
  have HSP := Lib.hid (fun (V : World) => specGlyphRows_any b V)
  clear hb1
  generalize glyL b = G at *
  go_wp2_with fail
  refine (HIM.out _).mono ?_
  rintro e w2 ⟨⟨a, n, cap, rfl, hrow⟩, hb2⟩
  have B2 := Lib.hid (B1.out.trans (hb2.mono B1.out.size))
  have RW2 := Lib.hid hrow
  have hln := hrow.len
  clear hb2 hrow B1
  go_wp2_with fail
  refine (HSP.out _).mono ?_
  rintro e w3 ⟨v, rfl, hb3, hO⟩
  obtain ⟨a2, cap2, rfl, -, hat⟩ := hO.shape
  have RW3' := Lib.hid (show RowAt w3 a2 n G from by have h := hO.rowF; rw [hln] at h; exact h)
  have B3 := Lib.hid (B2.out.trans (hb3.mono B2.out.size))
  have RW3 := Lib.hid (RW2.out.below' hb3)
  clear hb3 hO hat RW2 B2
  have hcc : (glyC b != glyC b) = false := by simp
  go_wp2_with fail
  refine (likeInts_any RW3.out RW3'.out).mono ?_
  rintro e w4 ⟨rfl, hb4⟩
  rw [decide_eq_true rfl]
  have B4 := Lib.hid (B3.out.trans (hb4.mono B3.out.size))
  have RW4 := Lib.hid (RW3.out.below' hb4)
  clear hb4 RW3 RW3' B3 hcc
  have hsm := RW4.out.small
  go_wp2_with fail
  go_loopw [8] (fun ti wr => ∃ i : Nat, i ≤ n ∧ ti = .int .i64 (i : Int) ∧ Hid (Below w4.heap.size w4 wr)) (fun ti _ => n - (intOf ti).toNat)
  case atStart => exact ⟨0, by omega, rfl, Lib.hid (Below.refl _ _)⟩
  case round =>
    obtain ⟨i, hi, rfl, hB⟩ := hrel
    by_cases hlt : i < n
    · obtain ⟨b1, o1, e1, hbl, hcs⟩ := (RW4.out.below' hB.out).at' (by omega)
      subst e1
      have hc := hcs i hlt
      obtain ⟨v1, v2⟩ := HGB.out i (by omega)
      clear hcs
      generalize gi G i = v at *
      go_wp2_with fail
      go_roundw
      case rel => exact ⟨i + 1, by omega, by go_num, hB⟩
      case measure => simp [intOf]; omega
    · obtain rfl : i = n := by omega
      have B5 := Lib.hid (B4.out.trans (hB.out.mono B4.out.size))
      clear hB RW4 B4
      go_wp2_with fail
      refine (drawItemBox_any (HR.out.below' (B5.out))).mono ?_
      rintro e w6 ⟨⟨x, rfl, hxt⟩, hb6⟩
      have I7 := Lib.hid (ItB.new w6 x ITy)
      have B6 := Lib.hid (B5.out.trans (hb6.mono B5.out.size))
      have B7 := Lib.hid (B6.out.trans ((below1 w6 (.cells (itL x).toArray ITy)).mono B6.out.size))
      have HX := Lib.hid hxt
      clear hb6 hxt B5 B6
      rw [show itV x = .agg #[.int .i64 x.kd, .int .i64 x.rw, .int .i64 x.cl, .int .i64 x.sc, .int .i64 x.tl, .int .i64 x.wd, .string (str x.nm), .int .i64 x.lv, .string (str x.tx)] from rfl]
      go_upto_region 14 with (fail)
      obtain ⟨w7, hw7⟩ : ∃ w7, w6.alloc (.cells (itL x).toArray ITy) = w7 := ⟨_, rfl⟩
      rw [hw7] at I7 B7
      rw [show w6.alloc (.cells #[.int .i64 x.kd, .int .i64 x.rw, .int .i64 x.cl, .int .i64 x.sc, .int .i64 x.tl, .int .i64 x.wd, .string (str x.nm), .int .i64 x.lv, .string (str x.tx)] ITy) = w7 from hw7]
      clear hw7
      generalize w6.heap.size = Q at *
      have hQl := I7.out.lt
      have i0 := I7.out.c0
      have i1 := I7.out.c1
      have i2 := I7.out.c2
      have i3 := I7.out.c3
      have i4 := I7.out.c4
      have i5 := I7.out.c5
      have i6 := I7.out.c6
      have i7 := I7.out.c7
      have i8 := I7.out.c8
      go_wp2_with fail
      refine (implItemBox_any x (by have := HX.out; omega) _).mono ?_
      rintro e w8 ⟨rfl, hb8⟩
      have I8 := Lib.hid (I7.out.below hb8)
      have B8 := Lib.hid (B7.out.trans (hb8.mono B7.out.size))
      clear hb8 I7 B7 hQl i0 i1 i2 i3 i4 i5 i6 i7 i8
      have hQl := I8.out.lt
      have i0 := I8.out.c0
      have i1 := I8.out.c1
      have i2 := I8.out.c2
      have i3 := I8.out.c3
      have i4 := I8.out.c4
      have i5 := I8.out.c5
      have i6 := I8.out.c6
      have i7 := I8.out.c7
      have i8 := I8.out.c8
      go_wp2_with fail
      refine (specItemBox_any x (by have := HX.out; omega) _).mono ?_
      rintro e w9 ⟨rfl, hb9⟩
      have B9 := Lib.hid (B8.out.trans (hb9.mono B8.out.size))
      clear hb9 I8 B8 hQl i0 i1 i2 i3 i4 i5 i6 i7 i8
      have e1 : (boxE x == boxE x) = true := by simp
      have e2 : (boxR x == boxR x) = true := by simp
      have e3 : (boxC x == boxC x) = true := by simp
      have HH := Lib.hid (show hasG b = (decide (b = 32) || (inR b 48 57 || inR b 65 90)) from rfl)
      go_upto_region 16 with (fail)
      go_cut [16] from 72 to 89 (fun p wx => p = .bool (hasG b) ∧ wx = w9)
      case first =>
        have HBN := Lib.hid (show (b = 32 → hasG b = true) ∧ (48 ≤ b ∧ b ≤ 57 → hasG b = true) ∧ (65 ≤ b ∧ b ≤ 90 → hasG b = true) ∧ (¬ b = 32 → ¬ (48 ≤ b ∧ b ≤ 57) → ¬ (65 ≤ b ∧ b ≤ 90) → hasG b = false) from by
          refine ⟨fun h => by rw [HH.out]; simp [h], fun h => by rw [HH.out, inR_true h.1 h.2]; simp, fun h => by rw [HH.out, inR_true h.1 h.2]; simp, fun h1 h2 h3 => by rw [HH.out, decide_eq_false h1, inR_false h2, inR_false h3]; rfl⟩)
        clear HH
        by_cases h32 : b = 32
        · have hE := Lib.hid (HBN.out.1 h32)
          have hb : (b == 32) = true := by simp [h32]
          clear h32
          go_wp2_with fail
          go_meet
          case rel => exact ⟨congrArg Value.bool hE.out.symm, rfl⟩
        have hb : (b == 32) = false := by simp [h32]
        rcases (show (48 ≤ b ∧ b ≤ 57) ∨ (65 ≤ b ∧ b ≤ 90) ∨ b < 48 ∨ (57 < b ∧ b < 65) ∨ 90 < b by omega) with h | h | h | h | h
        · have hE := Lib.hid (HBN.out.2.1 h)
          have c1 : 48 ≤ b := h.1
          have c2 : b ≤ 57 := h.2
          clear h h32
          go_wp2_with fail
          go_meet
          case rel => exact ⟨congrArg Value.bool hE.out.symm, rfl⟩
        · have hE := Lib.hid (HBN.out.2.2.1 h)
          have c1 : 48 ≤ b := by omega
          have c2 : ¬ b ≤ 57 := by omega
          have c3 : 65 ≤ b := h.1
          have c4 : b ≤ 90 := h.2
          clear h h32
          go_wp2_with fail
          go_meet
          case rel => exact ⟨congrArg Value.bool hE.out.symm, rfl⟩
        · have hE := Lib.hid (HBN.out.2.2.2 h32 (by omega) (by omega))
          have c1 : ¬ 48 ≤ b := by omega
          have c3 : ¬ 65 ≤ b := by omega
          clear h h32
          go_wp2_with fail
          go_meet
          case rel => exact ⟨congrArg Value.bool hE.out.symm, rfl⟩
        · have hE := Lib.hid (HBN.out.2.2.2 h32 (by omega) (by omega))
          have c1 : 48 ≤ b := by omega
          have c2 : ¬ b ≤ 57 := by omega
          have c3 : ¬ 65 ≤ b := by omega
          clear h h32
          go_wp2_with fail
          go_meet
          case rel => exact ⟨congrArg Value.bool hE.out.symm, rfl⟩
        · have hE := Lib.hid (HBN.out.2.2.2 h32 (by omega) (by omega))
          have c1 : 48 ≤ b := by omega
          have c2 : ¬ b ≤ 57 := by omega
          have c3 : 65 ≤ b := by omega
          have c4 : ¬ b ≤ 90 := by omega
          clear h h32
          go_wp2_with fail
          go_meet
          case rel => exact ⟨congrArg Value.bool hE.out.symm, rfl⟩
      case rest =>
        obtain ⟨rfl, rfl⟩ := hcut
        cases hg : hasG b with
        | true =>
          have hn5 : i = 5 := by rw [← hln]; exact HGL.out.1 hg
          have hnb : ((i : Int) == 5) = true := by simp [hn5]
          clear hn5 hg hln
          go_wp2_with fail
          go_ret
          exact ⟨rfl, B9.out⟩
        | false =>
          have hn0 : i = 0 := by rw [← hln]; exact HGL.out.2 hg
          have hnb : ((i : Int) == 5) = false := by simp [hn0]
          clear hn0 hg hln
          go_wp2_with fail
          go_ret
          exact ⟨rfl, B9.out⟩
end Go.Proofs.YtdcmebegnekkcaaGreat
