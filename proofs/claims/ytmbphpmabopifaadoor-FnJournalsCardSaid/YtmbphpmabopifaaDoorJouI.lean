/-
  The program's journals: a line, adding a record, the journal of a list.
-/
import Derived.Test.YtmbphpmabopifaaDoorJouP
import Derived.Test.YtmbphpmabopifaaDoorJouS
import Derived.Test.YtmbphpmabopifaaDoorShA
namespace Go.Proofs.YtmbphpmabopifaaDoor
open Go.RowKit
set_option linter.unusedVariables false

abbrev JT : TypeId := 52
/-- The table that the numerals are made with. -/
abbrev Tab (w : World) : Prop := Lib.TabIs Tryd.prog w "internal/strconv.uint64pow10" .u64 Lib.pow10Tab
theorem tab_below {w w' : World} (h : Tab w) (hb : Below w.heap.size w w') : Tab w' := Lib.tabBelow_of_tabIs h w' hb
/-- A journal's block: its text, how many records, the last sum. -/
structure JB (w : World) (J : Nat) (v : Value) (n s : Int) : Prop where
  blk : w.heap[J]? = some (.cells #[v, .int .i64 n, .int .i64 s] JT (0, 0))
section
variable {w w' : World} {J M : Nat} {v : Value} {n s : Int}
theorem JB.lt (h : JB w J v n s) : J < w.heap.size := lt_of_heap h.blk
theorem JB.c0 (h : JB w J v n s) : w.cell? ⟨J, 0, none⟩ = some v := by unfold World.cell?; rw [h.blk]; rfl
theorem JB.c1 (h : JB w J v n s) : w.cell? ⟨J, 1, none⟩ = some (.int .i64 n) := by unfold World.cell?; rw [h.blk]; rfl
theorem JB.c2 (h : JB w J v n s) : w.cell? ⟨J, 2, none⟩ = some (.int .i64 s) := by unfold World.cell?; rw [h.blk]; rfl
theorem JB.fz (h : JB w J v n s) (o : Nat) : w.frozen? ⟨J, o, none⟩ = false := by unfold World.frozen?; rw [h.blk]; simp
theorem JB.below (h : JB w J v n s) (hb : Below M w w') (hC : J < M) : JB w' J v n s := ⟨(hb.block J hC).trans h.blk⟩
end
/-- strconv.AppendInt at base 10, on a slice of bytes of the call's own. -/
theorem appendInt_any {w : World} {B : Nat} {v : Value} {bs : List UInt8} (i : Int) (h0 : -9223372036854775808 ≤ i) (h1 : i ≤ 9223372036854775807) (ho : OwnB w B v bs) (hn : bs.length ≤ 16777216) (ht : Lib.TabBelow Tryd.prog B w "internal/strconv.uint64pow10" .u64 Lib.pow10Tab) :
    Calls Tryd.prog 52 #[v, .int .i64 i, .int .i64 10] w fun e w' => ∃ v', e = .returned v' ∧ OwnB w' B v' (bs ++ Lib.itoa i) ∧ Below B w w' := by
  refine (Tryd.strconv_AppendInt_10 B bs.length i h0 h1 v (Lib.byteCells bs) w ho.2 ho.1 (by omega) ht).mono ?_
  rintro e w' ⟨v', rfl, h, hb, -⟩
  exact ⟨v', rfl, ⟨by have := hb.size; have := ho.1; omega, by rw [Lib.byteCells_append, List.length_append]; exact h⟩, hb⟩
set_option maxRecDepth 100000 in
theorem idx_word (j : Nat) (hj : j < 4) (w : World) : (Instr.index 90 (.agg #[.string { data := #[112, 108, 97, 110] }, .string { data := #[112, 114, 105, 110, 116] }, .string { data := #[114, 101, 97, 100] }, .string { data := #[118, 111, 105, 100] }]) (.int .i64 (j : Int))).run Tryd.prog w = .ok (.string (str (wrdL ((j : Int) + 1)))) w := by
  rcases (show j = 0 ∨ j = 1 ∨ j = 2 ∨ j = 3 by omega) with rfl | rfl | rfl | rfl <;> rfl
set_option maxRecDepth 100000 in
theorem recordWord_any (k : Int) (h1 : 1 ≤ k) (h2 : k ≤ 4) (w : World) :
    Calls Tryd.prog 53 #[.int .i64 k] w fun e w' => e = .returned (.string (str (wrdL k))) ∧ w = w' := by
  obtain ⟨j, rfl⟩ : ∃ j : Nat, k = (j : Int) + 1 := ⟨(k - 1).toNat, by omega⟩
  have hi := idx_word j (by omega)
  go_enter Tryd.func53, Tryd.ntmps53
  go_wp2_with fail
  go_ret
  exact ⟨rfl, rfl⟩
set_option maxHeartbeats 4000000 in
set_option maxRecDepth 100000 in
theorem line_any (n : Nat) (hn : n ≤ 1000000) {k i : Int} (hv : recB k i = true) {s : Int} (h0 : 0 ≤ s) (h1 : s < 65521) {w : World} {J : Nat} {jv : Value} (hj : JB w J jv (n : Int) s) (htab : Tab w) :
    Calls Tryd.prog 41 #[.pointer (some ⟨J, 0, none⟩), rV k i] w fun e w' => ∃ v, e = .returned (.tuple #[v, .int .i64 (sumL s (bodyL (n : Int) (k, i)))]) ∧ Below w.heap.size w w' ∧ OwnB w' w.heap.size v (lineL (n : Int) (k, i) s ++ [10]) := by
  obtain ⟨hk1, hk2, hi1, hi2⟩ := recB_bd hv
  have HLN := Lib.hid (show lineL (n : Int) (k, i) s ++ [10] = bodyL (n : Int) (k, i) ++ [32] ++ Lib.itoa (sumL s (bodyL (n : Int) (k, i))) ++ [10] from rfl)
  have HBO := Lib.hid (show bodyL (n : Int) (k, i) = Lib.itoa (n : Int) ++ [32] ++ wrdL k ++ [32] ++ Lib.itoa i from rfl)
  have hbL := bodyL_le (n := (n : Int)) (r := (k, i)) (by omega) (by omega) (by show (0 : Int) ≤ i; omega) (by show i ≤ 1000000; omega)
  have hsb := sumL_bd h0 h1 (bodyL (n : Int) (k, i))
  have HTK := Lib.hid (fun m (hm : m < (bodyL (n : Int) (k, i)).length) => sumL_take (s := s) hm)
  have HSB := Lib.hid (fun m => sumL_bd h0 h1 ((bodyL (n : Int) (k, i)).take m))
  have hA := itoa_le (n := (n : Int)) (by omega) (by omega)
  have hI := itoa_le (n := i) (by omega) (by omega)
  have hW := wrdL_le k
  have hD := itoa_le (n := sumL s (bodyL (n : Int) (k, i))) (by omega) (by omega)
  have HX := boxR_new w k i 36
  have HB1 := Lib.hid (below1 w (.cells #[.int .i64 k, .int .i64 i] 36))
  have HJ := Lib.hid (hj.below HB1.out hj.lt)
  have HT := Lib.hid (tab_below htab HB1.out)
  have hJlt : J < w.heap.size := hj.lt
  clear hj htab
  go_enter Tryd.func41, Tryd.ntmps41
  have hs1 : (w.alloc (.cells #[.int .i64 k, .int .i64 i] 36)).heap.size = w.heap.size + 1 := by simp
  generalize hw1 : w.alloc (.cells #[.int .i64 k, .int .i64 i] 36) = w1 at *
  have c1 := HJ.out.c1
  have hXlt : w.heap.size < w1.heap.size := by omega
  have hJ1 : J < w1.heap.size := by omega
  have TB1 := Lib.hid (Lib.tabBelow_of_tabIs HT.out)
  go_wp2_with fail
  refine (appendInt_any (n : Int) (by omega) (by omega) (OwnB.nil w1 w1.heap.size (Nat.le_refl _)) (by simp) TB1.out).mono ?_
  rintro e w2 ⟨v2, rfl, ho2, hb2⟩
  have O2 := Lib.hid ho2
  have B2 := Lib.hid hb2
  clear ho2 hb2 c1
  rw [List.nil_append] at O2
  have hn2 : (Lib.itoa (n : Int)).length ≤ 16777216 := by omega
  go_wp2_with (at_builtin; refine appendB_one rfl _ _ _ rfl Tryd.underlying42 32 32 rfl O2.out rfl _ rfl rfl hn2 ?_; intro v3 w3 hown hb; refine Hid.out ?_)
  have O3 := Lib.hid hown
  have B3 := Lib.hid (B2.out.trans hb)
  clear hown hb O2 B2
  have c0 := (HX.below B3.out (by rw [hs1]; omega)).c0
  refine Lib.hid ?_
  go_wp2_with fail
  refine (recordWord_any k hk1 hk2 _).mono ?_
  rintro e w3' ⟨rfl, rfl⟩
  clear c0
  go_wp2_with (at_builtin; refine appendB_str rfl _ _ _ _ rfl Tryd.underlying42 Tryd.underlying9 _ (wrdL k) rfl O3.out rfl rfl (by simp; omega) (by omega) ?_; intro v4 w4 hown hb; refine Hid.out ?_)
  have O4 := Lib.hid hown
  have B4 := Lib.hid (B3.out.trans hb)
  have hn4 : (Lib.itoa (n : Int) ++ [32] ++ wrdL k).length ≤ 16777216 := by simp; omega
  clear hown hb O3 B3
  refine Lib.hid ?_
  go_wp2_with (at_builtin; refine appendB_one rfl _ _ _ rfl Tryd.underlying42 32 32 rfl O4.out rfl _ rfl rfl hn4 ?_; intro v5 w5 hown hb; refine Hid.out ?_)
  have O5 := Lib.hid hown
  have B5 := Lib.hid (B4.out.trans hb)
  have hn5 : (Lib.itoa (n : Int) ++ [32] ++ wrdL k ++ [32]).length ≤ 16777216 := by simp; omega
  clear hown hb O4 B4
  have c1 := (HX.below B5.out (by rw [hs1]; omega)).c1
  refine Lib.hid ?_
  go_wp2_with fail
  refine (appendInt_any i (by omega) (by omega) O5.out hn5 (TB1.out.on B5.out)).mono ?_
  rintro e w6 ⟨v6, rfl, ho6, hb6⟩
  have O6 := Lib.hid ho6
  have B6 := Lib.hid (B5.out.trans hb6)
  rw [← HBO.out] at O6
  clear ho6 hb6 O5 B5 c1
  have c2 := (HJ.out.below B6.out hJ1).c2
  obtain ⟨a6, cap6, rfl, hrow, hblk⟩ := O6.out.row
  have HR6 := Lib.hid hrow
  have hlen6 := hbL
  clear hrow hblk HBO
  have HBL := Lib.hid hbL
  generalize hBOe : bodyL (n : Int) (k, i) = BO at *
  have HBOE := Lib.hid hBOe
  clear hBOe
  go_wp2_with fail
  go_loopw [7, 36] (fun ts tk wr => ∃ m : Nat, m ≤ BO.length ∧ tk = .int .i64 m ∧ ts = .int .i64 (sumL s (BO.take m)) ∧ wr = w6) (fun _ tk _ => BO.length - (intOf tk).toNat)
  case atStart => exact ⟨0, by omega, rfl, by simp [sumL], rfl⟩
  case round =>
    obtain ⟨m, hm, rfl, rfl, rfl⟩ := hrel
    have hb := HSB.out m
    by_cases hlt : m < BO.length
    · have hli : (m : Int) < (BO.length : Int) := by omega
      have HST := Lib.hid (HTK.out m hlt)
      obtain ⟨⟨b6, o6, s6⟩, rfl⟩ : ∃ ad, a6 = some ad := by
        cases a6 with
        | none => have := HR6.out.no rfl; have := HR6.out.le; omega
        | some ad => exact ⟨ad, rfl⟩
      have hcell := (HR6.out.at' _ rfl).2 m hlt
      have hbt : (BO[m].toNat : Int) ≤ 255 := by have := BO[m].toNat_lt; omega
      have hbt0 : (0 : Int) ≤ (BO[m].toNat : Int) := by omega
      generalize (BO[m].toNat : Int) = bt at *
      obtain ⟨sm, hsm⟩ : ∃ sm : Int, sumL s (BO.take m) = sm := ⟨_, rfl⟩
      rw [hsm] at hb HST ⊢
      clear hsm
      go_wp2_with fail
      go_roundw
      case rel => exact ⟨m + 1, by omega, by go_num, by rw [HST.out], trivial⟩
      case measure => simp [intOf]; omega
    · obtain rfl : m = BO.length := by omega
      have hsL : BO.take BO.length = BO := List.take_length
      rw [hsL] at hb ⊢
      clear hsL
      obtain ⟨sm, hsm⟩ : ∃ sm : Int, sumL s BO = sm := ⟨_, rfl⟩
      rw [hsm] at hb hD ⊢
      have HSM := Lib.hid hsm
      rw [hsm] at HLN
      clear hsm
      go_wp2_with (at_builtin; refine appendB_one rfl _ _ _ rfl Tryd.underlying42 32 32 rfl O6.out rfl _ rfl rfl (by omega) ?_; intro v7 w7 hown hb7; refine Hid.out ?_)
      have O7 := Lib.hid hown
      have B7 := Lib.hid (B6.out.trans hb7)
      have hn7 : (BO ++ [32]).length ≤ 16777216 := by simp; omega
      clear hown hb7 O6 B6
      refine Lib.hid ?_
      go_wp2_with fail
      refine (appendInt_any sm (by omega) (by omega) O7.out hn7 (TB1.out.on B7.out)).mono ?_
      rintro e w8 ⟨v8, rfl, ho8, hb8⟩
      have O8 := Lib.hid ho8
      have B8 := Lib.hid (B7.out.trans hb8)
      have hn8 : (BO ++ [32] ++ Lib.itoa sm).length ≤ 16777216 := by simp; omega
      clear ho8 hb8 O7 B7
      go_wp2_with (at_builtin; refine appendB_one rfl _ _ _ rfl Tryd.underlying42 10 10 rfl O8.out rfl _ rfl rfl hn8 ?_; intro v9 w9 hown hb9; refine Hid.out ?_)
      have O9 := Lib.hid hown
      have B9 := Lib.hid (B8.out.trans hb9)
      rw [← HLN.out] at O9
      clear hown hb9 O8 B8
      refine Lib.hid ?_
      go_wp2_with fail
      go_ret2
      exact ⟨_, by rw [HBOE.out, HSM.out]; rfl, HB1.out.trans (B9.out.mono (by omega)), O9.out.lower (by omega)⟩
/-- Everything but block J is as it was. -/
structure KJ (J : Nat) (w w' : World) : Prop where
  os : w'.os = w.os
  tape : w'.tape = w.tape
  output : w'.output = w.output
  size : w.heap.size ≤ w'.heap.size
  block : ∀ k, k < w.heap.size → k ≠ J → w'.heap[k]? = w.heap[k]?
theorem KJ.of {J : Nat} {w w' : World} (h : Below w.heap.size w w') : KJ J w w' := ⟨h.os, h.tape, h.output, h.size, fun k hk _ => h.block k hk⟩
theorem KJ.trans {J : Nat} {a b c : World} (h : KJ J a b) (k : KJ J b c) : KJ J a c :=
  ⟨k.os.trans h.os, k.tape.trans h.tape, k.output.trans h.output, Nat.le_trans h.size k.size, fun i hi hn => (k.block i (Nat.lt_of_lt_of_le hi h.size) hn).trans (h.block i hi hn)⟩
theorem KJ.set (J o : Nat) (w : World) (v : Value) : KJ J w (w.setCell ⟨J, o, none⟩ v) :=
  ⟨rfl, rfl, rfl, by simp [World.setCell], fun k _ hn => Below.heap_setCell _ _ _ _ hn⟩
theorem KJ.below {J B : Nat} {w w' : World} (h : KJ J w w') (hB : B ≤ J) (hw : B ≤ w.heap.size) : Below B w w' :=
  ⟨h.os, h.tape, h.output, h.size, fun k hk => h.block k (by omega) (by omega)⟩
theorem RowU.kj {J : Nat} {w w' : World} {a : Option Addr} {n cap : Nat} {bs : List UInt8} (h : RowU w a n cap bs) (hk : KJ J w w') (hne : ∀ ad, a = some ad → ad.block ≠ J) : RowU w' a n cap bs :=
  ⟨h.len, h.le, h.no, h.small, fun ad e => ⟨by have := (h.at' ad e).1; have := hk.size; omega, fun j hj => by
    have h1 := (h.at' ad e).2 j hj
    rw [← h1]
    exact World.cell?_of_block (w := w) (a := ad.add j) (by rw [addr_blk]; exact hk.block _ (h.at' ad e).1 (hne ad e))⟩⟩
section
variable {w : World} {J : Nat} {v : Value} {n s : Int}
theorem JB.set0 (h : JB w J v n s) (x : Value) : JB (w.setCell ⟨J, 0, none⟩ x) J x n s := ⟨by rw [heap_setCell_self _ _ _ _ _ _ _ h.blk]; rfl⟩
theorem JB.set1 (h : JB w J v n s) (x : Int) : JB (w.setCell ⟨J, 1, none⟩ (.int .i64 x)) J v x s := ⟨by rw [heap_setCell_self _ _ _ _ _ _ _ h.blk]; rfl⟩
theorem JB.set2 (h : JB w J v n s) (x : Int) : JB (w.setCell ⟨J, 2, none⟩ (.int .i64 x)) J v n x := ⟨by rw [heap_setCell_self _ _ _ _ _ _ _ h.blk]; rfl⟩
end
/-- A row behind a copy of a row, in a new block. -/
theorem run_fresh {w : World} {a a' : Option Addr} {n cap n' c' : Nat} {bs ls : List UInt8} (h : RowU w a n cap bs) (h' : RowU w a' n' c' ls) (h0 : 0 < n') (hn : n + n' ≤ 16777216) (ty : TypeId) :
    ∃ v' w', (Builtin.append_ #[42, 42] ty #[.slice a n n, .slice a' n' c']).run Tryd.prog w = .ok v' w' ∧ OwnB w' w.heap.size v' (bs ++ ls) ∧ Below w.heap.size w w' := by
  obtain ⟨i0, hi, hz0, hz1, hz2⟩ := info_parts info_u8
  obtain ⟨hl, hle, hno, hsm, hat⟩ := h
  obtain ⟨hl', hle', hno', hsm', hat'⟩ := h'
  subst hl hl'
  obtain ⟨ad', rfl⟩ : ∃ ad', a' = some ad' := by
    cases a' with
    | none => have := hno' rfl; omega
    | some x => exact ⟨x, rfl⟩
  have hnews : ∀ j u, (Lib.byteCells ls)[j]? = some u → w.cell? (ad'.add j) = some u := by
    intro j u hj
    have hjl : j < ls.length := by have := (List.getElem?_eq_some_iff.1 hj).1; simpa [Lib.byteCells] using this
    have h1 := (hat' ad' rfl).2 j hjl
    rw [h1, ← hj]; simp [Lib.byteCells, hjl]
  have hone : ∀ u ∈ Lib.byteCells ls, u.oneCell' = true := by
    intro u hu
    simp only [Lib.byteCells, List.mem_map] at hu
    obtain ⟨b, _, rfl⟩ := hu
    rfl
  cases a with
  | none =>
    have hc := hno rfl
    have hb0 : bs = [] := List.eq_nil_of_length_eq_zero (by omega)
    subst hb0
    obtain ⟨v', w', hrun, h1, hg, _⟩ := run_append_own (P := Tryd.prog) w w.heap.size 42 ty 5 i0 (.int .u8 0) 1 1 Tryd.underlying42 hi hz0 hz1 hz2 rfl (by decide) (.slice none 0 0) 0 [] (World.ownsRow_nil _ _ _ _) ad' ls.length c' (Lib.byteCells ls) (by simp [Lib.byteCells]) hnews hone (by unfold maxLen; omega) (by simp at hn; omega) (Nat.le_refl _)
    refine ⟨v', w', hrun, ⟨hg.size, ?_⟩, (Below.refl _ w).grown hg (Nat.le_refl _) (fun k hk => by simp [Value.ownBlock] at hk)⟩
    simpa using h1
  | some ad =>
    have holds : ∀ j u, (Lib.byteCells bs)[j]? = some u → w.cell? (ad.add j) = some u := by
      intro j u hj
      have hjl : j < bs.length := by have := (List.getElem?_eq_some_iff.1 hj).1; simpa [Lib.byteCells] using this
      have h1 := (hat ad rfl).2 j hjl
      rw [h1, ← hj]; simp [Lib.byteCells, hjl]
    have hr := run_append_grow (P := Tryd.prog) w 42 ty 5 i0 (.int .u8 0) Tryd.underlying42 hi hz0 ad bs.length bs.length (Lib.byteCells bs) (by rw [hz1]; simp [Lib.byteCells]) holds ad' ls.length c' (Lib.byteCells ls) (by rw [hz1]; simp [Lib.byteCells]) hnews (by omega) (by omega) (growslice_fits (by omega) (by rw [hz2]; omega))
    refine ⟨_, _, hr, ⟨by simp, ?_⟩, ((Below.refl _ w).drew).alloc (by simp) _⟩
    have hge := grownCap_ge w (bs.length + ls.length) bs.length 5
    have hcm : grownCap w (bs.length + ls.length) bs.length 5 ≤ maxLen := grownCap_le_maxLen w (bs.length + ls.length) bs.length 5 (by unfold maxLen; omega)
    have hbl : ∀ l : List UInt8, (Lib.byteCells l).length = l.length := fun l => by simp [Lib.byteCells]
    rw [Lib.byteCells_append, List.length_append]
    refine ⟨by rw [List.length_append, hbl, hbl, Nat.mul_one], .inr ⟨w.heap.size, _, _, rfl, Nat.le_refl _, heap_alloc_new w.drew _, hge, hcm, ?_, ?_⟩⟩
    · have hz1 : (Value.int IntKind.u8 0).cells.size = 1 := rfl
      simp only [Array.size_append, List.size_toArray, size_zeroCells, hz1, hbl]
      omega
    · simp only [Array.toList_append, List.append_assoc, Nat.mul_one]
      rw [← List.append_assoc, show bs.length + ls.length = (Lib.byteCells bs ++ Lib.byteCells ls).length by rw [List.length_append, hbl, hbl]]
      exact List.take_left
/-- A row behind a row, in a region that draws its order. -/
theorem step_rowU {W0 : World} {ops : Array Oper} {o : Oper} {a : Act} {K : Act → World → Prop} {Q : Exit → Act → World → Prop} {E : Prop} (hgd : o.guard = none) (s x : Operand) (t : TypeId)
    (ho : o.op = .call { callee := .builtin .append, args := #[s, x], argTypes := #[t, t] }) {v v2 v' : Value} {w' : World}
    (hrun : (Builtin.append_ #[t, t] o.type #[v, v2]).run Tryd.prog W0 = .ok v' w') (hs : a.eval s = v) (hx : a.eval x = v2) (h : K (a.put o.dst v') w') :
    if Region.wanted o (yielded ops a.tmps) = true then Oper.wp Tryd.prog o a W0 K Q else E := by
  have hw : Region.wanted o (yielded ops a.tmps) = true := by simp [Region.wanted, hgd]
  rw [if_pos hw]
  unfold Oper.wp
  simp [execOp, ho, resolve, invoke, builtin, hs, hx, hrun, Result.andThen]
  exact h
set_option maxHeartbeats 4000000 in
set_option maxRecDepth 100000 in
theorem add_any (n : Nat) (hn : n ≤ 1000000) {k i : Int} (hv : recB k i = true) {s : Int} (h0 : 0 ≤ s) (h1 : s < 65521) {w : World} {J m cap : Nat} {a : Option Addr} {tx : List UInt8} (hj : JB w J (.slice a m cap) (n : Int) s) (hr : RowU w a m cap tx) (hl : m ≤ 1000000) (htab : Tab w) :
    Calls Tryd.prog 32 #[.pointer (some ⟨J, 0, none⟩), rV k i] w fun e w' => e = .returned (.tuple #[]) ∧ KJ J w w' ∧ ∃ a' m' cap', JB w' J (.slice a' m' cap') ((n : Int) + 1) (sumL s (bodyL (n : Int) (k, i))) ∧ RowU w' a' m' cap' (tx ++ (lineL (n : Int) (k, i) s ++ [10])) ∧ (∀ ad, a' = some ad → w.heap.size ≤ ad.block) := by
  obtain ⟨hk1, hk2, hi1, hi2⟩ := recB_bd hv
  have hLL := lineL_le (n := (n : Int)) (r := (k, i)) (s := s) (by omega) (by omega) (by show (0 : Int) ≤ i; omega) (by show i ≤ 1000000; omega) h0 h1
  have hJlt : J < w.heap.size := hj.lt
  have HX := boxR_new w k i 36
  have HB1 := Lib.hid (below1 w (.cells #[.int .i64 k, .int .i64 i] 36))
  have HJ := Lib.hid (hj.below HB1.out hj.lt)
  have HR := Lib.hid (hr.below HB1.out)
  have HT := Lib.hid (tab_below htab HB1.out)
  clear hj hr htab
  go_enter Tryd.func32, Tryd.ntmps32
  generalize hw1 : w.alloc (.cells #[.int .i64 k, .int .i64 i] 36) = w1 at *
  have c0 := HX.c0
  have c1 := HX.c1
  have hJ1 : J < w1.heap.size := HJ.out.lt
  go_wp2_with fail
  (try rw [hw1])
  refine (line_any n hn hv h0 h1 HJ.out HT.out).mono ?_
  rintro e w2 ⟨v2, rfl, hb2, ho2⟩
  have J2 := Lib.hid (HJ.out.below hb2 HJ.out.lt)
  have R2 := Lib.hid (HR.out.below hb2)
  have B2 := Lib.hid (HB1.out.trans (hb2.mono HB1.out.size))
  obtain ⟨a2, cap2, rfl, hrow2, -⟩ := ho2.row
  have L2 := Lib.hid hrow2
  clear hb2 ho2 hrow2 HJ HR HT c0 c1 HX
  obtain ⟨ln, hln⟩ : ∃ ln, lineL (n : Int) (k, i) s ++ [10] = ln := ⟨_, rfl⟩
  have hln1 : 0 < ln.length ∧ ln.length ≤ 72 := by rw [← hln, List.length_append]; simp; omega
  have HLN := Lib.hid hln
  rw [hln] at L2 ⊢
  clear hln hLL
  obtain ⟨sm, hsm⟩ : ∃ sm, sumL s (bodyL (n : Int) (k, i)) = sm := ⟨_, rfl⟩
  have HSM := Lib.hid hsm
  rw [hsm]
  clear hsm
  have j0 := J2.out.c0
  have j1 := J2.out.c1
  have j2 := J2.out.c2
  go_wp2_with fail
  obtain ⟨v3, w3, hrun, ho3, hb3⟩ := run_fresh ((R2.out.below (drewB w2 _))) (L2.out.below (drewB w2 _)) hln1.1 (by omega) 42
  have J3 := Lib.hid ((J2.out.below (drewB w2 w2.heap.size) J2.out.lt).below hb3 J2.out.lt)
  have j30 := J3.out.c0
  have j31 := J3.out.c1
  have j32 := J3.out.c2
  have f30 := J3.out.fz 0
  have f31 := J3.out.fz 1
  have f32 := J3.out.fz 2
  obtain ⟨a3, cap3, rfl, hrow3, hblk3⟩ := ho3.row
  have R3 := Lib.hid (show RowU w3 a3 (tx.length + ln.length) cap3 (tx ++ ln) from by rw [← List.length_append]; exact hrow3)
  have hJ2 : J < w2.heap.size := J2.out.lt
  have HBK := Lib.hid (show ∀ ad, a3 = some ad → ad.block ≠ J from fun ad e => by
    obtain ⟨g, rfl, hg, -⟩ := hblk3 ad e
    have : w2.heap.size ≤ g := hg
    show g ≠ J
    omega)
  have HBG := Lib.hid (show ∀ ad, a3 = some ad → w.heap.size ≤ ad.block from fun ad e => by
    obtain ⟨g, rfl, hg, -⟩ := hblk3 ad e
    exact Nat.le_trans B2.out.size hg)
  have KE := Lib.hid (show KJ J w w3 from ((KJ.of B2.out).trans ((KJ.of (drewB w2 _)).trans (KJ.of hb3))))
  clear hrow3 hblk3
  have hmc : m ≤ cap := R2.out.le
  have hmc' : ¬ cap < m := by omega
  have hcut : (if m = 0 then a else Option.map (fun x : Addr => x.add 0) a) = a := by
    split
    · rfl
    · cases a <;> simp [Addr.add]
  refine wp_region_S (S := (fun _ => True)) 21 rfl (by kernel_rfl) ?_ (fun hHeld => ?_)
  · first | (exact trivial) | ((try dsimp only); exact trivial)
  refine wpAnyH_take (i := 0) (oi := _) (v := ?_) rfl (by kernel_rfl) (by kernel_rfl) (by kernel_rfl) (fun _ _ _ h => h) (Or.inl ⟨by kernel_rfl, ?_⟩) hHeld ?_
  rotate_left
  · intro w0 hSw; (try dsimp only at hSw); go_simp; (try with_reducible rfl)
  (try dsimp only [Act.put, List.setIfInBounds_toArray, List.set_cons_zero, List.set_cons_succ])
  refine wpAnyH_take (i := 1) (oi := _) (v := ?_) rfl (by kernel_rfl) (by kernel_rfl) (by kernel_rfl) (fun _ _ _ h => h) (Or.inl ⟨by kernel_rfl, ?_⟩) hHeld ?_
  rotate_left
  · intro w0 hSw; (try dsimp only at hSw); go_simp; (try with_reducible rfl)
  (try dsimp only [Act.put, List.setIfInBounds_toArray, List.set_cons_zero, List.set_cons_succ])
  refine wpAnyH_take (i := 2) (oi := _) (v := ?_) rfl (by kernel_rfl) (by kernel_rfl) (by kernel_rfl) (fun _ _ _ h => h) (Or.inl ⟨by kernel_rfl, ?_⟩) hHeld ?_
  rotate_left
  · intro w0 hSw; (try dsimp only at hSw); go_simp; (try with_reducible rfl)
  (try dsimp only [Act.put, List.setIfInBounds_toArray, List.set_cons_zero, List.set_cons_succ])
  refine wpAnyH_take (i := 3) (oi := _) (v := ?_) rfl (by kernel_rfl) (by kernel_rfl) (by kernel_rfl) (fun _ _ _ h => h) (Or.inl ⟨by kernel_rfl, ?_⟩) hHeld ?_
  rotate_left
  · intro w0 hSw; (try dsimp only at hSw); go_simp; (try with_reducible rfl)
  (try dsimp only [Act.put, List.setIfInBounds_toArray, List.set_cons_zero, List.set_cons_succ])
  refine wpAnyH_take (i := 5) (oi := _) (v := ?_) rfl (by kernel_rfl) (by kernel_rfl) (by kernel_rfl) (fun _ _ _ h => h) (Or.inl ⟨by kernel_rfl, ?_⟩) hHeld ?_
  rotate_left
  · intro w0 hSw; (try dsimp only at hSw); go_simp; (try with_reducible rfl)
  (try dsimp only [Act.put, List.setIfInBounds_toArray, List.set_cons_zero, List.set_cons_succ])
  refine wpAnyH_take (i := 6) (oi := _) (v := ?_) rfl (by kernel_rfl) (by kernel_rfl) (by kernel_rfl) (fun _ _ _ h => h) (Or.inl ⟨by kernel_rfl, ?_⟩) hHeld ?_
  rotate_left
  · intro w0 hSw; (try dsimp only at hSw); go_simp; (try with_reducible rfl)
  (try dsimp only [Act.put, List.setIfInBounds_toArray, List.set_cons_zero, List.set_cons_succ])
  refine wpAnyH_take (i := 7) (oi := _) (v := ?_) rfl (by kernel_rfl) (by kernel_rfl) (by kernel_rfl) (fun _ _ _ h => h) (Or.inl ⟨by kernel_rfl, ?_⟩) hHeld ?_
  rotate_left
  · intro w0 hSw; (try dsimp only at hSw); go_simp; (try with_reducible rfl)
  (try dsimp only [Act.put, List.setIfInBounds_toArray, List.set_cons_zero, List.set_cons_succ])
  refine wpAnyH_take (i := 10) (oi := _) (v := ?_) rfl (by kernel_rfl) (by kernel_rfl) (by kernel_rfl) (fun _ _ _ h => h) (Or.inl ⟨by kernel_rfl, ?_⟩) hHeld ?_
  rotate_left
  · intro w0 hSw; (try dsimp only at hSw); go_simp; (try with_reducible rfl)
  (try dsimp only [Act.put, List.setIfInBounds_toArray, List.set_cons_zero, List.set_cons_succ])
  refine wpAnyH_take (i := 11) (oi := _) (v := ?_) rfl (by kernel_rfl) (by kernel_rfl) (by kernel_rfl) (fun _ _ _ h => h) (Or.inl ⟨by kernel_rfl, ?_⟩) hHeld ?_
  rotate_left
  · intro w0 hSw; (try dsimp only at hSw); go_simp; (try with_reducible rfl)
  (try dsimp only [Act.put, List.setIfInBounds_toArray, List.set_cons_zero, List.set_cons_succ])
  refine wpAnyH_take (i := 12) (oi := _) (v := ?_) rfl (by kernel_rfl) (by kernel_rfl) (by kernel_rfl) (fun _ _ _ h => h) (Or.inl ⟨by kernel_rfl, ?_⟩) hHeld ?_
  rotate_left
  · intro w0 hSw; (try dsimp only at hSw); go_simp; (try with_reducible rfl)
  (try dsimp only [Act.put, List.setIfInBounds_toArray, List.set_cons_zero, List.set_cons_succ])
  refine wpAnyH_take (i := 16) (oi := _) (v := ?_) rfl (by kernel_rfl) (by kernel_rfl) (by kernel_rfl) (fun _ _ _ h => h) (Or.inl ⟨by kernel_rfl, ?_⟩) hHeld ?_
  rotate_left
  · intro w0 hSw; (try dsimp only at hSw); go_simp; (try with_reducible rfl)
  (try dsimp only [Act.put, List.setIfInBounds_toArray, List.set_cons_zero, List.set_cons_succ])
  refine wpAnyH_ready (rs := [4, 8, 13]) (by kernel_rfl) (by simp) ?_
  refine AllReadyH.cons (o := _) rfl (fun K hK => ?_) (AllReadyH.cons (o := _) rfl (fun K hK => ?_) (AllReadyH.cons (o := _) rfl (fun K hK => ?_) AllReadyH.nil))
  · go_simp
    refine hK.out _ _ ?_ (fun hHeld => ?_)
    · first | (exact trivial) | ((try dsimp only); exact trivial)
    clear hK K
    (try dsimp only [Act.put, List.setIfInBounds_toArray, List.set_cons_zero, List.set_cons_succ])
    refine wpAnyH_ready (rs := [8, 13]) (by kernel_rfl) (by simp) ?_
    refine AllReadyH.cons (o := _) rfl (fun K hK => ?_) (AllReadyH.cons (o := _) rfl (fun K hK => ?_) AllReadyH.nil)
    · go_simp
      refine hK.out _ _ ?_ (fun hHeld => ?_)
      · first | (exact trivial) | ((try dsimp only); exact trivial)
      clear hK K
      (try dsimp only [Act.put, List.setIfInBounds_toArray, List.set_cons_zero, List.set_cons_succ])
      refine wpAnyH_take (i := 9) (oi := _) (v := ?_) rfl (by kernel_rfl) (by kernel_rfl) (by kernel_rfl) (fun _ _ _ h => h) (Or.inl ⟨by kernel_rfl, ?_⟩) hHeld ?_
      rotate_left
      · intro w0 hSw; (try dsimp only at hSw); go_simp; (try with_reducible rfl)
      (try dsimp only [Act.put, List.setIfInBounds_toArray, List.set_cons_zero, List.set_cons_succ])
      refine wpAnyH_ready (rs := [13]) (by kernel_rfl) (by simp) ?_
      refine AllReadyH.cons (o := _) rfl (fun K hK => ?_) AllReadyH.nil
      go_simp
      refine hK.out _ _ ?_ (fun hHeld => ?_)
      · first | (exact trivial) | ((try dsimp only); exact trivial)
      clear hK K
      (try dsimp only [Act.put, List.setIfInBounds_toArray, List.set_cons_zero, List.set_cons_succ])
      refine wpAnyH_take (i := 14) (oi := _) (v := ?_) rfl (by kernel_rfl) (by kernel_rfl) (by kernel_rfl) (fun _ _ _ h => h) (Or.inl ⟨by kernel_rfl, ?_⟩) hHeld ?_
      rotate_left
      · intro w0 hSw; (try dsimp only at hSw); go_simp; (try with_reducible rfl)
      (try dsimp only [Act.put, List.setIfInBounds_toArray, List.set_cons_zero, List.set_cons_succ])
      refine wpAnyH_take (i := 15) (oi := _) (v := (.slice a m m)) rfl (by kernel_rfl) (by kernel_rfl) (by kernel_rfl) (fun _ _ _ h => h) (Or.inl ⟨by kernel_rfl, ?_⟩) hHeld ?_
      · intro w0 hSw; (try dsimp only at hSw); go_simp <;> (first | done | (rw [hcut]))
      (try dsimp only [Act.put, List.setIfInBounds_toArray, List.set_cons_zero, List.set_cons_succ])
      refine wpAnyH_ready (rs := [17]) (by kernel_rfl) (by simp) ?_
      refine AllReadyH.cons (o := _) rfl (fun K hK => ?_) AllReadyH.nil
      refine step_rowU rfl _ _ _ rfl hrun (by go_simp) (by go_simp) ?_
      refine hK.out _ _ ?_ (fun hHeld => ?_)
      · first | (exact trivial) | ((try dsimp only); exact trivial)
      clear hK K
      (try dsimp only [Act.put, List.setIfInBounds_toArray, List.set_cons_zero, List.set_cons_succ])
      refine wpAnyH_take (i := 18) (oi := _) (v := ?_) rfl (by kernel_rfl) (by kernel_rfl) (by kernel_rfl) (fun _ _ _ h => h) (Or.inl ⟨by kernel_rfl, ?_⟩) hHeld ?_
      rotate_left
      · intro w0 hSw; (try dsimp only at hSw); go_simp; (try with_reducible rfl)
      (try dsimp only [Act.put, List.setIfInBounds_toArray, List.set_cons_zero, List.set_cons_succ])
      refine wpAnyH_take (i := 19) (oi := _) (v := ?_) rfl (by kernel_rfl) (by kernel_rfl) (by kernel_rfl) (fun _ _ _ h => h) (Or.inl ⟨by kernel_rfl, ?_⟩) hHeld ?_
      rotate_left
      · intro w0 hSw; (try dsimp only at hSw); go_simp; (try with_reducible rfl)
      (try dsimp only [Act.put, List.setIfInBounds_toArray, List.set_cons_zero, List.set_cons_succ])
      refine wpAnyH_ready (rs := [20]) (by kernel_rfl) (by simp) ?_
      refine AllReadyH.cons (o := _) rfl (fun K hK => ?_) AllReadyH.nil
      go_simp
      refine hK.out _ _ ?_ (fun hHeld => ?_)
      · first | (exact trivial) | ((try dsimp only); exact trivial)
      clear hK K
      (try dsimp only [Act.put, List.setIfInBounds_toArray, List.set_cons_zero, List.set_cons_succ])
      refine wpAnyH_done (by kernel_rfl) ?_ _
      go_simp
      clear hrun hcut hmc' hb3 ho3 hw1 j0 j1 j2 hHeld
      iterate 12 (try clear hHeld)
      rename_i Kx HKx
      refine HKx _ _ ?_
      clear HKx
      have J4 := Lib.hid (J3.out.set0 (.slice a3 (tx.length + ln.length) cap3))
      have K4 := Lib.hid (KE.out.trans (KJ.set J 0 w3 (.slice a3 (tx.length + ln.length) cap3)))
      have R4 := Lib.hid (R3.out.kj (KJ.set J 0 w3 (.slice a3 (tx.length + ln.length) cap3)) HBK.out)
      clear R3 KE J3 j30 j31 j32 f30 f31 f32 J2 R2 B2 L2
      generalize w3.setCell ⟨J, 0, none⟩ (.slice a3 (tx.length + ln.length) cap3) = w4 at *
      have j41 := J4.out.c1
      have j42 := J4.out.c2
      have f41 := J4.out.fz 1
      have f42 := J4.out.fz 2
      go_wp2_with fail
      (try simp only [Exit.inBlock, Exit.then])
      refine bodyPost_end (results_none rfl _ _ _) rfl ?_
      exact ⟨rfl, (K4.out.trans (KJ.set J 1 w4 (.int .i64 ((n : Int) + 1)))).trans (KJ.set J 2 _ (.int .i64 sm)), a3, _, cap3, by rw [HSM.out]; exact (J4.out.set1 _).set2 _, by rw [HLN.out]; exact (R4.out.kj (KJ.set J 1 w4 (.int .i64 ((n : Int) + 1))) HBK.out).kj (KJ.set J 2 _ (.int .i64 sm)) HBK.out, HBG.out⟩
    · go_simp
      refine hK.out _ _ ?_ (fun hHeld => ?_)
      · first | (exact trivial) | ((try dsimp only); exact trivial)
      clear hK K
      (try dsimp only [Act.put, List.setIfInBounds_toArray, List.set_cons_zero, List.set_cons_succ])
      refine wpAnyH_take (i := 14) (oi := _) (v := ?_) rfl (by kernel_rfl) (by kernel_rfl) (by kernel_rfl) (fun _ _ _ h => h) (Or.inl ⟨by kernel_rfl, ?_⟩) hHeld ?_
      rotate_left
      · intro w0 hSw; (try dsimp only at hSw); go_simp; (try with_reducible rfl)
      (try dsimp only [Act.put, List.setIfInBounds_toArray, List.set_cons_zero, List.set_cons_succ])
      refine wpAnyH_ready (rs := [8]) (by kernel_rfl) (by simp) ?_
      refine AllReadyH.cons (o := _) rfl (fun K hK => ?_) AllReadyH.nil
      go_simp
      refine hK.out _ _ ?_ (fun hHeld => ?_)
      · first | (exact trivial) | ((try dsimp only); exact trivial)
      clear hK K
      (try dsimp only [Act.put, List.setIfInBounds_toArray, List.set_cons_zero, List.set_cons_succ])
      refine wpAnyH_take (i := 9) (oi := _) (v := ?_) rfl (by kernel_rfl) (by kernel_rfl) (by kernel_rfl) (fun _ _ _ h => h) (Or.inl ⟨by kernel_rfl, ?_⟩) hHeld ?_
      rotate_left
      · intro w0 hSw; (try dsimp only at hSw); go_simp; (try with_reducible rfl)
      (try dsimp only [Act.put, List.setIfInBounds_toArray, List.set_cons_zero, List.set_cons_succ])
      refine wpAnyH_take (i := 15) (oi := _) (v := (.slice a m m)) rfl (by kernel_rfl) (by kernel_rfl) (by kernel_rfl) (fun _ _ _ h => h) (Or.inl ⟨by kernel_rfl, ?_⟩) hHeld ?_
      · intro w0 hSw; (try dsimp only at hSw); go_simp <;> (first | done | (rw [hcut]))
      (try dsimp only [Act.put, List.setIfInBounds_toArray, List.set_cons_zero, List.set_cons_succ])
      refine wpAnyH_ready (rs := [17]) (by kernel_rfl) (by simp) ?_
      refine AllReadyH.cons (o := _) rfl (fun K hK => ?_) AllReadyH.nil
      refine step_rowU rfl _ _ _ rfl hrun (by go_simp) (by go_simp) ?_
      refine hK.out _ _ ?_ (fun hHeld => ?_)
      · first | (exact trivial) | ((try dsimp only); exact trivial)
      clear hK K
      (try dsimp only [Act.put, List.setIfInBounds_toArray, List.set_cons_zero, List.set_cons_succ])
      refine wpAnyH_take (i := 18) (oi := _) (v := ?_) rfl (by kernel_rfl) (by kernel_rfl) (by kernel_rfl) (fun _ _ _ h => h) (Or.inl ⟨by kernel_rfl, ?_⟩) hHeld ?_
      rotate_left
      · intro w0 hSw; (try dsimp only at hSw); go_simp; (try with_reducible rfl)
      (try dsimp only [Act.put, List.setIfInBounds_toArray, List.set_cons_zero, List.set_cons_succ])
      refine wpAnyH_take (i := 19) (oi := _) (v := ?_) rfl (by kernel_rfl) (by kernel_rfl) (by kernel_rfl) (fun _ _ _ h => h) (Or.inl ⟨by kernel_rfl, ?_⟩) hHeld ?_
      rotate_left
      · intro w0 hSw; (try dsimp only at hSw); go_simp; (try with_reducible rfl)
      (try dsimp only [Act.put, List.setIfInBounds_toArray, List.set_cons_zero, List.set_cons_succ])
      refine wpAnyH_ready (rs := [20]) (by kernel_rfl) (by simp) ?_
      refine AllReadyH.cons (o := _) rfl (fun K hK => ?_) AllReadyH.nil
      go_simp
      refine hK.out _ _ ?_ (fun hHeld => ?_)
      · first | (exact trivial) | ((try dsimp only); exact trivial)
      clear hK K
      (try dsimp only [Act.put, List.setIfInBounds_toArray, List.set_cons_zero, List.set_cons_succ])
      refine wpAnyH_done (by kernel_rfl) ?_ _
      go_simp
      clear hrun hcut hmc' hb3 ho3 hw1 j0 j1 j2 hHeld
      iterate 12 (try clear hHeld)
      rename_i Kx HKx
      refine HKx _ _ ?_
      clear HKx
      have J4 := Lib.hid (J3.out.set0 (.slice a3 (tx.length + ln.length) cap3))
      have K4 := Lib.hid (KE.out.trans (KJ.set J 0 w3 (.slice a3 (tx.length + ln.length) cap3)))
      have R4 := Lib.hid (R3.out.kj (KJ.set J 0 w3 (.slice a3 (tx.length + ln.length) cap3)) HBK.out)
      clear R3 KE J3 j30 j31 j32 f30 f31 f32 J2 R2 B2 L2
      generalize w3.setCell ⟨J, 0, none⟩ (.slice a3 (tx.length + ln.length) cap3) = w4 at *
      have j41 := J4.out.c1
      have j42 := J4.out.c2
      have f41 := J4.out.fz 1
      have f42 := J4.out.fz 2
      go_wp2_with fail
      (try simp only [Exit.inBlock, Exit.then])
      refine bodyPost_end (results_none rfl _ _ _) rfl ?_
      exact ⟨rfl, (K4.out.trans (KJ.set J 1 w4 (.int .i64 ((n : Int) + 1)))).trans (KJ.set J 2 _ (.int .i64 sm)), a3, _, cap3, by rw [HSM.out]; exact (J4.out.set1 _).set2 _, by rw [HLN.out]; exact (R4.out.kj (KJ.set J 1 w4 (.int .i64 ((n : Int) + 1))) HBK.out).kj (KJ.set J 2 _ (.int .i64 sm)) HBK.out, HBG.out⟩
  · go_simp
    refine hK.out _ _ ?_ (fun hHeld => ?_)
    · first | (exact trivial) | ((try dsimp only); exact trivial)
    clear hK K
    (try dsimp only [Act.put, List.setIfInBounds_toArray, List.set_cons_zero, List.set_cons_succ])
    refine wpAnyH_take (i := 9) (oi := _) (v := ?_) rfl (by kernel_rfl) (by kernel_rfl) (by kernel_rfl) (fun _ _ _ h => h) (Or.inl ⟨by kernel_rfl, ?_⟩) hHeld ?_
    rotate_left
    · intro w0 hSw; (try dsimp only at hSw); go_simp; (try with_reducible rfl)
    (try dsimp only [Act.put, List.setIfInBounds_toArray, List.set_cons_zero, List.set_cons_succ])
    refine wpAnyH_ready (rs := [4, 13]) (by kernel_rfl) (by simp) ?_
    refine AllReadyH.cons (o := _) rfl (fun K hK => ?_) (AllReadyH.cons (o := _) rfl (fun K hK => ?_) AllReadyH.nil)
    · go_simp
      refine hK.out _ _ ?_ (fun hHeld => ?_)
      · first | (exact trivial) | ((try dsimp only); exact trivial)
      clear hK K
      (try dsimp only [Act.put, List.setIfInBounds_toArray, List.set_cons_zero, List.set_cons_succ])
      refine wpAnyH_ready (rs := [13]) (by kernel_rfl) (by simp) ?_
      refine AllReadyH.cons (o := _) rfl (fun K hK => ?_) AllReadyH.nil
      go_simp
      refine hK.out _ _ ?_ (fun hHeld => ?_)
      · first | (exact trivial) | ((try dsimp only); exact trivial)
      clear hK K
      (try dsimp only [Act.put, List.setIfInBounds_toArray, List.set_cons_zero, List.set_cons_succ])
      refine wpAnyH_take (i := 14) (oi := _) (v := ?_) rfl (by kernel_rfl) (by kernel_rfl) (by kernel_rfl) (fun _ _ _ h => h) (Or.inl ⟨by kernel_rfl, ?_⟩) hHeld ?_
      rotate_left
      · intro w0 hSw; (try dsimp only at hSw); go_simp; (try with_reducible rfl)
      (try dsimp only [Act.put, List.setIfInBounds_toArray, List.set_cons_zero, List.set_cons_succ])
      refine wpAnyH_take (i := 15) (oi := _) (v := (.slice a m m)) rfl (by kernel_rfl) (by kernel_rfl) (by kernel_rfl) (fun _ _ _ h => h) (Or.inl ⟨by kernel_rfl, ?_⟩) hHeld ?_
      · intro w0 hSw; (try dsimp only at hSw); go_simp <;> (first | done | (rw [hcut]))
      (try dsimp only [Act.put, List.setIfInBounds_toArray, List.set_cons_zero, List.set_cons_succ])
      refine wpAnyH_ready (rs := [17]) (by kernel_rfl) (by simp) ?_
      refine AllReadyH.cons (o := _) rfl (fun K hK => ?_) AllReadyH.nil
      refine step_rowU rfl _ _ _ rfl hrun (by go_simp) (by go_simp) ?_
      refine hK.out _ _ ?_ (fun hHeld => ?_)
      · first | (exact trivial) | ((try dsimp only); exact trivial)
      clear hK K
      (try dsimp only [Act.put, List.setIfInBounds_toArray, List.set_cons_zero, List.set_cons_succ])
      refine wpAnyH_take (i := 18) (oi := _) (v := ?_) rfl (by kernel_rfl) (by kernel_rfl) (by kernel_rfl) (fun _ _ _ h => h) (Or.inl ⟨by kernel_rfl, ?_⟩) hHeld ?_
      rotate_left
      · intro w0 hSw; (try dsimp only at hSw); go_simp; (try with_reducible rfl)
      (try dsimp only [Act.put, List.setIfInBounds_toArray, List.set_cons_zero, List.set_cons_succ])
      refine wpAnyH_take (i := 19) (oi := _) (v := ?_) rfl (by kernel_rfl) (by kernel_rfl) (by kernel_rfl) (fun _ _ _ h => h) (Or.inl ⟨by kernel_rfl, ?_⟩) hHeld ?_
      rotate_left
      · intro w0 hSw; (try dsimp only at hSw); go_simp; (try with_reducible rfl)
      (try dsimp only [Act.put, List.setIfInBounds_toArray, List.set_cons_zero, List.set_cons_succ])
      refine wpAnyH_ready (rs := [20]) (by kernel_rfl) (by simp) ?_
      refine AllReadyH.cons (o := _) rfl (fun K hK => ?_) AllReadyH.nil
      go_simp
      refine hK.out _ _ ?_ (fun hHeld => ?_)
      · first | (exact trivial) | ((try dsimp only); exact trivial)
      clear hK K
      (try dsimp only [Act.put, List.setIfInBounds_toArray, List.set_cons_zero, List.set_cons_succ])
      refine wpAnyH_done (by kernel_rfl) ?_ _
      go_simp
      clear hrun hcut hmc' hb3 ho3 hw1 j0 j1 j2 hHeld
      iterate 12 (try clear hHeld)
      rename_i Kx HKx
      refine HKx _ _ ?_
      clear HKx
      have J4 := Lib.hid (J3.out.set0 (.slice a3 (tx.length + ln.length) cap3))
      have K4 := Lib.hid (KE.out.trans (KJ.set J 0 w3 (.slice a3 (tx.length + ln.length) cap3)))
      have R4 := Lib.hid (R3.out.kj (KJ.set J 0 w3 (.slice a3 (tx.length + ln.length) cap3)) HBK.out)
      clear R3 KE J3 j30 j31 j32 f30 f31 f32 J2 R2 B2 L2
      generalize w3.setCell ⟨J, 0, none⟩ (.slice a3 (tx.length + ln.length) cap3) = w4 at *
      have j41 := J4.out.c1
      have j42 := J4.out.c2
      have f41 := J4.out.fz 1
      have f42 := J4.out.fz 2
      go_wp2_with fail
      (try simp only [Exit.inBlock, Exit.then])
      refine bodyPost_end (results_none rfl _ _ _) rfl ?_
      exact ⟨rfl, (K4.out.trans (KJ.set J 1 w4 (.int .i64 ((n : Int) + 1)))).trans (KJ.set J 2 _ (.int .i64 sm)), a3, _, cap3, by rw [HSM.out]; exact (J4.out.set1 _).set2 _, by rw [HLN.out]; exact (R4.out.kj (KJ.set J 1 w4 (.int .i64 ((n : Int) + 1))) HBK.out).kj (KJ.set J 2 _ (.int .i64 sm)) HBK.out, HBG.out⟩
    · go_simp
      refine hK.out _ _ ?_ (fun hHeld => ?_)
      · first | (exact trivial) | ((try dsimp only); exact trivial)
      clear hK K
      (try dsimp only [Act.put, List.setIfInBounds_toArray, List.set_cons_zero, List.set_cons_succ])
      refine wpAnyH_take (i := 14) (oi := _) (v := ?_) rfl (by kernel_rfl) (by kernel_rfl) (by kernel_rfl) (fun _ _ _ h => h) (Or.inl ⟨by kernel_rfl, ?_⟩) hHeld ?_
      rotate_left
      · intro w0 hSw; (try dsimp only at hSw); go_simp; (try with_reducible rfl)
      (try dsimp only [Act.put, List.setIfInBounds_toArray, List.set_cons_zero, List.set_cons_succ])
      refine wpAnyH_ready (rs := [4]) (by kernel_rfl) (by simp) ?_
      refine AllReadyH.cons (o := _) rfl (fun K hK => ?_) AllReadyH.nil
      go_simp
      refine hK.out _ _ ?_ (fun hHeld => ?_)
      · first | (exact trivial) | ((try dsimp only); exact trivial)
      clear hK K
      (try dsimp only [Act.put, List.setIfInBounds_toArray, List.set_cons_zero, List.set_cons_succ])
      refine wpAnyH_take (i := 15) (oi := _) (v := (.slice a m m)) rfl (by kernel_rfl) (by kernel_rfl) (by kernel_rfl) (fun _ _ _ h => h) (Or.inl ⟨by kernel_rfl, ?_⟩) hHeld ?_
      · intro w0 hSw; (try dsimp only at hSw); go_simp <;> (first | done | (rw [hcut]))
      (try dsimp only [Act.put, List.setIfInBounds_toArray, List.set_cons_zero, List.set_cons_succ])
      refine wpAnyH_ready (rs := [17]) (by kernel_rfl) (by simp) ?_
      refine AllReadyH.cons (o := _) rfl (fun K hK => ?_) AllReadyH.nil
      refine step_rowU rfl _ _ _ rfl hrun (by go_simp) (by go_simp) ?_
      refine hK.out _ _ ?_ (fun hHeld => ?_)
      · first | (exact trivial) | ((try dsimp only); exact trivial)
      clear hK K
      (try dsimp only [Act.put, List.setIfInBounds_toArray, List.set_cons_zero, List.set_cons_succ])
      refine wpAnyH_take (i := 18) (oi := _) (v := ?_) rfl (by kernel_rfl) (by kernel_rfl) (by kernel_rfl) (fun _ _ _ h => h) (Or.inl ⟨by kernel_rfl, ?_⟩) hHeld ?_
      rotate_left
      · intro w0 hSw; (try dsimp only at hSw); go_simp; (try with_reducible rfl)
      (try dsimp only [Act.put, List.setIfInBounds_toArray, List.set_cons_zero, List.set_cons_succ])
      refine wpAnyH_take (i := 19) (oi := _) (v := ?_) rfl (by kernel_rfl) (by kernel_rfl) (by kernel_rfl) (fun _ _ _ h => h) (Or.inl ⟨by kernel_rfl, ?_⟩) hHeld ?_
      rotate_left
      · intro w0 hSw; (try dsimp only at hSw); go_simp; (try with_reducible rfl)
      (try dsimp only [Act.put, List.setIfInBounds_toArray, List.set_cons_zero, List.set_cons_succ])
      refine wpAnyH_ready (rs := [20]) (by kernel_rfl) (by simp) ?_
      refine AllReadyH.cons (o := _) rfl (fun K hK => ?_) AllReadyH.nil
      go_simp
      refine hK.out _ _ ?_ (fun hHeld => ?_)
      · first | (exact trivial) | ((try dsimp only); exact trivial)
      clear hK K
      (try dsimp only [Act.put, List.setIfInBounds_toArray, List.set_cons_zero, List.set_cons_succ])
      refine wpAnyH_done (by kernel_rfl) ?_ _
      go_simp
      clear hrun hcut hmc' hb3 ho3 hw1 j0 j1 j2 hHeld
      iterate 12 (try clear hHeld)
      rename_i Kx HKx
      refine HKx _ _ ?_
      clear HKx
      have J4 := Lib.hid (J3.out.set0 (.slice a3 (tx.length + ln.length) cap3))
      have K4 := Lib.hid (KE.out.trans (KJ.set J 0 w3 (.slice a3 (tx.length + ln.length) cap3)))
      have R4 := Lib.hid (R3.out.kj (KJ.set J 0 w3 (.slice a3 (tx.length + ln.length) cap3)) HBK.out)
      clear R3 KE J3 j30 j31 j32 f30 f31 f32 J2 R2 B2 L2
      generalize w3.setCell ⟨J, 0, none⟩ (.slice a3 (tx.length + ln.length) cap3) = w4 at *
      have j41 := J4.out.c1
      have j42 := J4.out.c2
      have f41 := J4.out.fz 1
      have f42 := J4.out.fz 2
      go_wp2_with fail
      (try simp only [Exit.inBlock, Exit.then])
      refine bodyPost_end (results_none rfl _ _ _) rfl ?_
      exact ⟨rfl, (K4.out.trans (KJ.set J 1 w4 (.int .i64 ((n : Int) + 1)))).trans (KJ.set J 2 _ (.int .i64 sm)), a3, _, cap3, by rw [HSM.out]; exact (J4.out.set1 _).set2 _, by rw [HLN.out]; exact (R4.out.kj (KJ.set J 1 w4 (.int .i64 ((n : Int) + 1))) HBK.out).kj (KJ.set J 2 _ (.int .i64 sm)) HBK.out, HBG.out⟩
  · go_simp
    refine hK.out _ _ ?_ (fun hHeld => ?_)
    · first | (exact trivial) | ((try dsimp only); exact trivial)
    clear hK K
    (try dsimp only [Act.put, List.setIfInBounds_toArray, List.set_cons_zero, List.set_cons_succ])
    refine wpAnyH_take (i := 14) (oi := _) (v := ?_) rfl (by kernel_rfl) (by kernel_rfl) (by kernel_rfl) (fun _ _ _ h => h) (Or.inl ⟨by kernel_rfl, ?_⟩) hHeld ?_
    rotate_left
    · intro w0 hSw; (try dsimp only at hSw); go_simp; (try with_reducible rfl)
    (try dsimp only [Act.put, List.setIfInBounds_toArray, List.set_cons_zero, List.set_cons_succ])
    refine wpAnyH_ready (rs := [4, 8]) (by kernel_rfl) (by simp) ?_
    refine AllReadyH.cons (o := _) rfl (fun K hK => ?_) (AllReadyH.cons (o := _) rfl (fun K hK => ?_) AllReadyH.nil)
    · go_simp
      refine hK.out _ _ ?_ (fun hHeld => ?_)
      · first | (exact trivial) | ((try dsimp only); exact trivial)
      clear hK K
      (try dsimp only [Act.put, List.setIfInBounds_toArray, List.set_cons_zero, List.set_cons_succ])
      refine wpAnyH_ready (rs := [8]) (by kernel_rfl) (by simp) ?_
      refine AllReadyH.cons (o := _) rfl (fun K hK => ?_) AllReadyH.nil
      go_simp
      refine hK.out _ _ ?_ (fun hHeld => ?_)
      · first | (exact trivial) | ((try dsimp only); exact trivial)
      clear hK K
      (try dsimp only [Act.put, List.setIfInBounds_toArray, List.set_cons_zero, List.set_cons_succ])
      refine wpAnyH_take (i := 9) (oi := _) (v := ?_) rfl (by kernel_rfl) (by kernel_rfl) (by kernel_rfl) (fun _ _ _ h => h) (Or.inl ⟨by kernel_rfl, ?_⟩) hHeld ?_
      rotate_left
      · intro w0 hSw; (try dsimp only at hSw); go_simp; (try with_reducible rfl)
      (try dsimp only [Act.put, List.setIfInBounds_toArray, List.set_cons_zero, List.set_cons_succ])
      refine wpAnyH_take (i := 15) (oi := _) (v := (.slice a m m)) rfl (by kernel_rfl) (by kernel_rfl) (by kernel_rfl) (fun _ _ _ h => h) (Or.inl ⟨by kernel_rfl, ?_⟩) hHeld ?_
      · intro w0 hSw; (try dsimp only at hSw); go_simp <;> (first | done | (rw [hcut]))
      (try dsimp only [Act.put, List.setIfInBounds_toArray, List.set_cons_zero, List.set_cons_succ])
      refine wpAnyH_ready (rs := [17]) (by kernel_rfl) (by simp) ?_
      refine AllReadyH.cons (o := _) rfl (fun K hK => ?_) AllReadyH.nil
      refine step_rowU rfl _ _ _ rfl hrun (by go_simp) (by go_simp) ?_
      refine hK.out _ _ ?_ (fun hHeld => ?_)
      · first | (exact trivial) | ((try dsimp only); exact trivial)
      clear hK K
      (try dsimp only [Act.put, List.setIfInBounds_toArray, List.set_cons_zero, List.set_cons_succ])
      refine wpAnyH_take (i := 18) (oi := _) (v := ?_) rfl (by kernel_rfl) (by kernel_rfl) (by kernel_rfl) (fun _ _ _ h => h) (Or.inl ⟨by kernel_rfl, ?_⟩) hHeld ?_
      rotate_left
      · intro w0 hSw; (try dsimp only at hSw); go_simp; (try with_reducible rfl)
      (try dsimp only [Act.put, List.setIfInBounds_toArray, List.set_cons_zero, List.set_cons_succ])
      refine wpAnyH_take (i := 19) (oi := _) (v := ?_) rfl (by kernel_rfl) (by kernel_rfl) (by kernel_rfl) (fun _ _ _ h => h) (Or.inl ⟨by kernel_rfl, ?_⟩) hHeld ?_
      rotate_left
      · intro w0 hSw; (try dsimp only at hSw); go_simp; (try with_reducible rfl)
      (try dsimp only [Act.put, List.setIfInBounds_toArray, List.set_cons_zero, List.set_cons_succ])
      refine wpAnyH_ready (rs := [20]) (by kernel_rfl) (by simp) ?_
      refine AllReadyH.cons (o := _) rfl (fun K hK => ?_) AllReadyH.nil
      go_simp
      refine hK.out _ _ ?_ (fun hHeld => ?_)
      · first | (exact trivial) | ((try dsimp only); exact trivial)
      clear hK K
      (try dsimp only [Act.put, List.setIfInBounds_toArray, List.set_cons_zero, List.set_cons_succ])
      refine wpAnyH_done (by kernel_rfl) ?_ _
      go_simp
      clear hrun hcut hmc' hb3 ho3 hw1 j0 j1 j2 hHeld
      iterate 12 (try clear hHeld)
      rename_i Kx HKx
      refine HKx _ _ ?_
      clear HKx
      have J4 := Lib.hid (J3.out.set0 (.slice a3 (tx.length + ln.length) cap3))
      have K4 := Lib.hid (KE.out.trans (KJ.set J 0 w3 (.slice a3 (tx.length + ln.length) cap3)))
      have R4 := Lib.hid (R3.out.kj (KJ.set J 0 w3 (.slice a3 (tx.length + ln.length) cap3)) HBK.out)
      clear R3 KE J3 j30 j31 j32 f30 f31 f32 J2 R2 B2 L2
      generalize w3.setCell ⟨J, 0, none⟩ (.slice a3 (tx.length + ln.length) cap3) = w4 at *
      have j41 := J4.out.c1
      have j42 := J4.out.c2
      have f41 := J4.out.fz 1
      have f42 := J4.out.fz 2
      go_wp2_with fail
      (try simp only [Exit.inBlock, Exit.then])
      refine bodyPost_end (results_none rfl _ _ _) rfl ?_
      exact ⟨rfl, (K4.out.trans (KJ.set J 1 w4 (.int .i64 ((n : Int) + 1)))).trans (KJ.set J 2 _ (.int .i64 sm)), a3, _, cap3, by rw [HSM.out]; exact (J4.out.set1 _).set2 _, by rw [HLN.out]; exact (R4.out.kj (KJ.set J 1 w4 (.int .i64 ((n : Int) + 1))) HBK.out).kj (KJ.set J 2 _ (.int .i64 sm)) HBK.out, HBG.out⟩
    · go_simp
      refine hK.out _ _ ?_ (fun hHeld => ?_)
      · first | (exact trivial) | ((try dsimp only); exact trivial)
      clear hK K
      (try dsimp only [Act.put, List.setIfInBounds_toArray, List.set_cons_zero, List.set_cons_succ])
      refine wpAnyH_take (i := 9) (oi := _) (v := ?_) rfl (by kernel_rfl) (by kernel_rfl) (by kernel_rfl) (fun _ _ _ h => h) (Or.inl ⟨by kernel_rfl, ?_⟩) hHeld ?_
      rotate_left
      · intro w0 hSw; (try dsimp only at hSw); go_simp; (try with_reducible rfl)
      (try dsimp only [Act.put, List.setIfInBounds_toArray, List.set_cons_zero, List.set_cons_succ])
      refine wpAnyH_ready (rs := [4]) (by kernel_rfl) (by simp) ?_
      refine AllReadyH.cons (o := _) rfl (fun K hK => ?_) AllReadyH.nil
      go_simp
      refine hK.out _ _ ?_ (fun hHeld => ?_)
      · first | (exact trivial) | ((try dsimp only); exact trivial)
      clear hK K
      (try dsimp only [Act.put, List.setIfInBounds_toArray, List.set_cons_zero, List.set_cons_succ])
      refine wpAnyH_take (i := 15) (oi := _) (v := (.slice a m m)) rfl (by kernel_rfl) (by kernel_rfl) (by kernel_rfl) (fun _ _ _ h => h) (Or.inl ⟨by kernel_rfl, ?_⟩) hHeld ?_
      · intro w0 hSw; (try dsimp only at hSw); go_simp <;> (first | done | (rw [hcut]))
      (try dsimp only [Act.put, List.setIfInBounds_toArray, List.set_cons_zero, List.set_cons_succ])
      refine wpAnyH_ready (rs := [17]) (by kernel_rfl) (by simp) ?_
      refine AllReadyH.cons (o := _) rfl (fun K hK => ?_) AllReadyH.nil
      refine step_rowU rfl _ _ _ rfl hrun (by go_simp) (by go_simp) ?_
      refine hK.out _ _ ?_ (fun hHeld => ?_)
      · first | (exact trivial) | ((try dsimp only); exact trivial)
      clear hK K
      (try dsimp only [Act.put, List.setIfInBounds_toArray, List.set_cons_zero, List.set_cons_succ])
      refine wpAnyH_take (i := 18) (oi := _) (v := ?_) rfl (by kernel_rfl) (by kernel_rfl) (by kernel_rfl) (fun _ _ _ h => h) (Or.inl ⟨by kernel_rfl, ?_⟩) hHeld ?_
      rotate_left
      · intro w0 hSw; (try dsimp only at hSw); go_simp; (try with_reducible rfl)
      (try dsimp only [Act.put, List.setIfInBounds_toArray, List.set_cons_zero, List.set_cons_succ])
      refine wpAnyH_take (i := 19) (oi := _) (v := ?_) rfl (by kernel_rfl) (by kernel_rfl) (by kernel_rfl) (fun _ _ _ h => h) (Or.inl ⟨by kernel_rfl, ?_⟩) hHeld ?_
      rotate_left
      · intro w0 hSw; (try dsimp only at hSw); go_simp; (try with_reducible rfl)
      (try dsimp only [Act.put, List.setIfInBounds_toArray, List.set_cons_zero, List.set_cons_succ])
      refine wpAnyH_ready (rs := [20]) (by kernel_rfl) (by simp) ?_
      refine AllReadyH.cons (o := _) rfl (fun K hK => ?_) AllReadyH.nil
      go_simp
      refine hK.out _ _ ?_ (fun hHeld => ?_)
      · first | (exact trivial) | ((try dsimp only); exact trivial)
      clear hK K
      (try dsimp only [Act.put, List.setIfInBounds_toArray, List.set_cons_zero, List.set_cons_succ])
      refine wpAnyH_done (by kernel_rfl) ?_ _
      go_simp
      clear hrun hcut hmc' hb3 ho3 hw1 j0 j1 j2 hHeld
      iterate 12 (try clear hHeld)
      rename_i Kx HKx
      refine HKx _ _ ?_
      clear HKx
      have J4 := Lib.hid (J3.out.set0 (.slice a3 (tx.length + ln.length) cap3))
      have K4 := Lib.hid (KE.out.trans (KJ.set J 0 w3 (.slice a3 (tx.length + ln.length) cap3)))
      have R4 := Lib.hid (R3.out.kj (KJ.set J 0 w3 (.slice a3 (tx.length + ln.length) cap3)) HBK.out)
      clear R3 KE J3 j30 j31 j32 f30 f31 f32 J2 R2 B2 L2
      generalize w3.setCell ⟨J, 0, none⟩ (.slice a3 (tx.length + ln.length) cap3) = w4 at *
      have j41 := J4.out.c1
      have j42 := J4.out.c2
      have f41 := J4.out.fz 1
      have f42 := J4.out.fz 2
      go_wp2_with fail
      (try simp only [Exit.inBlock, Exit.then])
      refine bodyPost_end (results_none rfl _ _ _) rfl ?_
      exact ⟨rfl, (K4.out.trans (KJ.set J 1 w4 (.int .i64 ((n : Int) + 1)))).trans (KJ.set J 2 _ (.int .i64 sm)), a3, _, cap3, by rw [HSM.out]; exact (J4.out.set1 _).set2 _, by rw [HLN.out]; exact (R4.out.kj (KJ.set J 1 w4 (.int .i64 ((n : Int) + 1))) HBK.out).kj (KJ.set J 2 _ (.int .i64 sm)) HBK.out, HBG.out⟩
theorem jb_new (w : World) : JB (w.alloc (.cells #[.slice none 0 0, .int .i64 0, .int .i64 0] JT)) w.heap.size (.slice none 0 0) 0 0 := ⟨heap_alloc_new w _⟩
theorem rowU_nil (w : World) : RowU w none 0 0 [] := ⟨rfl, Nat.le_refl _, fun _ => rfl, by omega, fun ad e => by cases e⟩
set_option maxHeartbeats 4000000 in
set_option maxRecDepth 100000 in
theorem implJournalOf_any {w : World} {a : Option Addr} {n cap : Nat} {L : List (Int × Int)} (h : RecsAt w a n L) (htab : Tab w) :
    Calls Tryd.prog 12 #[.slice a n cap] w fun e w' => e = .returned (.tuple #[.string (str (jofR L)), .int .i64 (recsC L)]) ∧ Below w.heap.size w w' := by
  have H := Lib.hid h
  have hl := Lib.hid h.len
  have HT := Lib.hid (fun w' (hb : Below w.heap.size w w') => tab_below htab hb)
  clear h htab
  go_enter Tryd.func12, Tryd.ntmps12
  go_wp2_with fail
  refine (recordsCode_any H.out).mono ?_
  rintro e w1 ⟨rfl, hb1⟩
  have B1 := Lib.hid hb1
  clear hb1
  by_cases hc : recsC L = 0
  rotate_left
  · have hne : (recsC L != 0) = true := by simp [hc]
    have HR := Lib.hid (jofR_bad hc)
    obtain ⟨cd, hcd⟩ : ∃ cd, recsC L = cd := ⟨_, rfl⟩
    rw [hcd] at hne ⊢
    have HCD := Lib.hid hcd
    clear hc hcd
    go_wp2_with fail
    go_ret2
    exact ⟨by rw [HR.out, HCD.out]; rfl, B1.out⟩
  obtain ⟨h300, hv⟩ := recsC_zero hc
  have HC := Lib.hid hc
  have HR := Lib.hid (jofR_ok hc)
  have HLE := Lib.hid (fun k (hk : k ≤ n) => jouL_le hv (k := k) (by rw [hl.out]; exact hk) (by omega))
  rw [hl.out] at h300 hv
  have HV := Lib.hid hv
  rw [hc]
  clear hc hv
  have J0 := Lib.hid (jb_new w1)
  have B2 := Lib.hid (B1.out.alloc B1.out.size (.cells #[.slice none 0 0, .int .i64 0, .int .i64 0] JT))
  obtain ⟨J, hJ⟩ : ∃ J, J = w1.heap.size := ⟨_, rfl⟩
  have hwJ : w.heap.size ≤ J := by rw [hJ]; exact B1.out.size
  rw [← hJ] at J0
  go_wp2_with fail
  rw [← hJ]
  clear hJ
  generalize w1.alloc (.cells #[.slice none 0 0, .int .i64 0, .int .i64 0] JT) = w2 at *
  have R0 := Lib.hid (rowU_nil w2)
  go_loopw [17] (fun ti wr => ∃ (k : Nat) (ja : Option Addr) (m cp : Nat), k ≤ n ∧ ti = .int .i64 k ∧ Hid (JB wr J (.slice ja m cp) (k : Int) (jouL L k).2) ∧ Hid (RowU wr ja m cp (jouL L k).1) ∧ Hid (Below w.heap.size w wr)) (fun ti _ => n - (intOf ti).toNat)
  case atStart => exact ⟨0, none, 0, 0, by omega, rfl, J0, R0, B2⟩
  case round =>
    clear J0 R0 B2
    obtain ⟨k, ja, m, cp, hk, rfl, hj, hr, hb⟩ := hrel
    by_cases hlt : k < n
    · obtain ⟨b1, o1, rfl, hb1, hcs⟩ := (H.out.below hb.out).at' (by omega)
      obtain ⟨hc0, hc1⟩ := hcs k hlt
      have hvk := HV.out k hlt
      have hs0 := jouL_sum L k
      have hlk := HLE.out k hk
      have hml := hr.out.len
      have HJ1 := Lib.hid (show (jouL L (k + 1)).1 = (jouL L k).1 ++ (lineL (k : Int) (gr L k) (jouL L k).2 ++ [10]) from rfl)
      have HJ2 := Lib.hid (show (jouL L (k + 1)).2 = sumL (jouL L k).2 (bodyL (k : Int) (gr L k)) from rfl)
      clear hcs
      generalize gr L k = r at *
      obtain ⟨x, y⟩ := r
      dsimp only at hc0 hc1 hvk
      have BX := below1 wr (.cells #[.int .i64 x, .int .i64 y] 36)
      have J3 := Lib.hid (hj.out.below BX hj.out.lt)
      have R3 := Lib.hid (hr.out.below BX)
      have B3 := Lib.hid (hb.out.trans (BX.mono hb.out.size))
      have T3 := Lib.hid (HT.out _ B3.out)
      have hm1 : m ≤ 1000000 := by omega
      clear BX hml hlk hj hr hb
      go_wp2_with fail
      refine (add_any k (by omega) hvk hs0.1 hs0.2 J3.out R3.out hm1 T3.out).mono ?_
      rintro e w4 ⟨rfl, hk4, ja', m', cp', hj4, hr4, -⟩
      have J4 := Lib.hid hj4
      have R4 := Lib.hid hr4
      have B4 := Lib.hid (B3.out.trans (hk4.below hwJ B3.out.size))
      rw [← HJ1.out] at R4
      rw [← HJ2.out] at J4
      clear hj4 hr4 hk4 J3 R3 B3 T3
      go_wp2_with fail
      go_roundw
      case rel => exact ⟨k + 1, ja', m', cp', by omega, by go_num, by have := J4.out; exact Lib.hid (by push_cast; exact this), R4, B4⟩
      case measure => simp [intOf]; omega
    · obtain rfl : k = n := by omega
      have hcv := run_str hr.out
      have c0 := hj.out.c0
      go_wp2_with fail
      go_ret2
      exact ⟨by rw [HR.out, hl.out, HC.out]; rfl, hb.out⟩
end Go.Proofs.YtmbphpmabopifaaDoor
