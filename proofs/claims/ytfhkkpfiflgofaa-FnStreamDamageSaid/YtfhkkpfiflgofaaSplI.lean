/-
  The implementation's split: the words of a stream.
-/
import Derived.Test.YtfhkkpfiflgofaaOrdI
import Derived.Test.YtfhkkpfiflgofaaStrD
import Derived.Test.YtfhkkpfiflgofaaRag
import Derived.Test.YtfhkkpfiflgofaaRnd
import Derived.RangeFuncBox
namespace Go.Proofs.Ytfhkkpfiflgofaa
open Go.RowKit
set_option linter.unusedVariables false
attribute [local go_sem] Oper.semAt_some

theorem kept_cells {W : World} {base size k : Nat} {e : TypeId} {v : Value} {xs : List Value} (h : W.ownsRow base e size v k xs) {row : Option Nat} (hr : ∀ r, row = some r → ∃ o : Obj, W.heap[r]? = some o ∧ o.isCells = false) : v.ownBlock = none ∨ v.ownBlock ≠ row := by
  rcases h.2 with ⟨rfl, _⟩ | ⟨g, cap, cur, rfl, _, hgb, _⟩
  · exact .inl rfl
  · refine .inr fun e' => ?_
    obtain ⟨o, ho, hc⟩ := hr g (by simpa [Value.ownBlock] using e'.symm)
    rw [hgb] at ho; cases ho; cases hc
theorem rag_own {β : Type} (B : Nat) (v : Value) (m k : Nat) (G cp : Nat → Nat) (L : β → Nat → List Int) : Go.Own (fun (s : β) (W : World) => Rag W B v m k G cp (L s)) := fun s X Y row h hg hr =>
  ⟨Nat.le_trans h.size hg.size, h.top.kept hg (kept_cells h.top hr), fun j hj => ⟨Nat.le_trans h.size hg.size, (h.own j hj).2.kept hg (kept_cells (h.own j hj).2 hr)⟩, h.ne, h.inj, h.km⟩
theorem own_atS {β : Type} (B : Nat) (f : β → Obj) (hc : ∀ s, (f s).isCells = true) : Go.Own (fun (s : β) (W : World) => W.heap[B]? = some (f s)) := fun s X Y row h hg hr => by
  have hlt : B < X.heap.size := (Array.getElem?_eq_some_iff.1 h).1
  refine (hg.block B hlt (fun e => ?_)).trans h
  obtain ⟨o, ho, hn⟩ := hr B e.symm
  rw [h] at ho; cases ho
  rw [hc s] at hn; cases hn
/-- What the words hold when the places l have come, each with its element. -/
def wfN (s : List Int) (len : Nat → Nat) (l : List (Nat × Nat)) : Nat → Nat → List Int
  | 0, b => List.replicate (len b) 0
  | i + 1, b => if b = (l.getD i (0, 0)).1 then (wfN s len l i b).set (l.getD i (0, 0)).2 (gi s i) else wfN s len l i b
def wfL (s : List Int) (len : Nat → Nat) (l : List (Nat × Nat)) : Nat → List Int := wfN s len l l.length
theorem wfN_len (s : List Int) (len : Nat → Nat) (l : List (Nat × Nat)) (b : Nat) : ∀ i, (wfN s len l i b).length = len b
  | 0 => by unfold wfN; simp
  | i + 1 => by
    unfold wfN
    split
    · rw [List.length_set]; exact wfN_len s len l b i
    · exact wfN_len s len l b i
theorem wfN_pre (s : List Int) (len : Nat → Nat) (l m : List (Nat × Nat)) : ∀ i, i ≤ l.length → wfN s len (l ++ m) i = wfN s len l i
  | 0, _ => rfl
  | i + 1, h => by
    funext b
    unfold wfN
    have e : (l ++ m).getD i (0, 0) = l.getD i (0, 0) := by
      rw [List.getD_eq_getElem?_getD, List.getD_eq_getElem?_getD, List.getElem?_append_left (by omega)]
    rw [e, wfN_pre s len l m i (by omega)]
theorem wfL_snoc (s : List Int) (len : Nat → Nat) (l : List (Nat × Nat)) (x : Nat × Nat) (b : Nat) : wfL s len (l ++ [x]) b = if b = x.1 then (wfL s len l b).set x.2 (gi s l.length) else wfL s len l b := by
  unfold wfL
  rw [List.length_append]
  show wfN s len (l ++ [x]) (l.length + 1) b = _
  have e : (l ++ [x]).getD l.length (0, 0) = x := by
    rw [List.getD_eq_getElem?_getD, List.getElem?_append_right (Nat.le_refl _), Nat.sub_self]; rfl
  rw [wfN, e, wfN_pre s len l [x] l.length (Nat.le_refl _)]
theorem wfN_spl {o : List (Nat × Nat)} (hn : o.Nodup) (s : List Int) (len : Nat → Nat) (b : Nat) : ∀ i, i ≤ o.length → wfN s len o i b = splR o s i b (len b)
  | 0, _ => by unfold wfN; exact (splR_zero _ _ _ _).symm
  | i + 1, h => by
    have hi : i < o.length := by omega
    have e : o.getD i (0, 0) = o[i] := by rw [List.getD_eq_getElem?_getD, List.getElem?_eq_getElem hi]; rfl
    unfold wfN
    rw [e, wfN_spl hn s len b i (by omega)]
    split
    · rename_i hb; subst hb; exact (splR_step hn s hi _).symm
    · rename_i hb; exact (splR_other hn s hi hb _).symm
theorem setCell_at {W : World} {B H o : Nat} {v : Value} (h : B ≠ H) : (W.setCell ⟨H, o, none⟩ v).heap[B]? = W.heap[B]? := Below.heap_setCell _ _ _ _ h

set_option maxHeartbeats 8000000 in
set_option maxRecDepth 100000 in
theorem split_any (p pw g : Int) {D C N : Int} {q r n c : Nat} (hl : LN D C N q r n c) (htot : q * n + r + n * c ≤ 1500) (w : World) {a : Option Addr} {m cap : Nat} {zs : List Int} (hr : RowAt w a m zs) (hm : m = (ordS q r n c).length) :
    Calls Try.prog 94 #[lV p pw g D C N, .slice a m cap] w fun e w' => ∃ v, e = .returned v ∧ Below w.heap.size w w' ∧ ∃ G cp, Rag w' w.heap.size v n n G cp (wB q r n c zs) := by
  have HL := Lib.hid hl
  have HR := Lib.hid hr
  have HM := Lib.hid hm
  have hq := hl.qle
  have hq1 := hl.q1
  have hn1 := hl.n1
  have hn16 := hl.n16
  have hrn := hl.rn
  have hc64 := hl.c64
  have hc1 := hl.c1
  have HTOT := Lib.hid htot
  have HLT := Lib.hid (ordS_length q r n c (Nat.le_of_lt hrn))
  have HSH := Lib.hid (shN_le q r n)
  obtain rfl : N = (n : Int) := hl.hN
  obtain rfl : C = (c : Int) := hl.hC
  have hMpos : 0 < (ordS q r n c).length := by rw [HLT.out]; have : 0 < n * q := Nat.mul_pos (by omega) (by omega); omega
  have hM15 : (ordS q r n c).length ≤ 1500 := by rw [HLT.out]; have h3 : n * q = q * n := Nat.mul_comm _ _; omega
  have hmpos : 0 < m := by omega
  obtain ⟨ba, oa, rfl, hba, -⟩ := hr.at' hmpos
  have hmb : m ≤ 1500 := by omega
  clear hl hr htot hm hM15 hMpos
  have L0 := LB.new w p pw g D c n
  have b0 := below1 w (.cells #[.int .i64 p, .int .i64 pw, .int .i64 g, .int .i64 D, .int .i64 (c : Int), .int .i64 (n : Int)] LT)
  have s0 : (w.alloc (.cells #[.int .i64 p, .int .i64 pw, .int .i64 g, .int .i64 D, .int .i64 (c : Int), .int .i64 (n : Int)] LT)).heap.size = w.heap.size + 1 := by simp
  have b1 := below1 (w.alloc (.cells #[.int .i64 p, .int .i64 pw, .int .i64 g, .int .i64 D, .int .i64 (c : Int), .int .i64 (n : Int)] LT)) (.cells #[.slice (some ⟨ba, oa, none⟩) m cap] 26)
  have X1 := Boxed.new (w.alloc (.cells #[.int .i64 p, .int .i64 pw, .int .i64 g, .int .i64 D, .int .i64 (c : Int), .int .i64 (n : Int)] LT)) 26 (.slice (some ⟨ba, oa, none⟩) m cap)
  rw [s0] at X1
  have s1 : ((w.alloc (.cells #[.int .i64 p, .int .i64 pw, .int .i64 g, .int .i64 D, .int .i64 (c : Int), .int .i64 (n : Int)] LT)).alloc (.cells #[.slice (some ⟨ba, oa, none⟩) m cap] 26)).heap.size = w.heap.size + 2 := by simp
  have XS := Lib.hid X1
  have L1 := Lib.hid (L0.below b1 (by omega))
  have B1 := Lib.hid (b0.trans (b1.mono (by omega)))
  obtain ⟨w1, hw1⟩ : ∃ w1, (w.alloc (.cells #[.int .i64 p, .int .i64 pw, .int .i64 g, .int .i64 D, .int .i64 (c : Int), .int .i64 (n : Int)] LT)).alloc (.cells #[.slice (some ⟨ba, oa, none⟩) m cap] 26) = w1 := ⟨_, rfl⟩
  rw [hw1] at XS L1 B1 s1
  obtain ⟨X0, hX0⟩ : ∃ X0, w1.heap.size = X0 := ⟨_, rfl⟩
  rw [hX0] at s1
  refine (callsIn_wide (n := 3)).1 ?_
  refine callsIn_of_wp_marks Try.func94 rfl trivial ?_ rfl
  simp only [Try.ntmps94, List.size_toArray, List.length_cons, List.length_nil, Nat.reduceAdd, Nat.reduceSub, Array.replicate_succ, Array.replicate_zero, List.push_toArray, List.append_toArray, List.nil_append, List.cons_append]
  refine wpIn_wide.2 ?_
  have hlt0 : w.heap.size + 1 < X0 := by omega
  have hmk := fun w => run_make_rows w n (by omega)
  have k5 : (w1.cell? ⟨w.heap.size, 5, none⟩) = some (.int .i64 (n : Int)) := L1.out.c5
  have R4 := Lib.hid (Rag.made w1 X0 (by omega) n (by omega) X0 hX0.symm (fun _ => 0) (fun _ => 0) (fun b => splR (ordS q r n c) zs 0 b (shN q r n b + c)))
  have b4 := below1 w1 (.cells (madeCells #[.slice none 0 0] n) 26)
  have s4 : (w1.alloc (.cells (madeCells #[.slice none 0 0] n) 26)).heap.size = X0 + 1 := by simp [hX0]
  have b5 := below1 (w1.alloc (.cells (madeCells #[.slice none 0 0] n) 26)) (.cells #[.slice (some ⟨X0, 0, none⟩) n n] 55)
  have X5 := Boxed.new (w1.alloc (.cells (madeCells #[.slice none 0 0] n) 26)) 55 (.slice (some ⟨X0, 0, none⟩) n n)
  rw [s4] at X5
  have X6 := Lib.hid X5
  have R6 := Lib.hid (R4.out.below b5)
  have L6 := Lib.hid ((L1.out.below b4 (by rw [hX0]; omega)).below b5 (by omega))
  have XS6 := Lib.hid (show Boxed ((w1.alloc (.cells (madeCells #[.slice none 0 0] n) 26)).alloc (.cells #[.slice (some ⟨X0, 0, none⟩) n n] 55)) (w.heap.size + 1) 26 (.slice (some ⟨ba, oa, none⟩) m cap) from (XS.out.alloc _).alloc _)
  rw [hX0] at b4
  have B6 := Lib.hid ((b4 : Below X0 w1 _).trans (b5.mono (by omega)))
  have HS1 := Lib.hid s1
  clear R4 b4 b5 X5 L0 b0 b1 X1 s0 s1
  go_wp2_with fail
  (try rw [hw1])
  clear hw1
  go_wp2_with fail
  obtain ⟨w6, hw6⟩ : ∃ w6, (w1.alloc (.cells (madeCells #[.slice none 0 0] n) 26)).alloc (.cells #[.slice (some ⟨X0, 0, none⟩) n n] 55) = w6 := ⟨_, rfl⟩
  rw [hw6] at X6 R6 L6 XS6 B6
  (try rw [hw6])
  have HX0 := Lib.hid hX0
  clear hmk k5 hw6 hX0
  go_loopw [15] (fun t wr => ∃ (k : Nat) (G cp : Nat → Nat), k ≤ n ∧ t = .int .i64 k ∧ Hid (Rag wr X0 (.slice (some ⟨X0, 0, none⟩) n n) n k G cp (fun b => splR (ordS q r n c) zs 0 b (shN q r n b + c))) ∧ Hid (Boxed wr (X0 + 1) 55 (.slice (some ⟨X0, 0, none⟩) n n)) ∧ Hid (Below X0 w1 wr)) (fun t _ => n - (intOf t).toNat)
  case atStart => exact ⟨0, _, _, by omega, rfl, R6, X6, B6⟩
  case round =>
    clear R6 X6 L6 XS6 B6
    obtain ⟨k, G, cp, hk, rfl, hR, hX, hB⟩ := hrel
    have hL := Lib.hid (L1.out.below hB.out (by omega))
    have k0 := hL.out.c0
    have k1 := hL.out.c1
    have k2 := hL.out.c2
    have k3 := hL.out.c3
    have k4 := hL.out.c4
    have k5 := hL.out.c5
    by_cases hkn : k < n
    · have hki : (k : Int) < (n : Int) := by omega
      have HSZ := Lib.hid (fun W => share_any p pw g HL.out k _ rfl (show k ≤ 1000 by omega) W)
      obtain ⟨hs1, hs2⟩ := HSH.out k
      have HSP := Lib.hid (fun len : Nat => splR_zero (ordS q r n c) zs k len)
      have HSL := Lib.hid (fun len : Nat => splR_length (ordS q r n c) zs 0 k len)
      obtain ⟨Sk, hSk⟩ : ∃ Sk, shN q r n k = Sk := ⟨_, rfl⟩
      have HSK := Lib.hid hSk
      rw [hSk] at hs1 hs2 HSZ
      have htn : ((Sk : Int) + (c : Int)).toNat = Sk + c := by omega
      have hmk := fun w => run_make_ints w 26 Try.underlying26 ((Sk : Int) + (c : Int)) (by omega) (by omega)
      rw [htn] at hmk
      have hsc : Sk + c ≤ 16777216 := by omega
      have y1 : -1000000 ≤ (Sk : Int) + (c : Int) ∧ (Sk : Int) + (c : Int) ≤ 1000000 := by omega
      have xc := hX.out.cell
      have ne1 : X0 ≠ X0 + 1 := by omega
      have ne2 : X0 ≠ w.heap.size := by omega
      clear htn hSk
      obtain ⟨v1, v2⟩ := wraps y1
      clear y1
      go_wp2_with fail
      refine wp_region_noPanic ?_
      refine wp_region_S (S := (fun w' => w'.cell? ⟨X0 + 1, 0, none⟩ = some (.slice (some ⟨X0, 0, none⟩) n n) ∧ w'.cell? ⟨w.heap.size, 0, none⟩ = some (.int .i64 p) ∧ w'.cell? ⟨w.heap.size, 1, none⟩ = some (.int .i64 pw) ∧ w'.cell? ⟨w.heap.size, 2, none⟩ = some (.int .i64 g) ∧ w'.cell? ⟨w.heap.size, 3, none⟩ = some (.int .i64 D) ∧ w'.cell? ⟨w.heap.size, 4, none⟩ = some (.int .i64 (c : Int)) ∧ w'.cell? ⟨w.heap.size, 5, none⟩ = some (.int .i64 (n : Int)))) 11 rfl (by kernel_rfl) ?_ (fun hHeld => ?_)
      · (try dsimp only); exact ⟨xc, k0, k1, k2, k3, k4, k5⟩
      refine wpAnyH_take (i := 0) (oi := _) (v := ?_) rfl (by kernel_rfl) (by kernel_rfl) (by kernel_rfl) (fun _ _ _ h => h) (Or.inl ⟨by rfl, ?_⟩) hHeld ?_
      rotate_left
      · intro w0 hSw; (try dsimp only at hSw); go_simp; (try with_reducible rfl)
      (try dsimp only [Act.put, List.setIfInBounds_toArray, List.set_cons_zero, List.set_cons_succ])
      refine wpAnyH_take (i := 1) (oi := _) (v := ?_) rfl (by kernel_rfl) (by kernel_rfl) (by kernel_rfl) (fun _ _ _ h => h) (Or.inl ⟨by rfl, ?_⟩) hHeld ?_
      rotate_left
      · intro w0 hSw; (try dsimp only at hSw); go_simp; (try with_reducible rfl)
      (try dsimp only [Act.put, List.setIfInBounds_toArray, List.set_cons_zero, List.set_cons_succ])
      refine wpAnyH_take (i := 2) (oi := _) (v := ?_) rfl (by kernel_rfl) (by kernel_rfl) (by kernel_rfl) (fun _ _ _ h => h) (Or.inl ⟨by rfl, ?_⟩) hHeld ?_
      rotate_left
      · intro w0 hSw; (try dsimp only at hSw); go_simp; (try with_reducible rfl)
      (try dsimp only [Act.put, List.setIfInBounds_toArray, List.set_cons_zero, List.set_cons_succ])
      refine wpAnyH_take (i := 3) (oi := _) (v := ?_) rfl (by kernel_rfl) (by kernel_rfl) (by kernel_rfl) (fun _ _ _ h => h) (Or.inl ⟨by rfl, ?_⟩) hHeld ?_
      rotate_left
      · intro w0 hSw; (try dsimp only at hSw); go_simp; (try with_reducible rfl)
      (try dsimp only [Act.put, List.setIfInBounds_toArray, List.set_cons_zero, List.set_cons_succ])
      refine wpAnyH_take (i := 5) (oi := _) (v := ?_) rfl (by kernel_rfl) (by kernel_rfl) (by kernel_rfl) (fun _ _ _ h => h) (Or.inl ⟨by rfl, ?_⟩) hHeld ?_
      rotate_left
      · intro w0 hSw; (try dsimp only at hSw); go_simp; (try with_reducible rfl)
      (try dsimp only [Act.put, List.setIfInBounds_toArray, List.set_cons_zero, List.set_cons_succ])
      refine wpAnyH_take (i := 6) (oi := _) (v := ?_) rfl (by kernel_rfl) (by kernel_rfl) (by kernel_rfl) (fun _ _ _ h => h) (Or.inl ⟨by rfl, ?_⟩) hHeld ?_
      rotate_left
      · intro w0 hSw; (try dsimp only at hSw); go_simp; (try with_reducible rfl)
      (try dsimp only [Act.put, List.setIfInBounds_toArray, List.set_cons_zero, List.set_cons_succ])
      refine wpAnyH_ready (rs := [4]) (by kernel_rfl) (by simp) ?_
      refine AllReadyH.cons (o := _) rfl (fun K hK => ?_) AllReadyH.nil
      go_simp
      refine (HSZ.out _).mono ?_
      rintro e w7 ⟨rfl, hbK⟩
      go_wp2_with fail
      refine hK.out _ _ ?_ (fun hHeld => ?_)
      · (try dsimp only); exact ⟨keep_cell hbK hHeld.1, keep_cell hbK hHeld.2.1, keep_cell hbK hHeld.2.2.1, keep_cell hbK hHeld.2.2.2.1, keep_cell hbK hHeld.2.2.2.2.1, keep_cell hbK hHeld.2.2.2.2.2.1, keep_cell hbK hHeld.2.2.2.2.2.2⟩
      clear hK K
      (try dsimp only [Act.put, List.setIfInBounds_toArray, List.set_cons_zero, List.set_cons_succ])
      refine wpAnyH_take (i := 7) (oi := _) (v := ?_) rfl (by kernel_rfl) (by kernel_rfl) (by kernel_rfl) (fun _ _ _ h => h) (Or.inl ⟨by rfl, ?_⟩) hHeld ?_
      rotate_left
      · intro w0 hSw; (try dsimp only at hSw); go_simp; (try with_reducible rfl)
      (try dsimp only [Act.put, List.setIfInBounds_toArray, List.set_cons_zero, List.set_cons_succ])
      refine wpAnyH_ready (rs := [8]) (by kernel_rfl) (by simp) ?_
      refine AllReadyH.cons (o := _) rfl (fun K hK => ?_) AllReadyH.nil
      go_simp
      refine hK.out _ _ ?_ (fun hHeld => ?_)
      · (try dsimp only); exact ⟨keep_cell (below1 w7 _) hHeld.1, keep_cell (below1 w7 _) hHeld.2.1, keep_cell (below1 w7 _) hHeld.2.2.1, keep_cell (below1 w7 _) hHeld.2.2.2.1, keep_cell (below1 w7 _) hHeld.2.2.2.2.1, keep_cell (below1 w7 _) hHeld.2.2.2.2.2.1, keep_cell (below1 w7 _) hHeld.2.2.2.2.2.2⟩
      clear hK K
      (try dsimp only [Act.put, List.setIfInBounds_toArray, List.set_cons_zero, List.set_cons_succ])
      have hb7 := ((Drew.below (drew1 wr) wr.heap.size).trans hbK).trans ((below1 w7 (.cells (madeCells #[.int .i64 0] (Sk + c)) 2)).mono (((Drew.below (drew1 wr) wr.heap.size).trans hbK).size))
      have R7 := hR.out.below hb7
      have c7 := R7.free (Nat.le_refl _) hkn
      have f7 := R7.fz k
      refine wpAnyH_take (i := 9) (oi := _) (v := ?_) rfl (by kernel_rfl) (by kernel_rfl) (by kernel_rfl) (fun _ _ _ h => h) (Or.inl ⟨by rfl, ?_⟩) hHeld ?_
      rotate_left
      · intro w0 hSw; (try dsimp only at hSw); go_simp; (try with_reducible rfl)
      (try dsimp only [Act.put, List.setIfInBounds_toArray, List.set_cons_zero, List.set_cons_succ])
      refine wpAnyH_ready (rs := [10]) (by kernel_rfl) (by simp) ?_
      refine AllReadyH.cons (o := _) rfl (fun K hK => ?_) AllReadyH.nil
      go_simp
      refine hK.out _ _ ?_ (fun hHeld => ?_)
      · (try dsimp only); exact ⟨(World.cell?_setCell_far _ _ _ _ ne1).trans hHeld.1, (World.cell?_setCell_far _ _ _ _ ne2).trans hHeld.2.1, (World.cell?_setCell_far _ _ _ _ ne2).trans hHeld.2.2.1, (World.cell?_setCell_far _ _ _ _ ne2).trans hHeld.2.2.2.1, (World.cell?_setCell_far _ _ _ _ ne2).trans hHeld.2.2.2.2.1, (World.cell?_setCell_far _ _ _ _ ne2).trans hHeld.2.2.2.2.2.1, (World.cell?_setCell_far _ _ _ _ ne2).trans hHeld.2.2.2.2.2.2⟩
      clear hK K
      (try dsimp only [Act.put, List.setIfInBounds_toArray, List.set_cons_zero, List.set_cons_succ])
      refine wpAnyH_done (by kernel_rfl) ?_ _
      refine NoPanic.normal ?_
      clear v1 v2
      have hsz7 := ((Drew.below (drew1 wr) wr.heap.size).trans hbK).size
      have R8 := Lib.hid (show Rag ((w7.alloc (.cells (madeCells #[.int .i64 0] (Sk + c)) 2)).setCell ⟨X0, k, none⟩ (.slice (some ⟨w7.heap.size, 0, none⟩) (Sk + c) (Sk + c))) X0 (.slice (some ⟨X0, 0, none⟩) n n) n (k + 1) (fun t => if t = k then w7.heap.size else G t) (fun t => if t = k then Sk + c else cp t) (fun b => splR (ordS q r n c) zs 0 b (shN q r n b + c)) by
        have h1 := hR.out.next (zs := splR (ordS q r n c) zs 0 k (Sk + c)) (g := w7.heap.size) (c := Sk + c) hkn hb7 (by rw [HSL.out, HSP.out]; exact OwnL.zeros w7 wr.heap.size hsz7 (Sk + c) hsc)
        rw [HSL.out] at h1
        refine h1.congr fun j hj => ?_
        by_cases e : j = k
        · subst e; rw [if_pos rfl, HSK.out]
        · rw [if_neg e])
      have X8 := Lib.hid (show Boxed ((w7.alloc (.cells (madeCells #[.int .i64 0] (Sk + c)) 2)).setCell ⟨X0, k, none⟩ (.slice (some ⟨w7.heap.size, 0, none⟩) (Sk + c) (Sk + c))) (X0 + 1) 55 (.slice (some ⟨X0, 0, none⟩) n n) from (setCell_at (by omega)).trans ((hb7.block _ hX.out.lt).trans hX.out))
      have B8 := Lib.hid (show Below X0 w1 ((w7.alloc (.cells (madeCells #[.int .i64 0] (Sk + c)) 2)).setCell ⟨X0, k, none⟩ (.slice (some ⟨w7.heap.size, 0, none⟩) (Sk + c) (Sk + c))) from (hB.out.trans (hb7.mono (by have := hX.out.lt; omega))).setCell (p := ⟨X0, k, none⟩) (Nat.le_refl _) _)
      clear hb7 R7 c7 f7 hbK hHeld xc k0 k1 k2 k3 k4 k5 hR hX hB hL hmk hsz7
      go_wp2_with fail
      go_roundw
      case rel => exact ⟨k + 1, _, _, by omega, by go_num, R8, X8, B8⟩
      case measure => simp [intOf]; omega
    · obtain rfl : k = n := by omega
      have hki : ¬ (k : Int) < (k : Int) := by omega
      obtain ⟨wo, rfl⟩ : ∃ wo : World, wo = wr := ⟨_, rfl⟩
      have hXo := hX.out.lt
      have b12 := below1 wo (.cells #[.int .i64 0] 3)
      have s12 : (wo.alloc (.cells #[.int .i64 0] 3)).heap.size = wo.heap.size + 1 := by simp
      have R12 := Lib.hid (hR.out.below b12)
      have X12 := Lib.hid (show Boxed (wo.alloc (.cells #[.int .i64 0] 3)) (X0 + 1) 55 (.slice (some ⟨X0, 0, none⟩) k k) from hX.out.alloc _)
      have A12 := Lib.hid (Boxed.new wo 3 (.int .i64 0))
      have B12 := Lib.hid (hB.out.trans (b12.mono (by omega)))
      have HGL := Lib.hid (fun j hj => (hR.out.rlt (j := j) hj).2)
      have hL12 := hL.out.below b12 hL.out.lt
      clear k0 k1 k2 k3 k4 k5 hR hX hB hL b12
      have k0 := hL12.c0
      have k1 := hL12.c1
      have k2 := hL12.c2
      have k3 := hL12.c3
      have k4 := hL12.c4
      have k5 := hL12.c5
      go_wp2_with fail
      obtain ⟨w12, hw12⟩ : ∃ w12, wo.alloc (.cells #[.int .i64 0] 3) = w12 := ⟨_, rfl⟩
      rw [hw12] at R12 X12 A12 B12 hL12 s12 k0 k1 k2 k3 k4 k5 ⊢
      clear hw12
      refine ((callsIn_wide (n := 1)).1 (order_in 1 p pw g D c k _)).mono ?_
      rintro e w14 ⟨rfl, rfl⟩
      have LN14 := LB.new w12 p pw g D c k
      have b14 := below1 w12 (.cells #[.int .i64 p, .int .i64 pw, .int .i64 g, .int .i64 D, .int .i64 (c : Int), .int .i64 (k : Int)] LT)
      have s14 : (w12.alloc (.cells #[.int .i64 p, .int .i64 pw, .int .i64 g, .int .i64 D, .int .i64 (c : Int), .int .i64 (k : Int)] LT)).heap.size = w12.heap.size + 1 := by simp
      have R14 := Lib.hid (R12.out.below b14)
      have X14 := Lib.hid (show Boxed (w12.alloc (.cells #[.int .i64 p, .int .i64 pw, .int .i64 g, .int .i64 D, .int .i64 (c : Int), .int .i64 (k : Int)] LT)) (X0 + 1) 55 (.slice (some ⟨X0, 0, none⟩) k k) from X12.out.alloc _)
      have A14 := Lib.hid (show Boxed (w12.alloc (.cells #[.int .i64 p, .int .i64 pw, .int .i64 g, .int .i64 D, .int .i64 (c : Int), .int .i64 (k : Int)] LT)) wo.heap.size 3 (.int .i64 0) from A12.out.alloc _)
      have B14 := Lib.hid (B12.out.trans (b14.mono (by omega)))
      have HLN := Lib.hid LN14.blk
      go_wp2_with fail
      obtain ⟨w14, hw14⟩ : ∃ w14, w12.alloc (.cells #[.int .i64 p, .int .i64 pw, .int .i64 g, .int .i64 D, .int .i64 (c : Int), .int .i64 (k : Int)] LT) = w14 := ⟨_, rfl⟩
      rw [hw14] at R14 X14 A14 B14 LN14 HLN s14
      (try rw [hw14])
      clear hw14 k0 k1 k2 k3 k4 k5 R12 X12 A12 B12 hL12 b14
      rw [s12] at LN14 HLN s14
      have hG := HGL.out
      have B14w := Lib.hid (B1.out.trans (B14.out.mono (by omega)))
      have XS14 := Lib.hid (show Boxed w14 (w.heap.size + 1) 26 (.slice (some ⟨ba, oa, none⟩) m cap) from (B14.out.block _ (by omega)).trans XS.out)
      have R15 := Lib.hid (show Rag w14 X0 (.slice (some ⟨X0, 0, none⟩) k k) k k G cp (wfL zs (fun b => shN q r k b + c) (([] : List (OrdX q r k c)).map Subtype.val)) from R14.out.congr fun j hj => splR_zero _ _ _ _)
      clear hG R14
      refine (wpIn_wide (n := 3)).1 ?_
      refine wpIn_rangeFunc_ownF rfl (by omega) (gf := 118) (lb := #[.pointer (some ⟨wo.heap.size + 1, 0, none⟩)]) rfl trivial (enters_of Try.func118 (by kernel_rfl) rfl)
        (order_stops p pw g HL.out 2 (by omega) (wo.heap.size + 1) w14 (by omega) LN14) keepsAt_t (keepsAt_b (by omega)) (Below.refl _ _) (fun _ => rfl)
        (fun pre W => Rag W X0 (.slice (some ⟨X0, 0, none⟩) k k) k k G cp (wfL zs (fun b => shN q r k b + c) (pre.map Subtype.val)) ∧ (W.heap[wo.heap.size]? = some (.cells #[.int .i64 ((pre.length : Nat) : Int)] 3 (0, 0)) ∧ (W.heap[X0 + 1]? = some (.cells #[.slice (some ⟨X0, 0, none⟩) k k] 55 (0, 0)) ∧ (W.heap[w.heap.size + 1]? = some (.cells #[.slice (some ⟨ba, oa, none⟩) m cap] 26 (0, 0)) ∧ (W.heap[wo.heap.size + 1]? = some (.cells #[.int .i64 p, .int .i64 pw, .int .i64 g, .int .i64 D, .int .i64 (c : Int), .int .i64 (k : Int)] LT (0, 0)) ∧ Below w.heap.size w W)))))
        (fun _ _ _ => False)
        (OwnFrom.and (Go.Own.from (rag_own X0 _ k k G cp (fun pre : List (OrdX q r k c) => wfL zs (fun b => shN q r k b + c) (pre.map Subtype.val))) _) (OwnFrom.and (Go.Own.from (own_atS _ (fun pre : List (OrdX q r k c) => .cells #[.int .i64 ((pre.length : Nat) : Int)] 3 (0, 0)) (fun _ => rfl)) _) (OwnFrom.and (Go.Own.from (own_at _ _ rfl) _) (OwnFrom.and (Go.Own.from (own_at _ _ rfl) _) (OwnFrom.and (Go.Own.from (own_at _ _ rfl) _) (ownFrom_below (Nat.le_refl _) (by omega)))))))
        (fun _ _ _ _ _ hs _ _ => hs)
        ⟨R15.out, A14.out, X14.out, XS14.out, HLN.out, B14w.out⟩
        ?a1 ?assign ?body ?done ?stop
      case stop =>
        rintro D2 c2 pre W _ _ h _
        exact h.elim
      case assign =>
        intro l x W K hK
        have HK := Lib.hid hK
        clear hK
        gi_wp2
        exact HK.out
      case body =>
        rintro l pre ⟨⟨xb, xe⟩, hxo⟩ W ⟨hRW, hAW, hXW, hSW, hLW, hBW⟩ hlt
        have hmem : xb < k ∧ xe < shN q r k xb + c := ordS_mem.1 hxo
        have hwl : (wfL zs (fun b => shN q r k b + c) (pre.map Subtype.val) xb).length = shN q r k xb + c := wfN_len _ _ _ _ _
        have q1 : W.cell? ⟨X0 + 1, 0, none⟩ = some (.slice (some ⟨X0, 0, none⟩) k k) := by unfold World.cell?; rw [hXW]; rfl
        have q2 := hRW.slot hmem.1
        obtain ⟨q3, q3f⟩ := hRW.cell hmem.1 (i := xe) (by rw [hwl]; exact hmem.2)
        have q4 : W.cell? ⟨w.heap.size + 1, 0, none⟩ = some (.slice (some ⟨ba, oa, none⟩) m cap) := by unfold World.cell?; rw [hSW]; rfl
        have q5 : W.cell? ⟨wo.heap.size, 0, none⟩ = some (.int .i64 ((pre.length : Nat) : Int)) := by unfold World.cell?; rw [hAW]; rfl
        have q5f : W.frozen? ⟨wo.heap.size, 0, none⟩ = false := by unfold World.frozen?; rw [hAW]; simp
        rw [← HM.out] at hlt
        obtain ⟨b1, o1, eb, -, hcs⟩ := (HR.out.below' hBW).at' (by omega)
        cases eb
        have q6 := hcs pre.length hlt
        rw [hwl] at q2
        have hbk : (xb : Int) < (k : Int) := by have := hmem.1; omega
        have hek : (xe : Int) < ((shN q r k xb + c : Nat) : Int) := by have := hmem.2; omega
        have hil : ((pre.length : Nat) : Int) < (m : Int) := by omega
        have hGx := HGL.out xb hmem.1
        have hGX0 := (hRW.rlt hmem.1).1
        have HW3 := Lib.hid (show Rag (W.drew.setCell ⟨G xb, xe, none⟩ (.int .i64 (gi zs pre.length))) X0 (.slice (some ⟨X0, 0, none⟩) k k) k k G cp (wfL zs (fun b => shN q r k b + c) ((pre ++ [(⟨(xb, xe), hxo⟩ : OrdX q r k c)]).map Subtype.val)) from
          ((hRW.below (Drew.below (drew1 W) _)).set hmem.1 (i := xe) (by rw [hwl]; exact hmem.2) (gi zs pre.length)).congr fun j hj => by
            rw [List.map_append]
            show _ = wfL zs _ (pre.map Subtype.val ++ [(xb, xe)]) j
            rw [wfL_snoc, List.length_map]
            by_cases e : j = xb
            · subst e; rw [if_pos rfl]
            · rw [if_neg e]; exact (if_neg e).symm)
        have ne1 : G xb ≠ X0 + 1 := fun e => (hRW.ne xb hmem.1) (by
          have h1 := (hRW.own xb hmem.1).2
          rw [e] at h1
          exact absurd rfl (not_row_of hXW (by decide) h1))
        have ne2 : G xb ≠ w.heap.size + 1 := by omega
        have ne3 : G xb ≠ wo.heap.size := by omega
        have HL3 := Lib.hid hLW
        have HX3 := Lib.hid hXW
        have HS3 := Lib.hid hSW
        have HB3 := Lib.hid hBW
        have HA3 := Lib.hid hAW
        have hlw1 : shN q r k xb + c ≤ 100000 := by have := (HSH.out xb).2; omega
        have hml : pre.length ≤ 1500 := by omega
        generalize gi (wfL zs (fun b => shN q r k b + c) (pre.map Subtype.val) xb) xe = z0 at *
        have hgz : ∃ z, gi zs pre.length = z := ⟨_, rfl⟩
        obtain ⟨z, hz⟩ := hgz
        rw [hz] at q6 HW3
        generalize shN q r k xb + c = lw at q2 hek hlw1 hmem
        clear hcs hwl hRW hLW hXW hSW hBW hAW hz
        refine wpIn_block ?_
        refine wpIn_seq ?_
        refine region_lastW_round (S := (fun w' => w'.cell? ⟨X0 + 1, 0, none⟩ = some (.slice (some ⟨X0, 0, none⟩) k k) ∧ w'.cell? ⟨X0, xb, none⟩ = some (.slice (some ⟨G xb, 0, none⟩) lw (cp xb)) ∧ w'.cell? ⟨w.heap.size + 1, 0, none⟩ = some (.slice (some ⟨ba, oa, none⟩) m cap) ∧ w'.cell? ⟨wo.heap.size, 0, none⟩ = some (.int .i64 ((pre.length : Nat) : Int)) ∧ w'.cell? ⟨ba, oa + pre.length, none⟩ = some (.int .i64 z))) 10 (by kernel_rfl) (by kernel_rfl) (fun ⟨_, _, h⟩ => h) rfl (by kernel_rfl) ?_ (fun hHeld => ?_)
        · (try dsimp only); exact ⟨q1, q2, q4, q5, q6⟩
        simp only [List.take_succ_cons, List.take_zero]
        refine wpAnyH_take (i := 0) (oi := _) (v := ?_) rfl (by kernel_rfl) (by kernel_rfl) (by kernel_rfl) (fun _ _ _ h => h) (Or.inl ⟨by rfl, ?_⟩) hHeld ?_
        rotate_left
        · intro w0 hSw; (try dsimp only at hSw); go_simp; (try with_reducible rfl)
        (try dsimp only [Act.put, List.setIfInBounds_toArray, List.set_cons_zero, List.set_cons_succ])
        refine wpAnyH_take (i := 1) (oi := _) (v := ?_) rfl (by kernel_rfl) (by kernel_rfl) (by kernel_rfl) (fun _ _ _ h => h) (Or.inl ⟨by rfl, ?_⟩) hHeld ?_
        rotate_left
        · intro w0 hSw; (try dsimp only at hSw); go_simp; (try with_reducible rfl)
        (try dsimp only [Act.put, List.setIfInBounds_toArray, List.set_cons_zero, List.set_cons_succ])
        refine wpAnyH_take (i := 2) (oi := _) (v := ?_) rfl (by kernel_rfl) (by kernel_rfl) (by kernel_rfl) (fun _ _ _ h => h) (Or.inl ⟨by rfl, ?_⟩) hHeld ?_
        rotate_left
        · intro w0 hSw; (try dsimp only at hSw); go_simp; (try with_reducible rfl)
        (try dsimp only [Act.put, List.setIfInBounds_toArray, List.set_cons_zero, List.set_cons_succ])
        refine wpAnyH_take (i := 3) (oi := _) (v := ?_) rfl (by kernel_rfl) (by kernel_rfl) (by kernel_rfl) (fun _ _ _ h => h) (Or.inl ⟨by rfl, ?_⟩) hHeld ?_
        rotate_left
        · intro w0 hSw; (try dsimp only at hSw); go_simp; (try with_reducible rfl)
        (try dsimp only [Act.put, List.setIfInBounds_toArray, List.set_cons_zero, List.set_cons_succ])
        refine wpAnyH_take (i := 4) (oi := _) (v := ?_) rfl (by kernel_rfl) (by kernel_rfl) (by kernel_rfl) (fun _ _ _ h => h) (Or.inl ⟨by rfl, ?_⟩) hHeld ?_
        rotate_left
        · intro w0 hSw; (try dsimp only at hSw); go_simp; (try with_reducible rfl)
        (try dsimp only [Act.put, List.setIfInBounds_toArray, List.set_cons_zero, List.set_cons_succ])
        refine wpAnyH_take (i := 5) (oi := _) (v := ?_) rfl (by kernel_rfl) (by kernel_rfl) (by kernel_rfl) (fun _ _ _ h => h) (Or.inl ⟨by rfl, ?_⟩) hHeld ?_
        rotate_left
        · intro w0 hSw; (try dsimp only at hSw); go_simp; (try with_reducible rfl)
        (try dsimp only [Act.put, List.setIfInBounds_toArray, List.set_cons_zero, List.set_cons_succ])
        refine wpAnyH_take (i := 6) (oi := _) (v := ?_) rfl (by kernel_rfl) (by kernel_rfl) (by kernel_rfl) (fun _ _ _ h => h) (Or.inl ⟨by rfl, ?_⟩) hHeld ?_
        rotate_left
        · intro w0 hSw; (try dsimp only at hSw); go_simp; (try with_reducible rfl)
        (try dsimp only [Act.put, List.setIfInBounds_toArray, List.set_cons_zero, List.set_cons_succ])
        refine wpAnyH_take (i := 7) (oi := _) (v := ?_) rfl (by kernel_rfl) (by kernel_rfl) (by kernel_rfl) (fun _ _ _ h => h) (Or.inl ⟨by rfl, ?_⟩) hHeld ?_
        rotate_left
        · intro w0 hSw; (try dsimp only at hSw); go_simp; (try with_reducible rfl)
        (try dsimp only [Act.put, List.setIfInBounds_toArray, List.set_cons_zero, List.set_cons_succ])
        refine wpAnyH_take (i := 8) (oi := _) (v := ?_) rfl (by kernel_rfl) (by kernel_rfl) (by kernel_rfl) (fun _ _ _ h => h) (Or.inl ⟨by rfl, ?_⟩) hHeld ?_
        rotate_left
        · intro w0 hSw; (try dsimp only at hSw); go_simp; (try with_reducible rfl)
        (try dsimp only [Act.put, List.setIfInBounds_toArray, List.set_cons_zero, List.set_cons_succ])
        refine wpAnyH_take (i := 9) (oi := _) (v := ?_) rfl (by kernel_rfl) (by kernel_rfl) (by kernel_rfl) (fun _ _ _ h => h) (Or.inl ⟨by rfl, ?_⟩) hHeld ?_
        rotate_left
        · intro w0 hSw; (try dsimp only at hSw); go_simp; (try with_reducible rfl)
        (try dsimp only [Act.put, List.setIfInBounds_toArray, List.set_cons_zero, List.set_cons_succ])
        refine wpAnyH_done (by kernel_rfl) (lastQ_normalW ?_) _
        go_wp2_with fail
        have edr : W.drew.setCell ⟨G xb, xe, none⟩ (.int .i64 z) = (W.setCell ⟨G xb, xe, none⟩ (.int .i64 z)).drew := rfl
        have r5 : (W.setCell ⟨G xb, xe, none⟩ (.int .i64 z)).drew.cell? ⟨wo.heap.size, 0, none⟩ = some (.int .i64 ((pre.length : Nat) : Int)) := (World.cell?_setCell_far _ _ _ _ ne3).trans q5
        have r5f : (W.setCell ⟨G xb, xe, none⟩ (.int .i64 z)).drew.frozen? ⟨wo.heap.size, 0, none⟩ = false := (World.frozen?_setCell _ _ _ _).trans q5f
        rw [edr] at HW3
        have HKO := Lib.hid (show KeepsOthers W (W.setCell ⟨G xb, xe, none⟩ (.int .i64 z)).drew from (KeepsOthers.setCell _ _ _).trans (KeepsOthers.drew _))
        have HBE := Lib.hid (show Below w.heap.size w (W.setCell ⟨G xb, xe, none⟩ (.int .i64 z)).drew from (HB3.out.setCell (p := ⟨G xb, xe, none⟩) (by show w.heap.size ≤ G xb; omega) _).trans (Drew.below (drew1 _) _))
        have HK1 := Lib.hid (show ∀ B, B ≠ G xb → (W.setCell ⟨G xb, xe, none⟩ (.int .i64 z)).drew.heap[B]? = W.heap[B]? from fun B hb => setCell_at hb)
        have HAA := Lib.hid ((HK1.out _ (Ne.symm ne3)).trans HA3.out)
        generalize (W.setCell ⟨G xb, xe, none⟩ (.int .i64 z)).drew = W5 at *
        clear hHeld q1 q2 q4 q5 q6 q5f edr
        gi_wp2
        have e13 : ((pre.length : Nat) : Int) + 1 = (((pre ++ [(⟨(xb, xe), hxo⟩ : OrdX q r k c)]).length : Nat) : Int) := by simp
        have HAT := fun B (hb : B ≠ wo.heap.size) (hb2 : B ≠ G xb) (v : Value) => (setCell_at (W := W5) (o := 0) (v := v) hb).trans (HK1.out B hb2)
        refine ⟨HKO.out.trans (KeepsOthers.setCell _ _ _), HAT _ (by omega) (by omega) _, ?_, ?_, ?_, ?_, ?_, ?_⟩
        · exact HW3.out.other (fun e => by simp [Value.ownBlock] at e; omega) (fun j hj e => by have := HGL.out j hj; omega) _
        · rw [heap_setCell_self _ _ _ _ _ _ _ HAA.out, ← e13]; rfl
        · exact (HAT _ (by omega) (fun e => ne1 e.symm) _).trans HX3.out
        · exact (HAT _ (by omega) (by omega) _).trans HS3.out
        · exact (HAT _ (by omega) (by omega) _).trans HL3.out
        · exact HBE.out.setCell (p := ⟨wo.heap.size, 0, none⟩) (by show w.heap.size ≤ wo.heap.size; omega) _
      case done =>
        rintro D2 ys W hD hys ⟨hRW, -, hXW, -, -, hBW⟩ hK
        have HYS := Lib.hid hys
        have HRW := Lib.hid hRW
        have HKK := Lib.hid hK
        have hc : W.cell? ⟨X0 + 1, 0, none⟩ = some (.slice (some ⟨X0, 0, none⟩) k k) := by unfold World.cell?; rw [hXW]; rfl
        have HBW := Lib.hid hBW
        clear hys hRW hXW hBW hK
        go_wp2_with fail
        refine marks_retD rfl HKK.out (results_tmp rfl _ _ _) ?_
        refine ⟨_, rfl, ?_, G, cp, ?_⟩
        · exact HBW.out.trans (belowK_b (w := w14) (by have := (B1.out.trans (B14.out.mono (by omega))).size; omega) W D2 _ _ hD HKK.out rfl rfl)
        · have h2 := (rag_own (β := Unit) X0 (.slice (some ⟨X0, 0, none⟩) k k) k k G cp (fun _ => wfL zs (fun b => shN q r k b + c) (ys.map Subtype.val))) () W _ (some D2) HRW.out (grownBy_putObj' W D2 (.deferred none)) (fun r e => by cases e; exact ⟨_, HKK.out, rfl⟩)
          refine (h2.congr fun j hj => ?_).lower (by omega)
          rw [HYS.out]
          exact wfN_spl (ordS_nodup q r k c) zs _ j _ (Nat.le_refl _)
end Go.Proofs.Ytfhkkpfiflgofaa
