/-
  The parts Labd, LawFnExactIsLabel, FrameLb.
-/
import Derived.Test.YtdcmebegnekkcaaGreatLabx
import Derived.Laws.Rows
import Derived.Test.YtdcmebegnekkcaaGreatBoxz
import Derived.Deep.Slices
import Derived.Deep.Fields
import Derived.ChangeSame
import Derived.Lib.SmallJoins
/-
  The boxes of a label, in the program.
-/
namespace Go.Proofs.YtdcmebegnekkcaaGreat
open Go.RowKit
set_option linter.unusedVariables false

abbrev BxT : TypeId := 76
noncomputable def bxl (x : It) : List Value := [.int .i64 x.rw, .int .i64 x.cl, .int .i64 (boxR x), .int .i64 (boxC x)]
noncomputable def bxC (L : List It) : List Value := L.flatMap bxl
theorem bxC_app (L M : List It) : bxC (L ++ M) = bxC L ++ bxC M := by unfold bxC; rw [List.flatMap_append]
/-- A slice of boxes of the call's own. -/
def OwnX (w : World) (B : Nat) (v : Value) (L : List It) : Prop := B ≤ w.heap.size ∧ w.ownsRow B BxT 4 v L.length (bxC L)
theorem OwnX.empty (w : World) (B : Nat) (hB : B ≤ w.heap.size) (b : Nat) (hb : b = w.heap.size) : OwnX (w.alloc (.cells #[] BxT)) B (.slice (some ⟨b, 0, none⟩) 0 0) [] := by
  subst hb
  exact ⟨by simp; omega, World.ownsRow_made w #[] 0 hB (by unfold maxLen; omega) rfl⟩
theorem OwnX.below {w w' : World} {B : Nat} {v : Value} {L : List It} (h : OwnX w B v L) (hb : Below w.heap.size w w') : OwnX w' B v L := by
  have hs := hb.size
  refine ⟨by have := h.1; omega, h.2.1, ?_⟩
  rcases h.2.2 with h2 | ⟨g, cap, cur, rfl, hg, hh, r⟩
  · exact .inl h2
  · exact .inr ⟨g, cap, cur, rfl, hg, (hb.block g (Array.getElem?_eq_some_iff.1 hh).1).trans hh, r⟩
theorem OwnX.lower {w : World} {B C : Nat} {v : Value} {L : List It} (h : OwnX w B v L) (hC : C ≤ B) : OwnX w C v L := by
  obtain ⟨hB, hl, h2⟩ := h
  refine ⟨by omega, hl, ?_⟩
  rcases h2 with h2 | ⟨g, cap, cur, rfl, hg, r⟩
  · exact .inl h2
  · exact .inr ⟨g, cap, cur, rfl, by omega, r⟩
theorem OwnX.slice {w : World} {B : Nat} {v : Value} {L : List It} (h : OwnX w B v L) : ∃ a cap, v = .slice a L.length cap := by
  rcases h.2.2 with ⟨rfl, h0⟩ | ⟨g, cap, cur, rfl, _⟩
  · exact ⟨none, 0, by rw [h0]⟩
  · exact ⟨_, _, rfl⟩
theorem info_box : (Tryz.prog.info? BxT).map (fun i => (i.zero, i.size, i.bytes)) = some (some (.agg #[.int .i64 0, .int .i64 0, .int .i64 0, .int .i64 0]), 4, 32) := by kernel_rfl
/-- One more box. -/
theorem appendX_one {W0 : World} {ops : Array Oper} {rest : List Oper} {o : Oper} {a : Act} {Q : Exit → Act → World → Prop} (hgd : o.guard = none) (s x : Operand) (t : TypeId)
    (ho : o.op = .call { callee := .builtin .append, args := #[s, x], argTypes := #[t, t] }) (ht : Tryz.prog.underlying t = some (.slice BxT))
    {B : Nat} {v : Value} {L : List It} (y : It) (r c p q : Int) (hy : bxl y = [.int .i64 r, .int .i64 c, .int .i64 p, .int .i64 q]) (hown : OwnX W0 B v L) (hs : a.eval s = v) (b : Nat) (hb : b = W0.heap.size) (hx : a.eval x = .slice (some ⟨b, 0, none⟩) 1 1) (hn : L.length ≤ 16777216)
    (h : ∀ v' w', OwnX w' B v' (L ++ [y]) → Below B W0 w' → wpList Tryz.prog ops Q rest (a.put o.dst v') w') : wpList Tryz.prog ops Q (o :: rest) a (W0.alloc (.cells #[.int .i64 r, .int .i64 c, .int .i64 p, .int .i64 q] BxT)) := by
  subst hb
  obtain ⟨i0, hi, hz0, hz1, hz2⟩ := info_parts info_box
  obtain ⟨hB, hown⟩ := hown
  refine wpList_append_own _ hgd s x t ho B BxT i0 (.agg #[.int .i64 0, .int .i64 0, .int .i64 0, .int .i64 0]) 4 32 ht hi hz0 hz1 hz2 rfl (by decide) v L.length _ hs (hown.alloc _) ⟨W0.heap.size, 0, none⟩ 1 1 [.int .i64 r, .int .i64 c, .int .i64 p, .int .i64 q] hx rfl ?_ ?_ (by unfold maxLen; omega) (by omega) (by simp; omega) ?_
  · intro j u hj
    match j, hj with
    | 0, hj => simp at hj; subst hj; simp [Addr.add, go_sem]
    | 1, hj => simp at hj; subst hj; simp [Addr.add, go_sem]
    | 2, hj => simp at hj; subst hj; simp [Addr.add, go_sem]
    | 3, hj => simp at hj; subst hj; simp [Addr.add, go_sem]
  · intro u hu; simp at hu; rcases hu with rfl | rfl | rfl | rfl <;> rfl
  · intro v' w' h1 hg _
    refine h v' w' ⟨by have := hg.size; simp at this; omega, ?_⟩ (append_below hB hg fun k hk => (hown.lt k hk).1)
    rw [List.length_append, bxC_app, show bxC [y] = bxl y by unfold bxC; simp, hy]
    exact h1
theorem take_giI {zs : List It} {i : Nat} (h : i < zs.length) : zs.take (i + 1) = zs.take i ++ [giI zs i] := by
  rw [List.take_succ_eq_append_getElem h]
  congr 2
  unfold giI; rw [List.getD_eq_getElem?_getD, List.getElem?_eq_getElem h]; rfl
set_option maxHeartbeats 16000000 in
set_option maxRecDepth 100000 in
theorem boxes_any {w : World} {a : Option Addr} {n cap : Nat} {zs : List It} (R C : Int) (hr : ItsAt w a n zs) (htx : ∀ i, i < n → (giI zs i).tx.length ≤ 1048576) :
    Calls Tryz.prog 40 #[lbV R C (.slice a n cap)] w fun e w' => (∃ v, e = .returned (.tuple #[v, .bool (labB R C zs)]) ∧ (labB R C zs = true → OwnX w' w.heap.size v zs)) ∧ Below w.heap.size w w' := by
  have L0 := Lib.hid (LbB.new w R C (.slice a n cap) LbT)
  have B0 := Lib.hid (below1 w (.cells #[.int .i64 R, .int .i64 C, .slice a n cap] LbT))
  have HR := Lib.hid (hr.below (below1 w (.cells #[.int .i64 R, .int .i64 C, .slice a n cap] LbT)))
  have HTX := Lib.hid htx
  have HLN := Lib.hid hr.len
  have hsm := hr.small
  have HU := Lib.hid (show labB R C zs = (szB R C && (decide (zs.length ≤ 12) && zs.all (inB R C))) from rfl)
  have HSB := Lib.hid (fun h => szB_bd (R := R) (C := C) h)
  clear hr htx
  go_enter Tryz.func40, Tryz.ntmps40
  obtain ⟨X, hX⟩ : ∃ X, w.heap.size = X := ⟨_, rfl⟩
  obtain ⟨w1, hw1⟩ : ∃ w1, w.alloc (.cells #[.int .i64 R, .int .i64 C, .slice a n cap] LbT) = w1 := ⟨_, rfl⟩
  rw [hw1] at L0 B0 HR
  rw [hX] at L0
  have l0 := L0.out.c0
  have l1 := L0.out.c1
  have l2 := L0.out.c2
  have hX1 := L0.out.lt
  go_wp2_with fail
  (try rw [show w.alloc (.cells #[.int .i64 R, .int .i64 C, .slice a n cap] LbT) = w1 from hw1])
  clear hw1
  refine (isRasterSize_any R C _).mono ?_
  rintro e w2 ⟨rfl, rfl⟩
  cases hs : szB R C with
  | false =>
    have HE := Lib.hid (show labB R C zs = false from by rw [HU.out, hs]; rfl)
    clear hs
    go_wp2_with fail
    go_ret2
    exact ⟨⟨_, by rw [HE.out]; rfl, fun h => by rw [HE.out] at h; cases h⟩, hX ▸ B0.out⟩
  | true =>
  have HS := Lib.hid hs
  obtain ⟨s1, s2, s3, s4⟩ := HSB.out hs
  clear hs
  by_cases h12 : n ≤ 12
  rotate_left
  · have HE := Lib.hid (show labB R C zs = false from by rw [HU.out, decide_eq_false (by rw [HLN.out]; exact h12)]; simp)
    have hgt : (12 : Int) < (n : Int) := by omega
    go_wp2_with fail
    go_ret2
    exact ⟨⟨_, by rw [HE.out]; rfl, fun h => by rw [HE.out] at h; cases h⟩, hX ▸ B0.out⟩
  have hgt : ¬ (12 : Int) < (n : Int) := by omega
  have HH12 := Lib.hid h12
  have TR := Lib.hid ((LbB.new w1 R C (.slice none 0 0) RaT).below (below1 _ (.cells #[] BxT)))
  have O2 := Lib.hid (OwnX.empty (w1.alloc (.cells #[.int .i64 R, .int .i64 C, .slice none 0 0] RaT)) (w1.alloc (.cells #[.int .i64 R, .int .i64 C, .slice none 0 0] RaT)).heap.size (Nat.le_refl _) _ rfl)
  have B2 := Lib.hid ((below1 w1 (.cells #[.int .i64 R, .int .i64 C, .slice none 0 0] RaT)).trans ((below1 (w1.alloc (.cells #[.int .i64 R, .int .i64 C, .slice none 0 0] RaT)) (.cells #[] BxT)).mono (by simp)))
  go_upto_region 5 with (fail)
  obtain ⟨w3, hw3⟩ : ∃ w3, (w1.alloc (.cells #[.int .i64 R, .int .i64 C, .slice none 0 0] RaT)).alloc (.cells #[] BxT) = w3 := ⟨_, rfl⟩
  rw [show (w1.alloc (.cells #[.int .i64 R, .int .i64 C, .slice none 0 0] RaT)).heap.size = w1.heap.size + 1 by simp] at O2
  rw [hw3] at TR O2 B2
  rw [hw3]
  clear hw3
  obtain ⟨P, hP⟩ : ∃ P, w1.heap.size = P := ⟨_, rfl⟩
  rw [hP] at TR O2 B2
  rw [hP]
  have hRw := Lib.hid (show ItsAt w3 a n zs from HR.out.below (by rw [hP]; exact B2.out))
  have L3 := Lib.hid (L0.out.below (by rw [hP]; exact B2.out))
  clear l0 l1 l2
  have l0 := L3.out.c0
  have l1 := L3.out.c1
  have l2 := L3.out.c2
  have hX3 := L3.out.lt
  have hPw : w.heap.size ≤ P := by rw [← hP]; exact B0.out.size
  go_wp2_with fail
  go_loopw [5, 32] (fun tv ti wr => ∃ i : Nat, i ≤ n ∧ ti = .int .i64 (i : Int) ∧ Hid (∀ j, j < i → inB R C (giI zs j) = true) ∧ Hid (Below P w1 wr) ∧ Hid (OwnX wr (P + 1) tv (zs.take i)) ∧ Hid (LbB wr P RaT R C (.slice none 0 0))) (fun _ ti _ => n - (intOf ti).toNat)
  case atStart => exact ⟨0, by omega, rfl, Lib.hid (fun j hj => by omega), B2, O2, TR⟩
  case round =>
    obtain ⟨i, hi, rfl, hH, hB, hO, hT⟩ := hrel
    have L2 := Lib.hid (L0.out.below (by rw [hP]; exact hB.out))
    have BW := Lib.hid (B0.out.trans (hB.out.mono hPw))
    clear l0 l1 l2 hX1 hX3 TR O2 B2 hRw L3
    have l0 := L2.out.c0
    have l1 := L2.out.c1
    have l2 := L2.out.c2
    have hX1 := L2.out.lt
    by_cases hlt : i < n
    · obtain ⟨b, off, e1, hC⟩ := (HR.out.below (by rw [hP]; exact hB.out)).one hlt
      subst e1
      have HM := Lib.hid (show inB R C (giI zs i) = true → ∀ j, j < i + 1 → inB R C (giI zs j) = true from fun hh j hj => by
        by_cases e : j = i
        · subst e; exact hh
        · exact hH.out j (by omega))
      have HNO := Lib.hid (show inB R C (giI zs i) = false → labB R C zs = false from fun hh => all_no (by rw [HLN.out]; exact hlt) hh)
      have HI := Lib.hid (show boxB (giI zs i) = false → inB R C (giI zs i) = false from fun hh => by unfold inB; rw [hh]; rfl)
      have HBX := Lib.hid (fun (V : World) => itemBox_any (giI zs i) (HTX.out i hlt) V)
      have HPO := Lib.hid (fun h => box_pos (x := giI zs i) h)
      have HCN := Lib.hid (fun h => con_in (R := R) (C := C) (x := giI zs i) h)
      have HTK := Lib.hid (take_giI (zs := zs) (i := i) (by rw [HLN.out]; exact hlt))
      have HBL := Lib.hid (show bxl (giI zs i) = [.int .i64 (giI zs i).rw, .int .i64 (giI zs i).cl, .int .i64 (boxR (giI zs i)), .int .i64 (boxC (giI zs i))] from rfl)
      have hll : (zs.take i).length ≤ 16777216 := by have := List.length_take_le i zs; omega
      generalize giI zs i = x at *
      have c0 := hC.c0
      have c1 := hC.c1
      have c2 := hC.c2
      have c3 := hC.c3
      have c4 := hC.c4
      have c5 := hC.c5
      have c6 := hC.c6
      have c7 := hC.c7
      have c8 := hC.c8
      have hli : (i : Int) < (n : Int) := by omega
      have I3 := Lib.hid (ItB.new wr x ITy)
      have b3 := below1 wr (.cells (itL x).toArray ITy)
      have L3 := Lib.hid (L2.out.below b3)
      have D3 := Lib.hid (hB.out.trans (b3.mono (by rw [← hP]; exact hB.out.size)))
      have O3 := Lib.hid (hO.out.below b3)
      have T3 := Lib.hid (hT.out.below b3)
      clear L2 BW b3
      go_wp2_with fail
      refine (HBX.out _).mono ?_
      rintro e w4 ⟨rfl, hb4⟩
      have I4 := Lib.hid (I3.out.below hb4)
      have L4 := Lib.hid (L3.out.below hb4)
      have D4 := Lib.hid (D3.out.trans (hb4.mono (by rw [← hP]; exact D3.out.size)))
      have O4 := Lib.hid (O3.out.below hb4)
      have T4 := Lib.hid (T3.out.below hb4)
      have BW := Lib.hid (B0.out.trans (D4.out.mono hPw))
      generalize wr.heap.size = Q at *
      clear hb4 I3 L3 D3 O3 T3 c0 c1 c2 c3 c4 c5 c6 c7 c8 hC l0 l1 l2 hX1 hB hO hT
      have i1 := I4.out.c1
      have i2 := I4.out.c2
      have hQ1 := I4.out.lt
      have r0 := T4.out.c0
      have r1 := T4.out.c1
      have r2 := T4.out.c2
      have hP1 := T4.out.lt
      cases hb : boxB x with
      | false =>
        have HNO2 := Lib.hid (HNO.out (HI.out hb))
        clear hb
        go_wp2_with fail
        go_ret2
        exact ⟨⟨_, by rw [HNO2.out]; rfl, fun h => by rw [HNO2.out] at h; cases h⟩, hX ▸ BW.out⟩
      | true =>
      obtain ⟨p1, p2, p3, p4⟩ := HPO.out hb
      have HCB := Lib.hid (HCN.out hb)
      clear hb
      generalize boxR x = h at *
      generalize boxC x = v at *
      go_wp2_with fail
      refine (contains_any R C x.rw x.cl h v ⟨s1, s2⟩ ⟨s3, s4⟩ ⟨p1, p2⟩ ⟨p3, p4⟩ _ _).mono ?_
      rintro e w5 ⟨rfl, hb5⟩
      have I5 := Lib.hid (I4.out.below hb5)
      have D5 := Lib.hid (D4.out.trans (hb5.mono (by rw [← hP]; exact D4.out.size)))
      have O5 := Lib.hid (O4.out.below hb5)
      have T5 := Lib.hid (T4.out.below hb5)
      have BW5 := Lib.hid (B0.out.trans (D5.out.mono hPw))
      clear hb5 I4 L4 D4 O4 T4 i1 i2 hQ1 r0 r1 r2 hP1 BW
      have i1 := I5.out.c1
      have i2 := I5.out.c2
      have hQ1 := I5.out.lt
      rw [HCB.out]
      cases hin : inB R C x with
      | false =>
        have HNO2 := Lib.hid (HNO.out hin)
        clear hin
        go_wp2_with fail
        go_ret2
        exact ⟨⟨_, by rw [HNO2.out]; rfl, fun h => by rw [HNO2.out] at h; cases h⟩, hX ▸ BW5.out⟩
      | true =>
        have HM2 := Lib.hid (HM.out hin)
        clear hin
        go_wp2_with (at_builtin; refine appendX_one rfl _ _ _ rfl Tryz.underlying71 x x.rw x.cl h v HBL.out O5.out rfl _ rfl rfl hll ?_; intro v' w6 hown6 hb6)
        have O6 := Lib.hid (show OwnX w6 (P + 1) v' (zs.take (i + 1)) from by rw [HTK.out]; exact hown6)
        have D6 := Lib.hid (D5.out.trans (hb6.mono (Nat.le_succ P)))
        have T6 := Lib.hid (show LbB w6 P RaT R C (.slice none 0 0) from Tf.below T5.out hb6 (Nat.lt_succ_self P))
        clear hown6 hb6
        go_roundw
        case rel => exact ⟨i + 1, by omega, by go_num, HM2, D6, O6, T6⟩
        case measure => simp [intOf]; omega
    · obtain rfl : i = n := by omega
      have HE := Lib.hid (all_yes HS.out (by rw [HLN.out]; exact HH12.out) (fun j hj => hH.out j (by rw [HLN.out] at hj; exact hj)))
      have HO := Lib.hid (show OwnX wr w.heap.size _ zs from by
        have h := hO.out.lower (Nat.le_trans hPw (Nat.le_succ P))
        rwa [show zs.take i = zs by rw [← HLN.out, List.take_length]] at h)
      go_wp2_with fail
      go_ret2
      exact ⟨⟨_, by rw [HE.out]; rfl, fun _ => by first | exact HO.out | (rw [hX]; exact HO.out)⟩, hX ▸ BW.out⟩
set_option maxHeartbeats 8000000 in
set_option maxRecDepth 100000 in
theorem implIsLabel_any {w : World} {a : Option Addr} {n cap : Nat} {zs : List It} (R C : Int) (hr : ItsAt w a n zs) (htx : ∀ i, i < n → (giI zs i).tx.length ≤ 1048576) :
    Calls Tryz.prog 18 #[lbV R C (.slice a n cap)] w fun e w' => e = .returned (.bool (labB R C zs)) ∧ Below w.heap.size w w' := by
  have B0 := Lib.hid (below1 w (.cells #[.int .i64 R, .int .i64 C, .slice a n cap] LbT))
  have HR := Lib.hid (hr.below (below1 w (.cells #[.int .i64 R, .int .i64 C, .slice a n cap] LbT)))
  have HTX := Lib.hid htx
  clear hr htx
  go_enter Tryz.func18, Tryz.ntmps18
  go_wp2_with fail
  refine (boxes_any R C HR.out HTX.out).mono ?_
  rintro e w2 ⟨⟨v, rfl, -⟩, hb2⟩
  have B2 := Lib.hid (B0.out.trans (hb2.mono B0.out.size))
  clear hb2
  go_wp2_with fail
  go_ret
  exact ⟨rfl, B2.out⟩
end Go.Proofs.YtdcmebegnekkcaaGreat
/-
  The walk of the law FnExactIsLabel.
-/
namespace Go.Proofs.YtdcmebegnekkcaaGreat
open Go.RowKit
set_option linter.unusedVariables false

set_option maxHeartbeats 16000000 in
set_option maxRecDepth 100000 in
theorem lawFnExactIsLabel (R C : Int) (a : Option Addr) (n cap : Nat) (zs : List It) (w : World) (hr : ItsAt w a n zs) (hok : ItsOk zs) :
    Calls Tryz.prog 4 #[lbV R C (.slice a n cap)] w fun e w' => e = .returned (.bool true) ∧ Below w.heap.size w w' := by
  have L0 := Lib.hid (LbB.new w R C (.slice a n cap) LLT)
  have B0 := Lib.hid (below1 w (.cells #[.int .i64 R, .int .i64 C, .slice a n cap] LLT))
  have A0 := Lib.hid (hr.below (below1 w (.cells #[.int .i64 R, .int .i64 C, .slice a n cap] LLT)))
  have HOK := Lib.hid hok
  have HLN := Lib.hid hr.len
  clear hr hok
  go_enter Tryz.func4, Tryz.ntmps4
  obtain ⟨X, hX⟩ : ∃ X, w.heap.size = X := ⟨_, rfl⟩
  obtain ⟨w1, hw1⟩ : ∃ w1, w.alloc (.cells #[.int .i64 R, .int .i64 C, .slice a n cap] LLT) = w1 := ⟨_, rfl⟩
  rw [hw1] at L0 B0 A0
  rw [hX] at L0
  have l0 := L0.out.c0
  have l1 := L0.out.c1
  have l2 := L0.out.c2
  have hX1 := L0.out.lt
  go_wp2_with fail
  (try rw [show w.alloc (.cells #[.int .i64 R, .int .i64 C, .slice a n cap] LLT) = w1 from hw1])
  clear hw1
  refine (szLabel_any R C A0.out HOK.out).mono ?_
  rintro e w2 ⟨⟨z, rfl, hz1, hzz⟩, hb2⟩
  have HZ := Lib.hid hzz
  clear hzz
  have L2 := Lib.hid (L0.out.below hb2)
  have A2 := Lib.hid (A0.out.below hb2)
  have B2 := Lib.hid (B0.out.trans (hb2.mono B0.out.size))
  clear hb2 l0 l1 l2 hX1 L0 A0 B0
  have l0 := L2.out.c0
  have l1 := L2.out.c1
  have l2 := L2.out.c2
  have hX1 := L2.out.lt
  by_cases hz : z < 0
  · go_wp2_with fail
    go_ret
    exact ⟨rfl, hX ▸ B2.out⟩
  obtain ⟨hn, htx⟩ := HZ.out (by omega)
  have HN := Lib.hid hn
  have HTX := Lib.hid htx
  clear hn htx
  go_wp2_with fail
  refine (toLabel_any R C A2.out HN.out).mono ?_
  rintro e w3 ⟨⟨K, rfl, hK, hT⟩, hb3⟩
  have S3 := Lib.hid (its_at hT HLN.out HN.out)
  clear hT hK
  have L3 := Lib.hid (L2.out.below hb3)
  have A3 := Lib.hid (A2.out.below hb3)
  have B3 := Lib.hid (B2.out.trans (hb3.mono B2.out.size))
  clear hb3 l0 l1 l2 hX1 L2 A2 B2
  have l0 := L3.out.c0
  have l1 := L3.out.c1
  have l2 := L3.out.c2
  have hX1 := L3.out.lt
  go_wp2_with fail
  refine (specIsLabel_any R C S3.out HTX.out).mono ?_
  rintro e w4 ⟨rfl, hb4⟩
  clear S3
  have L4 := Lib.hid (L3.out.below hb4)
  have A4 := Lib.hid (A3.out.below hb4)
  have B4 := Lib.hid (B3.out.trans (hb4.mono B3.out.size))
  clear hb4 l0 l1 l2 hX1 L3 A3 B3
  have l0 := L4.out.c0
  have l1 := L4.out.c1
  have l2 := L4.out.c2
  have hX1 := L4.out.lt
  go_wp2_with fail
  refine (toLabel_any R C A4.out HN.out).mono ?_
  rintro e w5 ⟨⟨K2, rfl, hK, hT⟩, hb5⟩
  have S5 := Lib.hid (its_at hT HLN.out HN.out)
  clear hT hK
  have L5 := Lib.hid (L4.out.below hb5)
  have A5 := Lib.hid (A4.out.below hb5)
  have B5 := Lib.hid (B4.out.trans (hb5.mono B4.out.size))
  clear hb5 l0 l1 l2 hX1 L4 A4 B4
  have l0 := L5.out.c0
  have l1 := L5.out.c1
  have l2 := L5.out.c2
  have hX1 := L5.out.lt
  have D6 := Lib.hid (LbB.new w5 R C (.slice (some ⟨K2, 0, none⟩) n n) LbT)
  have hb6 := below1 w5 (.cells #[.int .i64 R, .int .i64 C, .slice (some ⟨K2, 0, none⟩) n n] LbT)
  have S6 := Lib.hid (S5.out.below hb6)
  have L6 := Lib.hid (L5.out.below hb6)
  have A6 := Lib.hid (A5.out.below hb6)
  have B6 := Lib.hid (B5.out.trans (hb6.mono B5.out.size))
  clear hb6
  go_upto_region 7 with (fail)
  obtain ⟨w6, hw6⟩ : ∃ w6, w5.alloc (.cells #[.int .i64 R, .int .i64 C, .slice (some ⟨K2, 0, none⟩) n n] LbT) = w6 := ⟨_, rfl⟩
  rw [hw6] at D6 S6 L6 A6 B6
  rw [hw6]
  clear hw6
  generalize w5.heap.size = D at *
  clear L5 A5 B5 S5 l0 l1 l2 hX1
  have l0 := L6.out.c0
  have l1 := L6.out.c1
  have l2 := L6.out.c2
  have hX1 := L6.out.lt
  have d0 := D6.out.c0
  have d1 := D6.out.c1
  have d2 := D6.out.c2
  have hD1 := D6.out.lt
  go_wp2_with fail
  refine (implIsLabel_any R C S6.out HTX.out).mono ?_
  rintro e w7 ⟨rfl, hb7⟩
  clear d0 d1 d2 hD1
  have L7 := Lib.hid (L6.out.below hb7)
  have A7 := Lib.hid (A6.out.below hb7)
  have S7 := Lib.hid (S6.out.below hb7)
  have D7 := Lib.hid (D6.out.below hb7)
  have B7 := Lib.hid (B6.out.trans (hb7.mono B6.out.size))
  clear hb7 l0 l1 l2 hX1 L6 A6 S6 D6 B6
  have l0 := L7.out.c0
  have l1 := L7.out.c1
  have l2 := L7.out.c2
  have hX1 := L7.out.lt
  have d0 := D7.out.c0
  have d1 := D7.out.c1
  have d2 := D7.out.c2
  have hD1 := D7.out.lt
  have hbb : (labB R C zs != labB R C zs) = false := by simp
  generalize labB R C zs = q at *
  go_wp2_with fail
  have AD := Lib.hid (show ItsAt w7.drew a n zs from A7.out.below (Below.refl _ _).drew)
  have SD := Lib.hid (show ItsAt w7.drew (some ⟨K2, 0, none⟩) n zs from S7.out.below (Below.refl _ _).drew)
  refine wp_region_S (S := (fun w' => w'.cell? ⟨D, 0, none⟩ = some (.int .i64 R) ∧ w'.cell? ⟨D, 1, none⟩ = some (.int .i64 C) ∧ w'.cell? ⟨D, 2, none⟩ = some (.slice (some ⟨K2, 0, none⟩) n n) ∧ w'.cell? ⟨X, 0, none⟩ = some (.int .i64 R) ∧ w'.cell? ⟨X, 1, none⟩ = some (.int .i64 C) ∧ w'.cell? ⟨X, 2, none⟩ = some (.slice a n cap))) 5 rfl (by kernel_rfl) ?_ (fun hHeld => ?_)
  · (try dsimp only); exact ⟨d0, d1, d2, l0, l1, l2⟩
  refine wpAnyH_take (i := 0) (oi := _) (v := ?_) rfl (by kernel_rfl) (by kernel_rfl) (by kernel_rfl) (fun _ _ _ h => h) (Or.inl ⟨by kernel_rfl, ?_⟩) hHeld ?_
  rotate_left
  · intro w0 hSw; (try dsimp only at hSw); go_simp; (try with_reducible rfl)
  (try dsimp only [Act.put, List.setIfInBounds_toArray, List.set_cons_zero, List.set_cons_succ])
  refine wpAnyH_take (i := 1) (oi := _) (v := ?_) rfl (by kernel_rfl) (by kernel_rfl) (by kernel_rfl) (fun _ _ _ h => h) (Or.inl ⟨by kernel_rfl, ?_⟩) hHeld ?_
  rotate_left
  · intro w0 hSw; (try dsimp only at hSw); go_simp; (try with_reducible rfl)
  (try dsimp only [Act.put, List.setIfInBounds_toArray, List.set_cons_zero, List.set_cons_succ])
  refine wpAnyH_ready (rs := [2]) (by kernel_rfl) (by simp) ?_
  refine AllReadyH.cons (o := _) rfl (fun K hK => ?_) AllReadyH.nil
  go_simp
  refine (toLabel_any R C AD.out HN.out).mono ?_
  rintro e w8 ⟨⟨K3, rfl, hK, hT⟩, hb8⟩
  have S8 := Lib.hid (its_at hT HLN.out HN.out)
  have SE := Lib.hid (SD.out.below hb8)
  clear hT hK
  go_wp2_with fail
  refine hK.out _ _ ?_ (fun hHeld => ?_)
  · (try dsimp only); exact ⟨keep_cell hb8 hHeld.1, keep_cell hb8 hHeld.2.1, keep_cell hb8 hHeld.2.2.1, keep_cell hb8 hHeld.2.2.2.1, keep_cell hb8 hHeld.2.2.2.2.1, keep_cell hb8 hHeld.2.2.2.2.2⟩
  clear hK K
  (try dsimp only [Act.put, List.setIfInBounds_toArray, List.set_cons_zero, List.set_cons_succ])
  refine wpAnyH_ready (rs := [3]) (by kernel_rfl) (by simp) ?_
  refine AllReadyH.cons (o := _) rfl (fun K hK => ?_) AllReadyH.nil
  go_simp
  refine (eqLabel_same R C SE.out S8.out HN.out).mono ?_
  rintro e w9 ⟨rfl, hb9⟩
  go_wp2_with fail
  refine hK.out _ _ ?_ (fun hHeld => ?_)
  · (try dsimp only); exact ⟨keep_cell hb9 hHeld.1, keep_cell hb9 hHeld.2.1, keep_cell hb9 hHeld.2.2.1, keep_cell hb9 hHeld.2.2.2.1, keep_cell hb9 hHeld.2.2.2.2.1, keep_cell hb9 hHeld.2.2.2.2.2⟩
  clear hK K
  (try dsimp only [Act.put, List.setIfInBounds_toArray, List.set_cons_zero, List.set_cons_succ])
  refine wpAnyH_take (i := 4) (oi := _) (v := ?_) rfl (by kernel_rfl) (by kernel_rfl) (by kernel_rfl) (fun _ _ _ h => h) (Or.inl ⟨by kernel_rfl, ?_⟩) hHeld ?_
  rotate_left
  · intro w0 hSw; (try dsimp only at hSw); go_simp; (try with_reducible rfl)
  (try dsimp only [Act.put, List.setIfInBounds_toArray, List.set_cons_zero, List.set_cons_succ])
  refine wpAnyH_done (by kernel_rfl) ?_ _
  go_simp
  have B9 := Lib.hid (B7.out.trans (((Below.refl w7.heap.size w7).drew.trans (hb8.trans (hb9.mono hb8.size))).mono B7.out.size))
  clear hHeld hb8 hb9
  go_wp2_with fail
  go_ret
  exact ⟨rfl, hX ▸ B9.out⟩
end Go.Proofs.YtdcmebegnekkcaaGreat
/-
  Opening a label that comes in.
-/
namespace Go.Proofs.YtdcmebegnekkcaaGreat
open Go.ChangeShapes Go.WideShapes Go.ChangeAt Go.RowKit Go.Joins Go.Deep
set_option linter.unusedVariables false

theorem addr_addI (b off k : Nat) : (⟨b, off, none⟩ : Addr).add k = ⟨b, off + k, none⟩ := by unfold Addr.add; by_cases h : k = 0 <;> simp [h]
theorem itL_at (y : It) {j : Nat} (hj : j < 9) : (itL y)[j]? = some (itF y j) := by
  unfold itF
  rw [List.getD_eq_getElem?_getD]
  obtain ⟨v, hv⟩ : ∃ v, (itL y)[j]? = some v := ⟨_, List.getElem?_eq_getElem (by show j < 9; exact hj)⟩
  rw [hv]; rfl
theorem open_items {H : Type} {enc : TypeId × Value → H} {W : World} {fuel : Nat} {c2 : Value} {x : DataW H × List MemPlace}
    (hf : DataW.trod enc Tryz.prog W 0 (fun _ => true) true fuel 34 [c2] = some x) : ∃ a n cap zs, c2 = .slice a n cap ∧ ItsAt W a n zs ∧ ItsOk zs := by
  rcases open_slice Tryz.underlying34 hf with ⟨hcs, _⟩ | ⟨x, l, c, m, n, D, Pl, hcs, _, hl, hm, hmm, hx, hi⟩
  · simp only [List.cons.injEq, and_true] at hcs
    subst hcs
    exact ⟨none, 0, 0, [], rfl, ⟨rfl, by omega, fun h => by omega⟩, fun i hi => by simp at hi⟩
  · simp only [List.cons.injEq, and_true] at hcs
    subst hcs
    have hmm2 : m = c := by simpa using hmm
    unfold maxLen at hm
    have key : ∀ i, i < l → ∃ y : It, ItOk y ∧ ∀ j, j < 9 → W.cell? ((x.add (i * 9)).add j) = some (itF y j) := by
      intro i hil
      obtain ⟨cs', hc, ht'⟩ := hi i (by omega)
      rw [cells_item] at hc
      obtain ⟨_, hcl, hat⟩ := World.cells?_some hc
      obtain ⟨y, e, hok⟩ := item_cells (show cs'.length = 9 from hcl) ht'
      refine ⟨y, hok, fun j hj => ?_⟩
      have h := hat j (by omega)
      rw [e] at h
      rw [itL_at y hj] at h
      exact h
    obtain ⟨f, hf⟩ : ∃ f : Nat → It, ∀ i, i < l → ItOk (f i) ∧ ∀ j, j < 9 → W.cell? ((x.add (i * 9)).add j) = some (itF (f i) j) := by
      classical
      exact ⟨fun i => if h : i < l then Classical.choose (key i h) else it0, fun i h => by simp only [dif_pos h]; exact Classical.choose_spec (key i h)⟩
    have hg : ∀ i, i < l → giI ((List.range l).map f) i = f i := fun i hi => by unfold giI; rw [List.getD_eq_getElem?_getD]; simp [hi]
    refine ⟨some x, l, c, (List.range l).map f, rfl, ⟨by simp, by omega, fun hn => ?_⟩, fun i hi => ?_⟩
    · obtain ⟨b, off, spot⟩ := x
      have h0 := (hf 0 hn).2 0 (by omega)
      have hspot : spot = none := by simpa [Addr.add] using World.cell?_spot h0
      subst hspot
      refine ⟨b, off, rfl, World.block_lt_of_cell? _ ⟨b, off, none⟩ (by simpa [Addr.add] using h0), fun i hi j hj => ?_⟩
      have h := (hf i hi).2 j hj
      rw [addr_addI, addr_addI] at h
      rw [hg i hi]
      exact h
    · simp at hi
      rw [hg i hi]
      exact (hf i hi).1
theorem cells_label : Tryz.prog.cellsOf 36 = 3 := by kernel_rfl
theorem cells_intL : Tryz.prog.cellsOf 2 = 1 := by kernel_rfl
theorem cells_itms : Tryz.prog.cellsOf 34 = 1 := by kernel_rfl
set_option maxRecDepth 100000 in
theorem open_label {H : Type} {enc : TypeId × Value → H} {W : World} {r : Reach} {b0 : Nat} {v : Value} {d : DataW H} {p : List MemPlace}
    (hv : Value.okWide Tryz.prog W r b0 36 v) (h : DataW.Trod enc Tryz.prog W 0 (fun _ => true) true 36 v d p) :
    ∃ (R C : Int) (a : Option Addr) (n cap : Nat) (zs : List It), v = lbV R C (.slice a n cap) ∧ ItsAt W a n zs ∧ ItsOk zs := by
  obtain ⟨cs, rfl, hsz⟩ := okWide_struct Tryz.underlying36 hv
  obtain ⟨fuel, hf⟩ := h
  have h3 : cs.size = 3 := hsz.trans cells_label
  obtain ⟨l⟩ := cs
  match l, h3 with
  | [c0, c1, c2], _ =>
    obtain ⟨z0, z1, z2, m, _, _, g0, g1, g2⟩ := Go.Deep.trod_struct3 Tryz.underlying36 hf
    simp only [cells_intL, cells_itms, Value.cells, List.drop_zero, List.take_succ_cons, List.take_zero, List.drop_succ_cons] at g0 g1 g2
    obtain ⟨a0, e0, _, w0⟩ := DataW.trod_int Tryz.underlying2 g0
    obtain ⟨a1, e1, _, w1⟩ := DataW.trod_int Tryz.underlying2 g1
    simp only [List.cons.injEq, and_true] at e0 e1
    subst e0 e1
    obtain ⟨a, n, cap, zs, rfl, h1, h2⟩ := open_items g2
    exact ⟨a0, a1, a, n, cap, zs, rfl, h1, h2⟩
end Go.Proofs.YtdcmebegnekkcaaGreat
