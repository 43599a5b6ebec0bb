/-
  The reference's DecodeStream: its walk.
-/
import Derived.Test.YtfhkkpfiflgofaaDecT
namespace Go.Proofs.Ytfhkkpfiflgofaa
open Go.RowKit
set_option linter.unusedVariables false

theorem tot_num {D C N : Int} {q r n c : Nat} (hl : LN D C N q r n c) : D + N * C = (((ordS q r n c).length : Nat) : Int) := by
  obtain ⟨mm, hmm, hm2, -⟩ := hl.mul
  have hD := hl.hD
  rw [ordS_length q r n c (Nat.le_of_lt hl.rn), hmm]
  have : n * q = q * n := Nat.mul_comm _ _
  omega
theorem ord_small {D C N : Int} {q r n c : Nat} (hl : LN D C N q r n c) (htot : q * n + r + n * c ≤ 1500) : (ordS q r n c).length ≤ 1500 := by
  rw [ordS_length q r n c (Nat.le_of_lt hl.rn)]
  have : n * q = q * n := Nat.mul_comm _ _
  omega
set_option maxHeartbeats 4000000 in
set_option maxRecDepth 100000 in
theorem specDecodeStreamO_any (p pw g D C N : Int) (w : World) {a : Option Addr} {m cap : Nat} {s : List Int} (hr : RowAt w a m s) {a' : Option Addr} {n' cap' : Nat} {E : List Int} (hr' : RowAt w a' n' E) :
    Calls Try.prog 36 #[lV p pw g D C N, .slice a m cap, .slice a' n' cap'] w fun e w' => ∃ v, e = .returned (.tuple #[v, .int .i64 (dsM p pw g D C N s E), .int .i64 (dsC p pw g D C N s E)]) ∧ Below w.heap.size w w' ∧ OwnL w' w.heap.size v (dsR p pw g D C N s E) := by
  have HR := Lib.hid hr
  have HR' := Lib.hid hr'
  have hlen := Lib.hid hr.len
  have hlen' := Lib.hid hr'.len
  have HB := Lib.hid (below1 w (.cells #[.int .i64 p, .int .i64 pw, .int .i64 g, .int .i64 D, .int .i64 C, .int .i64 N] LT))
  have L0 := Lib.hid (LB.new w p pw g D C N)
  have HCO := Lib.hid (fun W (hb : Below w.heap.size w W) => l07Code_any p pw g D C N W (cap := cap) (HR.out.below' hb))
  clear hr hr'
  go_enter Try.func36, Try.ntmps36
  go_wp2_with fail
  refine (HCO.out _ HB.out).mono ?_
  rintro e w2 ⟨rfl, hb2⟩
  have B2 := Lib.hid (HB.out.trans (hb2.mono HB.out.size))
  have L2 := Lib.hid (L0.out.below hb2 L0.out.lt)
  clear hb2 HB L0 HCO
  by_cases hc : scC p pw g D C N s = 0
  rotate_left
  · have hcn : (scC p pw g D C N s != 0) = true := by simp [hc]
    obtain ⟨f0, f1, f2⟩ := ds_bad (E := E) hc
    have hf0 := Lib.hid f0
    have hf1 := Lib.hid f1
    have hf2 := Lib.hid f2
    clear f0 f1 f2 hc
    generalize scC p pw g D C N s = cc at *
    go_wp2_with fail
    go_ret3
    exact ⟨_, by rw [hf0.out, hf2.out]; rfl, B2.out, by rw [hf1.out]; exact OwnL.nil _ _ B2.out.size⟩
  have hcn : (scC p pw g D C N s != 0) = false := by simp [hc]
  obtain ⟨hlay, hln, hal⟩ := sc_zero hc
  obtain ⟨q, r, n, c, hl, htot, hval, hvB⟩ := lay_ok hlay
  have HL := Lib.hid hl
  have HSC := Lib.hid hc
  have htn := tot_num hl
  have hsm := ord_small hl htot
  have HTN := Lib.hid htn
  obtain ⟨T, hT⟩ : ∃ T, (ordS q r n c).length = T := ⟨_, rfl⟩
  have HTT := Lib.hid hT
  rw [hT] at HTN hsm
  have HMM := Lib.hid (show m = (ordS q r n c).length by have h1 := hlen.out; rw [htn] at hln; omega)
  have HMA := Lib.hid (fun W (hb : Below w.heap.size w W) => l07Marks_any (T : Int) (by omega) (by omega) (cap := cap') (HR'.out.below' hb))
  have HTO := Lib.hid (fun W => l07Total_any p pw g HL.out W)
  rw [HTN.out] at HTO
  have HDE := Lib.hid (fun W (hb : Below w.heap.size w W) (hris : RisTo 0 (((ordS q r n c).length : Int) - 1) E n') => l07Decode_any p pw g hl htot hval W (cap := cap) (HR.out.below' hb) HMM.out hal (cap' := cap') (HR'.out.below' hb) hris)
  have k0 := L2.out.c0
  have k1 := L2.out.c1
  have k2 := L2.out.c2
  have k3 := L2.out.c3
  have k4 := L2.out.c4
  have k5 := L2.out.c5
  clear hc hlay hln hal hl htot hval hvB htn hT
  generalize hgg : scC p pw g D C N s = cc at hcn ⊢
  clear hgg
  go_wp2_with fail
  refine (HTO.out _).mono ?_
  rintro e w3 ⟨rfl, hb3⟩
  have B3 := Lib.hid (B2.out.trans (hb3.mono B2.out.size))
  have L3 := Lib.hid (L2.out.below hb3 L2.out.lt)
  clear hb3 k0 k1 k2 k3 k4 k5
  go_wp2_with fail
  refine (HMA.out _ B3.out).mono ?_
  rintro e w4 ⟨rfl, hb4⟩
  have B4 := Lib.hid (B3.out.trans (hb4.mono B3.out.size))
  have L4 := Lib.hid (L3.out.below hb4 L3.out.lt)
  clear hb4
  cases hris : risB 0 ((T : Int) - 1) E with
  | false =>
    obtain ⟨f0, f1, f2⟩ := ds_state (E := E) HSC.out (by rw [HTN.out]; exact hris)
    have hf0 := Lib.hid f0
    have hf1 := Lib.hid f1
    have hf2 := Lib.hid f2
    clear f0 f1 f2 hris
    go_wp2_with fail
    go_ret3
    exact ⟨_, by rw [hf0.out, hf2.out]; rfl, B4.out, by rw [hf1.out]; exact OwnL.nil _ _ B4.out.size⟩
  | true =>
  have HRI := Lib.hid (show RisTo 0 (((ordS q r n c).length : Int) - 1) E n' by rw [HTT.out, ← hlen'.out]; exact risB_iff hris)
  have HRB := Lib.hid (show risB 0 (D + N * C - 1) E = true by rw [HTN.out]; exact hris)
  have k0 := L4.out.c0
  have k1 := L4.out.c1
  have k2 := L4.out.c2
  have k3 := L4.out.c3
  have k4 := L4.out.c4
  have k5 := L4.out.c5
  clear hris
  go_wp2_with fail
  refine (HDE.out _ B4.out HRI.out).mono ?_
  rintro e w5 ⟨v5, rfl, hb5, ho5⟩
  have B5 := Lib.hid (B4.out.trans (hb5.mono B4.out.size))
  have O5 := Lib.hid (ho5.lower (C := w.heap.size) B4.out.size)
  clear hb5 ho5 k0 k1 k2 k3 k4 k5
  cases hf : dsF p pw g q r n c s E with
  | false =>
    obtain ⟨f0, f1, f2⟩ := ds_damage HSC.out HRB.out HL.out hf
    have hf0 := Lib.hid f0
    have hf1 := Lib.hid f1
    have hf2 := Lib.hid f2
    clear f0 f1 f2 hf
    go_wp2_with fail
    go_ret3
    exact ⟨_, by rw [hf0.out, hf2.out]; rfl, B5.out, by rw [hf1.out]; exact OwnL.nil _ _ B5.out.size⟩
  | true =>
    obtain ⟨f0, f1, f2⟩ := ds_ok HSC.out HRB.out HL.out hf
    obtain ⟨g1, g2⟩ := dd_yes hf
    have hf0 := Lib.hid f0
    have hf1 := Lib.hid (f1.trans g2.symm)
    have hf2 := Lib.hid (f2.trans g1.symm)
    clear f0 f1 f2 hf g1 g2
    generalize ddN p pw g q r n c s E = dn at *
    go_wp2_with fail
    go_ret3
    exact ⟨_, by rw [hf0.out, hf2.out]; rfl, B5.out, by rw [hf1.out]; exact O5.out⟩
theorem specDecodeStream_any (p pw g D C N : Int) (w : World) {a : Option Addr} {m cap : Nat} {s : List Int} (hr : RowAt w a m s) {a' : Option Addr} {n' cap' : Nat} {E : List Int} (hr' : RowAt w a' n' E) :
    Calls Try.prog 36 #[lV p pw g D C N, .slice a m cap, .slice a' n' cap'] w fun e w' => ∃ v, e = .returned (.tuple #[v, .int .i64 (dsM p pw g D C N s E), .int .i64 (dsC p pw g D C N s E)]) ∧ Below w.heap.size w w' ∧ ResL w w' v (dsR p pw g D C N s E) :=
  (specDecodeStreamO_any p pw g D C N w hr hr').mono fun e w' ⟨v, he, hb, ho⟩ => ⟨v, he, hb, ho.res (Nat.le_refl _)⟩
theorem dsR_len (p pw g D C N : Int) (s E : List Int) : (dsR p pw g D C N s E).length ≤ 1048576 := by
  by_cases h : dsC p pw g D C N s E = 0
  · unfold dsR
    rw [if_pos h]
    have h0 : scC p pw g D C N s = 0 := by
      apply Classical.byContradiction
      intro hn
      rw [(ds_bad hn).1] at h
      exact hn h
    obtain ⟨hlay, _, _⟩ := sc_zero h0
    obtain ⟨q, r, n, c, hl, htot, _, _⟩ := lay_ok hlay
    obtain ⟨e1, e2, e3, e4⟩ := hl.nats
    rw [e1, e2, e3, e4]
    have h1 := dsTo_len p pw g q r n c s E n
    have h2 : n * (q + 1) ≤ 16 * 1501 := Nat.mul_le_mul hl.n16 (by have := hl.qle; omega)
    omega
  · rw [(ds_no h).1]; simp
end Go.Proofs.Ytfhkkpfiflgofaa
