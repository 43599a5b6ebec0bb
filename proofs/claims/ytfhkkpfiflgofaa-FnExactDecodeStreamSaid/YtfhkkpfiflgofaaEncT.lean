/-
  The reference's EncodeStream and stream code.
-/
import Derived.Test.YtfhkkpfiflgofaaEncS
namespace Go.Proofs.Ytfhkkpfiflgofaa
open Go.RowKit
set_option linter.unusedVariables false

set_option maxHeartbeats 4000000 in
set_option maxRecDepth 100000 in
theorem specEncodeStreamO_any (p pw g D C N : Int) (w : World) {a : Option Addr} {m cap : Nat} {zs : List Int} (hr : RowAt w a m zs) (hcap : m ≤ cap) :
    Calls Try.prog 10 #[lV p pw g D C N, .slice a m cap] w fun e w' => ∃ v, e = .returned (.tuple #[v, .int .i64 (esC p pw g D C N zs)]) ∧ Below w.heap.size w w' ∧ OwnL w' w.heap.size v (esR p pw g D C N zs) := by
  have HR := Lib.hid hr
  have hlen := Lib.hid hr.len
  have hsm := hr.small
  have HB := Lib.hid (below1 w (.cells #[.int .i64 p, .int .i64 pw, .int .i64 g, .int .i64 D, .int .i64 C, .int .i64 N] LT))
  have L0 := Lib.hid (LB.new w p pw g D C N)
  clear hr
  go_enter Try.func10, Try.ntmps10
  go_wp2_with fail
  refine (specIsLayout_any p pw g D C N _).mono ?_
  rintro e w2 ⟨rfl, hb2⟩
  have B2 := Lib.hid (HB.out.trans (hb2.mono HB.out.size))
  have L2 := Lib.hid (L0.out.below hb2 L0.out.lt)
  clear hb2 HB L0
  cases hlay : layB p pw g D C N with
  | false =>
    obtain ⟨f0, f1⟩ := es_bad (zs := zs) hlay
    have hf0 := Lib.hid f0
    have hf1 := Lib.hid f1
    clear f0 f1 hlay
    go_wp2_with fail
    go_ret2
    exact ⟨_, by rw [hf0.out]; rfl, B2.out, by rw [hf1.out]; exact OwnL.nil _ _ B2.out.size⟩
  | true =>
  obtain ⟨q, r, n, c, hl, htot, hval, hvB⟩ := lay_ok hlay
  have HI := Lib.hid (fun W (hb : Below w.heap.size w W) => l02Is_any p pw g (ranged_of hvB) W (cap := cap) (HR.out.below' hb))
  have HL := Lib.hid hl
  have HTOT := Lib.hid htot
  have HV := Lib.hid hval
  have HLAY := Lib.hid hlay
  have HD := Lib.hid hl.hD
  clear hl htot hval hvB hlay
  have k0 := L2.out.c0
  have k1 := L2.out.c1
  have k2 := L2.out.c2
  have k3 := L2.out.c3
  have k4 := L2.out.c4
  have k5 := L2.out.c5
  by_cases hn : (m : Int) = D
  rotate_left
  · obtain ⟨f0, f1⟩ := es_range (zs := zs) HLAY.out (fun x => hn (by rw [← hlen.out]; exact x.1))
    have hf0 := Lib.hid f0
    have hf1 := Lib.hid f1
    have hn' : ((m : Int) != D) = true := by simp; omega
    clear f0 f1
    go_wp2_with fail
    go_ret2
    exact ⟨_, by rw [hf0.out]; rfl, B2.out, by rw [hf1.out]; exact OwnL.nil _ _ B2.out.size⟩
  have hn' : ((m : Int) != D) = false := by simp; omega
  have HN := Lib.hid hn
  clear hn
  go_wp2_with fail
  refine (HI.out _ B2.out).mono ?_
  rintro e w3 ⟨rfl, hb3⟩
  have B3 := Lib.hid (B2.out.trans (hb3.mono B2.out.size))
  have L3 := Lib.hid (L2.out.below hb3 L2.out.lt)
  clear hb3 k0 k1 k2 k3 k4 k5
  cases hal : allB (ffOf p pw g) zs
  · obtain ⟨f0, f1⟩ := es_range (zs := zs) HLAY.out (fun x => by rw [hal] at x; cases x.2)
    have hf0 := Lib.hid f0
    have hf1 := Lib.hid f1
    clear f0 f1
    go_wp2_with fail
    go_ret2
    exact ⟨_, by rw [hf0.out]; rfl, B3.out, by rw [hf1.out]; exact OwnL.nil _ _ B3.out.size⟩
  · obtain ⟨f0, f1⟩ := es_ok (zs := zs) HLAY.out (by rw [hlen.out]; exact HN.out) hal HL.out
    have hf0 := Lib.hid f0
    have hf1 := Lib.hid f1
    have HE := Lib.hid (l07Encode_any p pw g HL.out HTOT.out HV.out w3 (HR.out.below' B3.out) hcap (by have h1 := HN.out; have h2 := HD.out; omega) hal)
    clear f0 f1
    have k0 := L3.out.c0
    have k1 := L3.out.c1
    have k2 := L3.out.c2
    have k3 := L3.out.c3
    have k4 := L3.out.c4
    have k5 := L3.out.c5
    go_wp2_with fail
    refine HE.out.mono ?_
    rintro e w4 ⟨v4, rfl, hb4, ho4⟩
    have B4 := Lib.hid (B3.out.trans (hb4.mono B3.out.size))
    have O4 := Lib.hid (ho4.lower (C := w.heap.size) B3.out.size)
    clear hb4 ho4
    go_wp2_with fail
    go_ret2
    exact ⟨_, by rw [hf0.out]; rfl, B4.out, by rw [hf1.out]; exact O4.out⟩
theorem specEncodeStream_any (p pw g D C N : Int) (w : World) {a : Option Addr} {m cap : Nat} {zs : List Int} (hr : RowAt w a m zs) (hcap : m ≤ cap) :
    Calls Try.prog 10 #[lV p pw g D C N, .slice a m cap] w fun e w' => ∃ v, e = .returned (.tuple #[v, .int .i64 (esC p pw g D C N zs)]) ∧ Below w.heap.size w w' ∧ ResL w w' v (esR p pw g D C N zs) :=
  (specEncodeStreamO_any p pw g D C N w hr hcap).mono fun e w' ⟨v, he, hb, ho⟩ => ⟨v, he, hb, ho.res (Nat.le_refl _)⟩
end Go.Proofs.Ytfhkkpfiflgofaa
