/-
  The walk of the law FnEncoded.
-/
import Derived.Test.YthbiieflmmnfcaaDrawEnc
import Derived.Test.YthbiieflmmnfcaaLike
import Derived.Test.YthbiieflmmnfcaaEncLaw
import Derived.Test.YthbiieflmmnfcaaFrameB
namespace Go.Proofs.Ythbiieflmmnfcaa
open Go.RowKit
set_option linter.unusedVariables false

/-- The plain law. -/
theorem encoded_plain {p pw g l c : Int} {P : List Int} (h : encC p pw g l c P = 0) :
    codeC p pw g l c [encWR p pw g l c P] = 0 ∧ moR p pw g l c (encWR p pw g l c P) = P ∧ (∀ k, k < (soR p pw g l c (encWR p pw g l c P)).length → gi (soR p pw g l c (encWR p pw g l c P)) k = 0) ∧
    ((soR p pw g l c (encWR p pw g l c P)).length : Int) = c ∧ icwB p pw g l c (encWR p pw g l c P) = true := by
  have hv : validC p pw g l c = true := by
    cases hv : validC p pw g l c
    · rw [(enc_bad hv).1] at h; cases h
    · rfl
  have h2 : (P.length : Int) = l - c ∧ allB (ffOf p pw g) P = true := by
    unfold encC at h
    rw [if_pos hv] at h
    split at h
    · assumption
    · cases h
  obtain ⟨hvB, hc1, hc2, hcl, hl1, _⟩ := validC_iff hv
  obtain ⟨V, hs, hz, f0, f1⟩ := enc_ok hv h2.1 h2.2
  have hm : P.length + c.toNat = l.toNat := by omega
  have hW := encL_els (V := V) hm hz
  have hS := fun j hj => enc_syn (V := V) hm hz j hj
  have hlen : (encL V l.toNat c.toNat P).length = l.toNat := by rw [encL_length]; exact hm
  have htake : (encL V l.toNat c.toNat P).take (l - c).toNat = P := by
    unfold encL
    rw [show (l - c).toNat = P.length by omega, List.take_left]
  rw [f1]
  generalize encL V l.toNat c.toNat P = W at *
  have hc : codeC p pw g l c [W] = 0 := by
    unfold codeC
    rw [if_pos hv, if_pos]
    unfold wordsB wordB
    simp only [List.all_cons, List.all_nil, Bool.and_true, Bool.and_eq_true, decide_eq_true_eq]
    exact ⟨by omega, allB_iff.2 (by rw [← hs.sf.hV]; exact hW)⟩
  have hso : soR p pw g l c W = syn (ffOf p pw g) W c.toNat := by unfold soR; rw [if_pos hc]
  have hz0 : ∀ k, k < c.toNat → gi (syn (ffOf p pw g) W c.toNat) k = 0 := fun k hk => by rw [syn_gi _ _ hk, ← hs.sf.hV]; exact hS k hk
  refine ⟨hc, by unfold moR; rw [if_pos hc, htake], ?_, by rw [hso, syn_length]; omega, ?_⟩
  · rw [hso, syn_length]; exact hz0
  · unfold icwB
    rw [decide_eq_true hc, Bool.true_and]
    unfold zeroB
    rw [List.all_eq_true]
    intro z hz
    obtain ⟨j, hj, rfl⟩ := List.mem_iff_getElem.1 hz
    rw [syn_length] at hj
    have := hz0 j hj
    unfold gi at this
    rw [List.getD_eq_getElem?_getD, List.getElem?_eq_getElem (by rw [syn_length]; exact hj)] at this
    simpa using this
set_option maxHeartbeats 8000000 in
set_option maxRecDepth 100000 in
theorem lawFnEncoded (s0 : Option Addr) (n0 cap0 : Nat) (z0 : List Int) (w : World) (hr : RowB w s0 n0 z0) :
    Calls Try.prog 5 #[.slice s0 n0 cap0] w fun e w' => e = .returned (.bool true) ∧ Below w.heap.size w w' := by
  have HR := Lib.hid hr
  clear hr
  go_enter Try.func5, Try.ntmps5
  go_wp2_with fail
  refine (bigL_any _ _ _ _).mono ?_
  rintro e w1 ⟨rfl, rfl⟩
  by_cases hbig : (4096 : Int) < (n0 : Int)
  · go_wp2_with fail
    go_ret
    exact ⟨rfl, Below.refl _ _⟩
  go_wp2_with fail
  refine (DrawEncodeWord_any HR.out).mono ?_
  rintro e w1 ⟨p, pw, g, l, c, vP, rfl, hb1, zP, hoP, hlP⟩
  obtain ⟨aP, capP, rfl, hcpP, hcaP, hoaP⟩ := hoP.cap
  have CAP := Lib.hid hcaP
  have CPP := Lib.hid hcpP
  have RP := Lib.hid (hoaP.row.below' (below1 w1 (.cells #[.int .i64 p, .int .i64 pw, .int .i64 g, .int .i64 l, .int .i64 c] CT)))
  clear hcaP hoaP hoP hcpP
  have B2 := Lib.hid (hb1.alloc hb1.size (.cells #[.int .i64 p, .int .i64 pw, .int .i64 g, .int .i64 l, .int .i64 c] CT))
  have X2 := Lib.hid (CB.new w1 p pw g l c)
  obtain ⟨X, hX⟩ : ∃ X, X = w1.heap.size := ⟨_, rfl⟩
  rw [← hX] at X2
  clear hb1
  go_wp2_with fail
  rw [← hX]
  clear hX
  generalize w1.alloc (.cells #[.int .i64 p, .int .i64 pw, .int .i64 g, .int .i64 l, .int .i64 c] CT) = w2 at *
  have k0 := X2.out.c0
  have k1 := X2.out.c1
  have k2 := X2.out.c2
  have k3 := X2.out.c3
  have k4 := X2.out.c4
  go_wp2_with fail
  refine (implEncodeWordO_any p pw g l c _ RP.out CAP.out).mono ?_
  rintro e w3 ⟨vx, rfl, hb3, hoA⟩
  have B3 := Lib.hid (B2.out.trans (hb3.mono B2.out.size))
  have X3 := Lib.hid (X2.out.below hb3 X2.out.lt)
  have RP' := Lib.hid (RP.out.below' hb3)
  clear RP k0 k1 k2 k3 k4 hb3 B2 X2
  have RP := RP'
  clear RP'
  obtain ⟨aA, capA, rfl, hcpA, hcaA, hoaA⟩ := hoA.cap
  have CAA := Lib.hid hcaA
  have CPA := Lib.hid hcpA
  have RA := Lib.hid hoaA.row
  clear hcaA hoaA hcpA hoA
  have k0 := X3.out.c0
  have k1 := X3.out.c1
  have k2 := X3.out.c2
  have k3 := X3.out.c3
  have k4 := X3.out.c4
  go_wp2_with fail
  refine (specEncodeWord_any p pw g l c _ RP.out CAP.out).mono ?_
  rintro e w4 ⟨vx, rfl, hb4, hrC⟩
  have B4 := Lib.hid (B3.out.trans (hb4.mono B3.out.size))
  have X4 := Lib.hid (X3.out.below hb4 X3.out.lt)
  have RP' := Lib.hid (RP.out.below' hb4)
  have RA' := Lib.hid (RA.out.below' hb4)
  clear RP RA k0 k1 k2 k3 k4 hb4 B3 X3
  have RP := RP'
  have RA := RA'
  clear RP' RA'
  obtain ⟨aC, capC, rfl, hcaC, hoC⟩ := hrC
  have CAC := Lib.hid hcaC
  have RC := Lib.hid hoC.row
  clear hcaC hoC
  have k0 := X4.out.c0
  have k1 := X4.out.c1
  have k2 := X4.out.c2
  have k3 := X4.out.c3
  have k4 := X4.out.c4
  have HP := Lib.hid (fun h => encoded_plain (p := p) (pw := pw) (g := g) (l := l) (c := c) (P := zP) h)
  generalize encWR p pw g l c zP = x at *
  generalize encC p pw g l c zP = cd at *
  have hl4 := X4.out.lt
  have RAD := Lib.hid (RA.out.below' (Drew.below (drew1 w4) _))
  have RCD := Lib.hid (RC.out.below' (Drew.below (drew1 w4) _))
  go_wp2_with fail
  go_region_held3 (fun w' => w'.cell? ⟨X, 0, none⟩ = some (.int .i64 p) ∧ w'.cell? ⟨X, 1, none⟩ = some (.int .i64 pw) ∧ w'.cell? ⟨X, 2, none⟩ = some (.int .i64 g) ∧ w'.cell? ⟨X, 3, none⟩ = some (.int .i64 l) ∧ w'.cell? ⟨X, 4, none⟩ = some (.int .i64 c))
    (first | go_keep | ((try (dsimp only)); go_split_ands; (repeat' apply And.intro); all_goals (first | assumption | exact keep_cell hbL (by assumption) | exact keep_cell hbI (by assumption) | exact keep_cell hbS (by assumption))))
    (first
      | (go_at_call 31; refine (likeInts_any RAD.out RCD.out).mono ?_; rintro e wL ⟨rfl, hbL⟩; simp only [decide_true])
      | (go_at_call 32; refine (implIsCode_any p pw g l c _).mono ?_; rintro e wI ⟨rfl, hbI⟩)
      | (go_at_call 33; refine (isCode_any p pw g l c _).mono ?_; rintro e w5 ⟨rfl, hbS⟩))
  have hb5 := Below.more (Below.more (Below.trans (Drew.below (drew1 w4) w4.heap.size) hbL) (Nat.le_refl _) hbI) (Nat.le_refl _) hbS
  have B5 := Lib.hid (B4.out.trans (hb5.mono B4.out.size))
  have X5 := Lib.hid (X4.out.below hb5 hl4)
  have RP' := Lib.hid (RP.out.below' hb5)
  have RA' := Lib.hid (RA.out.below' hb5)
  clear RP RA RC RAD RCD B4 X4 k0 k1 k2 k3 k4 hbL hbI hbS hb5 hl4
  have RP := RP'
  have RA := RA'
  clear RP' RA'
  have k0 := X5.out.c0
  have k1 := X5.out.c1
  have k2 := X5.out.c2
  have k3 := X5.out.c3
  have k4 := X5.out.c4
  by_cases hcd : cd = 0
  rotate_left
  · have hne : (cd != 0) = true := by simp [hcd]
    clear hcd
    go_wp2_with fail
    go_ret
    exact ⟨rfl, B5.out⟩
  have hne : (cd != 0) = false := by simp [hcd]
  obtain ⟨e1, e2, e3, e4, e5⟩ := HP.out hcd
  have HE := Lib.hid e3
  clear hcd HP e3
  go_wp2_with fail
  refine (implMessageOf_any p pw g l c _ RA.out CAA.out CPA.out).mono ?_
  rintro e w6 ⟨vm, rfl, hb6, hrM⟩
  have B6 := Lib.hid (B5.out.trans (hb6.mono B5.out.size))
  have X6 := Lib.hid (X5.out.below hb6 X5.out.lt)
  have RP' := Lib.hid (RP.out.below' hb6)
  have RA' := Lib.hid (RA.out.below' hb6)
  clear RP RA k0 k1 k2 k3 k4 hb6 B5 X5
  have RP := RP'
  have RA := RA'
  clear RP' RA'
  obtain ⟨aM, capM, rfl, hcaM, hoM⟩ := hrM
  have CAM := Lib.hid hcaM
  have RM := Lib.hid hoM.row
  clear hcaM hoM
  rw [e2] at RM ⊢
  rw [e1]
  have k0 := X6.out.c0
  have k1 := X6.out.c1
  have k2 := X6.out.c2
  have k3 := X6.out.c3
  have k4 := X6.out.c4
  go_wp2_with fail
  refine (implSyndromesOf_any p pw g l c _ RA.out).mono ?_
  rintro e w7 ⟨vs, rfl, hb7, hrS⟩
  have B7 := Lib.hid (B6.out.trans (hb7.mono B6.out.size))
  have X7 := Lib.hid (X6.out.below hb7 X6.out.lt)
  have RP' := Lib.hid (RP.out.below' hb7)
  have RA' := Lib.hid (RA.out.below' hb7)
  have RM' := Lib.hid (RM.out.below' hb7)
  clear RP RA RM k0 k1 k2 k3 k4 hb7 B6 X6
  have RP := RP'
  have RA := RA'
  have RM := RM'
  clear RP' RA' RM'
  obtain ⟨aS, capS, rfl, hcaS, hoS⟩ := hrS
  have CAS := Lib.hid hcaS
  have RS := Lib.hid hoS.row
  clear hcaS hoS
  rw [e1]
  have k0 := X7.out.c0
  have k1 := X7.out.c1
  have k2 := X7.out.c2
  have k3 := X7.out.c3
  have k4 := X7.out.c4
  obtain ⟨N, hN⟩ : ∃ N, (soR p pw g l c x).length = N := ⟨_, rfl⟩
  generalize soR p pw g l c x = ss at *
  rw [hN] at RS e4 HE ⊢
  have hNs : N ≤ 9223372036854775807 := RS.out.small
  clear hN
  go_wp2_with fail
  go_loopw [13] (fun t wr => ∃ k : Nat, k ≤ N ∧ t = .int .i64 k ∧ wr = w7) (fun t _ => N - (intOf t).toNat)
  case atStart => exact ⟨0, by omega, rfl, rfl⟩
  case round =>
    obtain ⟨k, hk, rfl, rfl⟩ := hrel
    by_cases hlt : k < N
    · obtain ⟨bg, og, rfl, _, hcg⟩ := RS.out.at' (by omega)
      have hcm := hcg k hlt
      rw [HE.out k hlt] at hcm
      clear hcg
      go_wp2_with fail
      go_roundw
      case rel => exact ⟨k + 1, by omega, by go_num, by first | trivial | rfl⟩
      case measure => simp [intOf]; omega
    · have hkN : k = N := by omega
      have e6 : ((N : Int) == c) = true := by simp; exact e4
      have HI := Lib.hid (implIsCodeWord_any p pw g l c)
      clear hkN e4 k0 k1 k2 k3 k4
      go_wp2_with fail
      refine (likeInts_any RM.out RP.out).mono ?_
      rintro e w8 ⟨rfl, hb8⟩
      simp only [decide_true]
      have B8 := Lib.hid (B7.out.trans (hb8.mono B7.out.size))
      have X8 := Lib.hid (X7.out.below hb8 X7.out.lt)
      have RA8 := Lib.hid (RA.out.below' hb8)
      clear hb8
      have k0 := X8.out.c0
      have k1 := X8.out.c1
      have k2 := X8.out.c2
      have k3 := X8.out.c3
      have k4 := X8.out.c4
      go_wp2_with fail
      refine (HI.out _ RA8.out).mono ?_
      rintro e w9 ⟨rfl, hb9⟩
      rw [e5]
      have B9 := Lib.hid (B8.out.trans (hb9.mono B8.out.size))
      have X9 := Lib.hid (X8.out.below hb9 X8.out.lt)
      clear hb9 k0 k1 k2 k3 k4
      have k4 := X9.out.c4
      go_wp2_with fail
      go_ret
      exact ⟨rfl, B9.out⟩
end Go.Proofs.Ythbiieflmmnfcaa
