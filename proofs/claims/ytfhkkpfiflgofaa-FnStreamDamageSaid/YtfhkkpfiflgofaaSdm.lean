/-
  The parts SdmP, SdmS, SdmI.
-/
import Derived.Test.YtfhkkpfiflgofaaBstD
import Derived.Test.YtfhkkpfiflgofaaDecQ
import Derived.Test.YtfhkkpfiflgofaaSplI
/-
  A stream with damage and erasures that its blocks allow. Plain mathematics.
-/
namespace Go.Proofs.Ytfhkkpfiflgofaa
set_option linter.unusedVariables false

/-- Erased places; damaged places that are not erased. -/
def dmE (E : List Int) (t : Nat) : Bool := E.contains (t : Int)
def dmD (Dm E : List Int) (t : Nat) : Bool := !E.contains (t : Int) && Dm.contains (t : Int)
/-- What a block bears. -/
def dmW (o : List (Nat × Nat)) (Dm E : List Int) (b t : Nat) : Nat := plc o b (dmE E) t + 2 * plc o b (dmD Dm E) t
theorem dmW_succ (o : List (Nat × Nat)) (Dm E : List Int) (b t : Nat) : dmW o Dm E b (t + 1) = dmW o Dm E b t + if (o.getD t (0, 0)).1 = b then (if E.contains (t : Int) = true then 1 else if Dm.contains (t : Int) = true then 2 else 0) else 0 := by
  unfold dmW
  rw [plc_succ, plc_succ]
  unfold dmE dmD
  generalize plc o b (fun t => E.contains (t : Int)) t = u
  generalize plc o b (fun t => !E.contains (t : Int) && Dm.contains (t : Int)) t = v
  by_cases h : (o.getD t (0, 0)).1 = b
  · rw [if_pos h]
    cases he : E.contains (t : Int)
    · cases hd : Dm.contains (t : Int)
      · rw [if_neg (fun x => by cases x.2), if_neg (fun x => by cases x.2), if_neg (fun x => by cases x), if_neg (fun x => by cases x)]; rfl
      · rw [if_neg (fun x => by cases x.2), if_pos ⟨h, rfl⟩, if_neg (fun x => by cases x), if_pos rfl]; omega
    · rw [if_pos ⟨h, rfl⟩, if_neg (fun x => by cases x.2), if_pos rfl]; omega
  · rw [if_neg h, if_neg (fun x => h x.1), if_neg (fun x => h x.1)]; rfl
noncomputable def sdC (p pw g D C N : Int) (Dm E : List Int) : Int := if layB p pw g D C N = true then (if risB 0 (D + N * C - 1) Dm = true ∧ risB 0 (D + N * C - 1) E = true then 0 else 5) else 1
noncomputable def sdV (p pw g D C N : Int) (Dm E : List Int) : Bool := if sdC p pw g D C N Dm E = 0 then (List.range N.toNat).all fun b => decide (dmW (ordS (D.tdiv N).toNat (D.tmod N).toNat N.toNat C.toNat) Dm E b (ordS (D.tdiv N).toNat (D.tmod N).toNat N.toNat C.toNat).length ≤ C.toNat) else false
section
variable {p pw g D C N : Int} {Dm E : List Int}
theorem sd_bad (h : layB p pw g D C N = false) : sdC p pw g D C N Dm E = 1 ∧ sdV p pw g D C N Dm E = false := by
  have h1 : sdC p pw g D C N Dm E = 1 := by unfold sdC; rw [if_neg (by simp [h])]
  exact ⟨h1, by unfold sdV; rw [h1]; rfl⟩
theorem sd_state (h : layB p pw g D C N = true) (h2 : ¬ (risB 0 (D + N * C - 1) Dm = true ∧ risB 0 (D + N * C - 1) E = true)) : sdC p pw g D C N Dm E = 5 ∧ sdV p pw g D C N Dm E = false := by
  have h1 : sdC p pw g D C N Dm E = 5 := by unfold sdC; rw [if_pos h, if_neg h2]
  exact ⟨h1, by unfold sdV; rw [h1]; rfl⟩
theorem sd_ok (h : layB p pw g D C N = true) (h2 : risB 0 (D + N * C - 1) Dm = true) (h3 : risB 0 (D + N * C - 1) E = true) {q r n c : Nat} (hl : LN D C N q r n c) :
    sdC p pw g D C N Dm E = 0 ∧ sdV p pw g D C N Dm E = (List.range n).all fun b => decide (dmW (ordS q r n c) Dm E b (ordS q r n c).length ≤ c) := by
  obtain ⟨e1, e2, e3, e4⟩ := hl.nats
  have h1 : sdC p pw g D C N Dm E = 0 := by unfold sdC; rw [if_pos h, if_pos ⟨h2, h3⟩]
  exact ⟨h1, by unfold sdV; rw [if_pos h1, e1, e2, e3, e4]⟩
theorem sd_zero (h : sdC p pw g D C N Dm E = 0) : layB p pw g D C N = true ∧ risB 0 (D + N * C - 1) Dm = true ∧ risB 0 (D + N * C - 1) E = true := by
  unfold sdC at h
  split at h
  · rename_i h1
    split at h
    · rename_i h2; exact ⟨h1, h2⟩
    · omega
  · omega
end
/-- The damage that the blocks allow. -/
theorem damage_plain {p pw g D C N : Int} {zs : List Int} (h : esC p pw g D C N zs = 0) {q r n c : Nat} (hl : LN D C N q r n c) (hz : zs.length = q * n + r)
    (hblk : ∀ b, b < n → validC p pw g ((shN q r n b + c : Nat) : Int) (c : Int) = true ∧ wB q r n c (esR p pw g D C N zs) b = wdS p pw g q r n c zs b ∧ icwB p pw g ((shN q r n b + c : Nat) : Int) (c : Int) (wdS p pw g q r n c zs b) = true ∧
        (wdS p pw g q r n c zs b).length = shN q r n b + c ∧ (wdS p pw g q r n c zs b).take (shN q r n b) = blS q r n zs b ∧
        ∀ e, e < shN q r n b + c → (ordS q r n c).idxOf (b, e) < (ordS q r n c).length ∧ gi (esR p pw g D C N zs) ((ordS q r n c).idxOf (b, e)) = gi (wdS p pw g q r n c zs b) e)
    {Dm E : List Int} (hE : risB 0 (D + N * C - 1) E = true) (hok : ∀ b, b < n → dmW (ordS q r n c) Dm E b (ordS q r n c).length ≤ c) {s' : List Int} (hsl : (s'.length : Int) = D + N * C) (hse : allB (ffOf p pw g) s' = true)
    (hag : ∀ i, i < (ordS q r n c).length → E.contains (i : Int) = false → Dm.contains (i : Int) = false → gi s' i = gi (esR p pw g D C N zs) i) :
    dsC p pw g D C N s' E = 0 ∧ dsR p pw g D C N s' E = zs := by
  obtain ⟨-, -, hlay, -, -⟩ := esR_length h
  have hsc := sc_ok hlay hsl hse
  obtain ⟨hF, hO⟩ := stream_dec (E := E) (s' := s') (wdS p pw g q r n c zs) (fun b hb => (hblk b hb).1) hse (fun b hb => ⟨(hblk b hb).2.2.1, (hblk b hb).2.2.2.1⟩) (by
    intro b hb
    have h0 := hok b hb
    unfold dmW at h0
    rw [← blk_count hb (dmE E), ← blk_count hb (dmD Dm E)] at h0
    have h1 : (errs (shN q r n b + c) (wB q r n c s' b) (eB q r n c E b) (wdS p pw g q r n c zs b)).length ≤ (filtL (fun e => dmD Dm E ((ordS q r n c).idxOf (b, e))) (shN q r n b + c)).length := by
      unfold errs
      refine filtL_mono _ fun i hi hp => ?_
      obtain ⟨-, -, -, -, -, hidx⟩ := hblk b hb
      obtain ⟨i1, i2⟩ := hidx i hi
      rw [Bool.and_eq_true] at hp
      obtain ⟨hp1, hp2⟩ := hp
      have hne : E.contains (((ordS q r n c).idxOf (b, i) : Nat) : Int) = false := by
        cases hc : E.contains (((ordS q r n c).idxOf (b, i) : Nat) : Int) with
        | false => rfl
        | true =>
          have : (i : Int) ∈ eB q r n c E b := filtL_mem.2 ⟨i, hi, rfl, hc⟩
          simp [this] at hp1
      unfold dmD
      rw [hne]
      cases hd : Dm.contains (((ordS q r n c).idxOf (b, i) : Nat) : Int) with
      | true => rfl
      | false =>
        have := hag _ i1 hne hd
        rw [wB_gi hb hi, this, i2] at hp2
        simp at hp2
    have h2 : (eB q r n c E b).length = (filtL (fun e => dmE E ((ordS q r n c).idxOf (b, e))) (shN q r n b + c)).length := rfl
    omega)
  obtain ⟨e1, e2, -⟩ := ds_ok hsc hE hl hF
  refine ⟨e1, ?_⟩
  rw [e2, dsTo_all (zs := zs) (fun b hb => by rw [(hO b hb).1]; exact (hblk b hb).2.2.2.2.1) n (Nat.le_refl n)]
  exact blS_all (Nat.le_of_lt hl.rn) hz
/-- The weights of the places. -/
def wtL (tot : Nat) (Dm E : List Int) : List Int := (List.range tot).map fun i : Nat => if E.contains (i : Int) then 1 else if Dm.contains (i : Int) then 2 else 0
theorem wtL_length (tot : Nat) (Dm E : List Int) : (wtL tot Dm E).length = tot := by unfold wtL; simp
theorem wtL_gi {tot i : Nat} {Dm E : List Int} (h : i < tot) : gi (wtL tot Dm E) i = if E.contains (i : Int) then 1 else if Dm.contains (i : Int) then 2 else 0 := by
  unfold wtL gi; rw [List.getD_eq_getElem?_getD]; simp [h]
theorem wtL_nil (tot : Nat) : wtL tot [] [] = List.replicate tot 0 := by
  apply List.ext_getElem (by simp [wtL])
  intro i h1 h2
  simp [wtL]
theorem wtL_stepD {tot k : Nat} {Dm : List Int} (hk : k < Dm.length) (h0 : 0 ≤ gi Dm k) (h1 : gi Dm k < tot) : wtL tot (Dm.take (k + 1)) [] = (wtL tot (Dm.take k) []).set (gi Dm k).toNat 2 := by
  refine gi_ext (by simp [wtL_length]) fun i hi => ?_
  rw [wtL_length] at hi
  rw [gi_set (by rw [wtL_length]; omega), wtL_gi hi, wtL_gi hi, contains_take_succ hk]
  by_cases e : i = (gi Dm k).toNat
  · have : ((i : Int) == gi Dm k) = true := by rw [beq_iff_eq]; omega
    rw [if_pos e, this]; simp
  · have : ((i : Int) == gi Dm k) = false := by rw [beq_eq_false_iff_ne]; omega
    rw [if_neg e, this, Bool.or_false]
theorem wtL_stepE {tot k : Nat} {Dm E : List Int} (hk : k < E.length) (h0 : 0 ≤ gi E k) (h1 : gi E k < tot) : wtL tot Dm (E.take (k + 1)) = (wtL tot Dm (E.take k)).set (gi E k).toNat 1 := by
  refine gi_ext (by simp [wtL_length]) fun i hi => ?_
  rw [wtL_length] at hi
  rw [gi_set (by rw [wtL_length]; omega), wtL_gi hi, wtL_gi hi, contains_take_succ hk]
  by_cases e : i = (gi E k).toNat
  · have : ((i : Int) == gi E k) = true := by rw [beq_iff_eq]; omega
    rw [if_pos e, this]; simp
  · have : ((i : Int) == gi E k) = false := by rw [beq_eq_false_iff_ne]; omega
    rw [if_neg e, this, Bool.or_false]
/-- The sum of a word's first k numbers. -/
def wS (l : List Int) : Nat → Int
  | 0 => 0
  | k + 1 => wS l k + gi l k
theorem wS_word {q r n c b : Nat} (hb : b < n) (Dm E : List Int) (k : Nat) (hk : k ≤ shN q r n b + c) :
    wS (wB q r n c (wtL (ordS q r n c).length Dm E) b) k = (((filtL (fun e => dmE E ((ordS q r n c).idxOf (b, e))) k).length + 2 * (filtL (fun e => dmD Dm E ((ordS q r n c).idxOf (b, e))) k).length : Nat) : Int) := by
  induction k with
  | zero => rfl
  | succ k ih =>
    have h1 := ih (by omega)
    obtain ⟨i1, -⟩ := idx_mem (ord_at (q := q) (r := r) (c := c) hb (show k < shN q r n b + c by omega))
    show wS _ k + gi _ k = _
    rw [h1, wB_gi hb (by omega), wtL_gi i1]
    cases he : E.contains (((ordS q r n c).idxOf (b, k) : Nat) : Int) with
    | true =>
      rw [filtL_yes (P := fun e => dmE E ((ordS q r n c).idxOf (b, e))) (show dmE E ((ordS q r n c).idxOf (b, k)) = true from he), filtL_no (P := fun e => dmD Dm E ((ordS q r n c).idxOf (b, e))) (show dmD Dm E ((ordS q r n c).idxOf (b, k)) = false by unfold dmD; rw [he]; rfl), List.length_append, if_pos rfl]
      simp; omega
    | false =>
      rw [filtL_no (P := fun e => dmE E ((ordS q r n c).idxOf (b, e))) (show dmE E ((ordS q r n c).idxOf (b, k)) = false from he), if_neg (by simp)]
      cases hd : Dm.contains (((ordS q r n c).idxOf (b, k) : Nat) : Int) with
      | true =>
        rw [filtL_yes (P := fun e => dmD Dm E ((ordS q r n c).idxOf (b, e))) (show dmD Dm E ((ordS q r n c).idxOf (b, k)) = true by unfold dmD; rw [he, hd]; rfl), List.length_append, if_pos rfl]
        simp; omega
      | false =>
        rw [filtL_no (P := fun e => dmD Dm E ((ordS q r n c).idxOf (b, e))) (show dmD Dm E ((ordS q r n c).idxOf (b, k)) = false by unfold dmD; rw [he, hd]; rfl), if_neg (by simp)]
        simp
theorem wS_all {q r n c b : Nat} (hb : b < n) (Dm E : List Int) : wS (wB q r n c (wtL (ordS q r n c).length Dm E) b) (shN q r n b + c) = ((dmW (ordS q r n c) Dm E b (ordS q r n c).length : Nat) : Int) := by
  rw [wS_word hb Dm E _ (Nat.le_refl _), blk_count hb (dmE E), blk_count hb (dmD Dm E)]; rfl
end Go.Proofs.Ytfhkkpfiflgofaa
/-
  The reference's StreamDamage.
-/
namespace Go.Proofs.Ytfhkkpfiflgofaa
open Go.RowKit
set_option linter.unusedVariables false

theorem dmW_le (o : List (Nat × Nat)) (Dm E : List Int) (b : Nat) : ∀ t, dmW o Dm E b t ≤ 2 * t
  | 0 => Nat.le_refl _
  | t + 1 => by
    have := dmW_le o Dm E b t
    rw [dmW_succ]
    split
    · split
      · omega
      · split <;> omega
    · omega
set_option maxHeartbeats 8000000 in
set_option maxRecDepth 100000 in
theorem specStreamDamage_any (p pw g D C N : Int) (w : World) {a : Option Addr} {m cap : Nat} {Dm : List Int} (hr : RowAt w a m Dm) {a' : Option Addr} {n' cap' : Nat} {E : List Int} (hr' : RowAt w a' n' E) :
    Calls Try.prog 45 #[lV p pw g D C N, .slice a m cap, .slice a' n' cap'] w fun e w' => e = .returned (.tuple #[.bool (sdV p pw g D C N Dm E), .int .i64 (sdC p pw g D C N Dm E)]) ∧ Below w.heap.size w w' := by
  have HR := Lib.hid hr
  have HR' := Lib.hid hr'
  have HB := Lib.hid (below1 w (.cells #[.int .i64 p, .int .i64 pw, .int .i64 g, .int .i64 D, .int .i64 C, .int .i64 N] LT))
  have L0 := Lib.hid (LB.new w p pw g D C N)
  clear hr hr'
  go_enter Try.func45, Try.ntmps45
  generalize hw1 : w.alloc (.cells #[.int .i64 p, .int .i64 pw, .int .i64 g, .int .i64 D, .int .i64 C, .int .i64 N] LT) = w1 at *
  have k0 := L0.out.c0
  have k1 := L0.out.c1
  have k2 := L0.out.c2
  have k3 := L0.out.c3
  have k4 := L0.out.c4
  have k5 := L0.out.c5
  go_wp2_with fail
  (try rw [hw1])
  clear hw1
  refine (specIsLayout_any p pw g D C N _).mono ?_
  rintro e w2 ⟨rfl, hb2⟩
  have B2 := Lib.hid (HB.out.trans (hb2.mono HB.out.size))
  have L2 := Lib.hid (L0.out.below hb2 L0.out.lt)
  clear hb2 HB L0 k0 k1 k2 k3 k4 k5
  cases hlay : layB p pw g D C N with
  | false =>
    obtain ⟨f0, f1⟩ := sd_bad (Dm := Dm) (E := E) hlay
    have hf0 := Lib.hid f0
    have hf1 := Lib.hid f1
    clear f0 f1 hlay
    go_wp2_with fail
    go_ret2
    exact ⟨(by rw [hf0.out, hf1.out]; rfl), B2.out⟩
  | true =>
  obtain ⟨q, r, n, c, hl, htot, hval, hvB⟩ := lay_ok hlay
  have HL := Lib.hid hl
  have HTOT := Lib.hid htot
  have HLAY := Lib.hid hlay
  have htn := tot_num hl
  have hsm := ord_small hl htot
  have hn1 := hl.n1
  have hn16 := hl.n16
  have hc64 := hl.c64
  have H16 := Lib.hid (show ∀ y ∈ ordS q r n c, y.1 < n from fun y hy => by obtain ⟨y1, y2⟩ := y; exact (ordS_mem.1 hy).1)
  have HOK := Lib.hid (fun h2 h3 => sd_ok (Dm := Dm) (E := E) hlay h2 h3 hl)
  have HST := Lib.hid (fun h2 => sd_state (Dm := Dm) (E := E) hlay h2)
  obtain ⟨T, hT⟩ : ∃ T, (ordS q r n c).length = T := ⟨_, rfl⟩
  have hT1 : 0 < T := by rw [← hT, ordS_length q r n c (Nat.le_of_lt hl.rn)]; have := hl.nD; have h3 : n * q = q * n := Nat.mul_comm _ _; omega
  rw [hT] at htn hsm
  have HTT := Lib.hid hT
  have HTN := Lib.hid htn
  have HMA := Lib.hid (fun W (hb : Below w.heap.size w W) => l07Marks_any (T : Int) (by omega) (by omega) (cap := cap) (HR.out.below' hb))
  have HME := Lib.hid (fun W (hb : Below w.heap.size w W) => l07Marks_any (T : Int) (by omega) (by omega) (cap := cap') (HR'.out.below' hb))
  have HTO := Lib.hid (fun W => l07Total_any p pw g hl W)
  rw [htn] at HTO HOK HST
  obtain rfl : N = (n : Int) := hl.hN
  obtain rfl : C = (c : Int) := hl.hC
  have hcn : ((c : Int)).toNat = c := by simp
  clear hlay hl htot hval hvB htn hT
  have k0 := L2.out.c0
  have k1 := L2.out.c1
  have k2 := L2.out.c2
  have k3 := L2.out.c3
  have k4 := L2.out.c4
  have k5 := L2.out.c5
  go_wp2_with fail
  refine (HTO.out _).mono ?_
  rintro e w3 ⟨rfl, hb3⟩
  have B3 := Lib.hid (B2.out.trans (hb3.mono B2.out.size))
  have L3 := Lib.hid (L2.out.below hb3 L2.out.lt)
  clear hb3 k0 k1 k2 k3 k4 k5
  go_wp2_with fail
  refine (HMA.out _ B3.out).mono ?_
  rintro e w4 ⟨rfl, hb4⟩
  have B4 := Lib.hid (B3.out.trans (hb4.mono B3.out.size))
  have L4 := Lib.hid (L3.out.below hb4 L3.out.lt)
  clear hb4
  cases hr1 : risB 0 ((T : Int) - 1) Dm with
  | false =>
    obtain ⟨f0, f1⟩ := HST.out (fun h => by rw [hr1] at h; cases h.1)
    have hf0 := Lib.hid f0
    have hf1 := Lib.hid f1
    clear f0 f1 hr1
    go_wp2_with fail
    go_ret2
    exact ⟨(by rw [hf0.out, hf1.out]; rfl), B4.out⟩
  | true =>
  have HR1 := Lib.hid hr1
  clear hr1
  have k0 := L4.out.c0
  have k1 := L4.out.c1
  have k2 := L4.out.c2
  have k3 := L4.out.c3
  have k4 := L4.out.c4
  have k5 := L4.out.c5
  go_wp2_with fail
  refine (HTO.out _).mono ?_
  rintro e w5 ⟨rfl, hb5⟩
  have B5 := Lib.hid (B4.out.trans (hb5.mono B4.out.size))
  have L5 := Lib.hid (L4.out.below hb5 L4.out.lt)
  clear hb5 k0 k1 k2 k3 k4 k5
  go_wp2_with fail
  refine (HME.out _ B5.out).mono ?_
  rintro e w6 ⟨rfl, hb6⟩
  have B6 := Lib.hid (B5.out.trans (hb6.mono B5.out.size))
  have L6 := Lib.hid (L5.out.below hb6 L5.out.lt)
  clear hb6
  cases hr2 : risB 0 ((T : Int) - 1) E with
  | false =>
    obtain ⟨f0, f1⟩ := HST.out (fun h => by rw [hr2] at h; cases h.2)
    have hf0 := Lib.hid f0
    have hf1 := Lib.hid f1
    clear f0 f1 hr2
    go_wp2_with fail
    go_ret2
    exact ⟨(by rw [hf0.out, hf1.out]; rfl), B6.out⟩
  | true =>
  obtain ⟨f0, f1⟩ := HOK.out HR1.out hr2
  have hf0 := Lib.hid f0
  have hf1 := Lib.hid f1
  clear f0 f1 hr2
  have k0 := L6.out.c0
  have k1 := L6.out.c1
  have k2 := L6.out.c2
  have k3 := L6.out.c3
  have k4 := L6.out.c4
  have k5 := L6.out.c5
  go_wp2_with fail
  refine (l07Order_any p pw g HL.out HTOT.out _).mono ?_
  rintro e w7 ⟨v7, rfl, hb7, G, cp, hT7⟩
  have B7 := Lib.hid (B6.out.trans (hb7.mono B6.out.size))
  have L7 := Lib.hid (L6.out.below hb7 L6.out.lt)
  have T7 := Lib.hid hT7
  clear hb7 hT7 k0 k1 k2 k3 k4 k5
  obtain ⟨RO, cvo, rfl, hmc2, hRO1, hRO2⟩ := T7.out.form (by rw [HTT.out]; exact hT1)
  obtain ⟨o, ho⟩ : ∃ o, ordS q r n c = o := ⟨_, rfl⟩
  rw [ho] at T7 HTT H16 hf1 hmc2
  rw [HTT.out] at T7 hmc2
  have hcon : ∀ z : Nat, (ordS q r n c).length = z → o.length = z := fun z h => by rw [← ho]; exact h
  clear hcon
  (try rw [ho])
  (try rw [HTT.out])
  have HO := Lib.hid ho
  clear ho
  have hmk := fun w => run_make_ints w 26 Try.underlying26 (n : Int) (by omega) (by omega)
  simp only [Int.toNat_natCast] at hmk
  have k5 := L7.out.c5
  have O8 := Lib.hid (OwnL.zeros w7 w7.heap.size (Nat.le_refl _) n (by omega))
  have C8 := Lib.hid (below1 w7 (.cells (madeCells #[.int .i64 0] n) 2))
  go_wp2_with fail
  clear hmk k5
  obtain ⟨X, hX⟩ : ∃ X, w7.heap.size = X := ⟨_, rfl⟩
  rw [hX] at O8 C8
  (try rw [hX])
  have hRX : RO < X := by rw [← hX]; exact hRO2
  have hLX : w.heap.size < X := by rw [← hX]; exact L7.out.lt
  have HXX := Lib.hid hX
  clear hX
  have HZ0 := Lib.hid (show (List.replicate n (0 : Int)).length = n ∧ ∀ b, b < n → gi (List.replicate n (0 : Int)) b = ((dmW o Dm E b 0 : Nat) : Int) from ⟨by simp, fun b hb => by rw [gi_replicate]; rfl⟩)
  go_loopw [10] (fun t wr => ∃ (i : Nat) (L : List Int), i ≤ T ∧ t = .int .i64 i ∧ Hid (L.length = n ∧ ∀ b, b < n → gi L b = ((dmW o Dm E b i : Nat) : Int)) ∧ Hid (OwnL wr X (.slice (some ⟨X, 0, none⟩) n n) L) ∧ Hid (Below X w7 wr)) (fun t _ => T - (intOf t).toNat)
  case atStart => exact ⟨0, _, by omega, rfl, HZ0, O8, C8⟩
  case round =>
    clear HZ0 O8 C8
    obtain ⟨i, L, hi, rfl, hL, hO, hB⟩ := hrel
    have hB7 : Below w7.heap.size w7 wr := by rw [HXX.out]; exact hB.out
    have hBw := Lib.hid (B7.out.trans (hB7.mono B7.out.size))
    by_cases hiT : i < T
    · have hii : (i : Int) < (T : Int) := by omega
      have hio : i < o.length := by rw [HTT.out]; exact hiT
      obtain ⟨xb, hxb⟩ : ∃ xb, (o[i]).1 = xb := ⟨_, rfl⟩
      have hxn : xb < n := by rw [← hxb]; exact H16.out _ (List.getElem_mem hio)
      have hxI : (xb : Int) < (n : Int) := by omega
      have TW := T7.out.below hB7
      have hpr : prL o i = [((o[i]).1 : Int), ((o[i]).2 : Int)] := by
        unfold prL; rw [List.getD_eq_getElem?_getD, List.getElem?_eq_getElem hio]; rfl
      have q1 := TW.slot hiT
      have q2 := (TW.cell hiT (i := 0) (by rw [hpr]; simp)).1
      rw [hpr] at q1 q2
      rw [hxb] at q2
      change wr.cell? ⟨RO, i, none⟩ = some (.slice (some ⟨G i, 0, none⟩) 2 (cp i)) at q1
      change wr.cell? ⟨G i, 0, none⟩ = some (.int .i64 (xb : Int)) at q2
      have HGi := Lib.hid (show G i < X by rw [← HXX.out]; exact (T7.out.rlt hiT).2)
      have hst : ∀ b, dmW o Dm E b (i + 1) = dmW o Dm E b i + if (o[i]).1 = b then (if E.contains (i : Int) = true then 1 else if Dm.contains (i : Int) = true then 2 else 0) else 0 := fun b => by rw [dmW_succ, getD_at hio]
      have HSTEP := Lib.hid hst
      have HXB := Lib.hid hxb
      have REr := Lib.hid (HR'.out.below' hBw.out)
      have RDr := Lib.hid (HR.out.below' hBw.out)
      have ho2 := hO.out.2
      rw [hL.out.1] at ho2
      have hpl := ho2.cellAt xb (by omega)
      have hfz := ho2.frozenAt xb
      have hval : wr.cell? ⟨X, xb, none⟩ = some (.int .i64 ((dmW o Dm E xb i : Nat) : Int)) := by
        rw [hpl, List.getElem?_map, List.getElem?_eq_getElem (by rw [hL.out.1]; exact hxn), ← hL.out.2 xb hxn]
        unfold gi; rw [List.getD_eq_getElem?_getD, List.getElem?_eq_getElem (by rw [hL.out.1]; exact hxn)]; rfl
      have hdmb := dmW_le o Dm E xb i
      obtain ⟨dm, hdm⟩ : ∃ dm, dmW o Dm E xb i = dm := ⟨_, rfl⟩
      rw [hdm] at hval hdmb
      have HDM := Lib.hid hdm
      clear hdm hpl ho2 hst hxb hpr TW
      go_wp2_with fail
      refine (l05Has_any wr (cap := cap') REr.out (i : Int)).mono ?_
      rintro e w8 ⟨rfl, rfl⟩
      cases he : memB E (i : Int) with
      | true =>
        have HE := Lib.hid (show E.contains (i : Int) = true from he)
        have hd0 := Below.refl wr.heap.size wr
        have HL2 := Lib.hid (show (L.set xb ((dm : Int) + 1)).length = n ∧ ∀ b, b < n → gi (L.set xb ((dm : Int) + 1)) b = ((dmW o Dm E b (i + 1) : Nat) : Int) from ⟨by rw [List.length_set]; exact hL.out.1, fun b hb => by
          rw [gi_set (by rw [hL.out.1]; exact hxn), HSTEP.out b]
          by_cases e : b = xb
          · subst e; rw [if_pos rfl, if_pos HXB.out, if_pos HE.out, HDM.out]; simp
          · rw [if_neg e, if_neg (by rw [HXB.out]; exact fun h => e h.symm), hL.out.2 b hb]; simp⟩)
        have O2 := Lib.hid ((hO.out.below hd0).set (k := xb) (by rw [hL.out.1]; exact hxn) ((dm : Int) + 1))
        have C2 := Lib.hid ((hB.out.trans (hd0.mono (by rw [← HXX.out]; exact hB.out.size))).setCell (p := ⟨X, xb, none⟩) (Nat.le_refl _) (.int .i64 ((dm : Int) + 1)))
        have y1 : -1000000 ≤ (dm : Int) + 1 ∧ (dm : Int) + 1 ≤ 1000000 := by omega
        have v1 : wrap64 ((dm : Int) + 1) = (dm : Int) + 1 := (wraps y1).1
        have v2 : IntKind.i64.wrap ((dm : Int) + 1) = (dm : Int) + 1 := (wraps y1).2
        clear y1 he hd0
        go_wp2_with fail
        clear v1 v2
        go_roundw
        case rel => exact ⟨i + 1, _, by omega, by go_num, HL2, O2, C2⟩
        case measure => simp [intOf]; omega
      | false =>
        have HE := Lib.hid (show ¬ E.contains (i : Int) = true from fun h => by rw [show E.contains (i : Int) = false from he] at h; cases h)
        clear he
        go_wp2_with fail
        refine (l05Has_any wr (cap := cap) RDr.out (i : Int)).mono ?_
        rintro e w9 ⟨rfl, rfl⟩
        cases he : memB Dm (i : Int) with
        | true =>
          have HD2 := Lib.hid (show Dm.contains (i : Int) = true from he)
          have hd0 := Drew.below (drew1 wr) wr.heap.size
          have HL2 := Lib.hid (show (L.set xb ((dm : Int) + 2)).length = n ∧ ∀ b, b < n → gi (L.set xb ((dm : Int) + 2)) b = ((dmW o Dm E b (i + 1) : Nat) : Int) from ⟨by rw [List.length_set]; exact hL.out.1, fun b hb => by
            rw [gi_set (by rw [hL.out.1]; exact hxn), HSTEP.out b]
            by_cases e : b = xb
            · subst e; rw [if_pos rfl, if_pos HXB.out, if_neg HE.out, if_pos HD2.out, HDM.out]; simp
            · rw [if_neg e, if_neg (by rw [HXB.out]; exact fun h => e h.symm), hL.out.2 b hb]; simp⟩)
          have O2 := Lib.hid ((hO.out.below hd0).set (k := xb) (by rw [hL.out.1]; exact hxn) ((dm : Int) + 2))
          have C2 := Lib.hid ((hB.out.trans (hd0.mono (by rw [← HXX.out]; exact hB.out.size))).setCell (p := ⟨X, xb, none⟩) (Nat.le_refl _) (.int .i64 ((dm : Int) + 2)))
          have y1 : -1000000 ≤ (dm : Int) + 2 ∧ (dm : Int) + 2 ≤ 1000000 := by omega
          have d1 := keep_cell hd0 q1
          have d2 := keep_cell hd0 q2
          have d3 := keep_cell hd0 hval
          have fzd : wr.drew.frozen? ⟨X, xb, none⟩ = false := hfz
          have v1 : wrap64 ((dm : Int) + 2) = (dm : Int) + 2 := (wraps y1).1
          have v2 : IntKind.i64.wrap ((dm : Int) + 2) = (dm : Int) + 2 := (wraps y1).2
          clear y1 he hd0
          go_wp2_with fail
          refine wp_region_lastW (S := (fun w' => w'.cell? ⟨RO, i, none⟩ = some (.slice (some ⟨G i, 0, none⟩) 2 (cp i)) ∧ w'.cell? ⟨G i, 0, none⟩ = some (.int .i64 (xb : Int)) ∧ w'.cell? ⟨X, xb, none⟩ = some (.int .i64 (dm : Int)))) 18 (by kernel_rfl) rfl (by kernel_rfl) ?_ (fun hHeld => ?_)
          · (try dsimp only); exact ⟨d1, d2, d3⟩
          simp only [List.take_succ_cons, List.take_zero]
          refine wpAnyH_take (i := 0) (oi := _) (v := ?_) rfl (by kernel_rfl) (by kernel_rfl) (by kernel_rfl) (fun _ _ _ h => h) (Or.inl ⟨by kernel_rfl, ?_⟩) hHeld ?_
          rotate_left
          · intro w0 hSw; (try dsimp only at hSw); go_simp; (try with_reducible rfl)
          (try dsimp only [Act.put, List.setIfInBounds_toArray, List.set_cons_zero, List.set_cons_succ])
          refine wpAnyH_take (i := 1) (oi := _) (v := ?_) rfl (by kernel_rfl) (by kernel_rfl) (by kernel_rfl) (fun _ _ _ h => h) (Or.inl ⟨by kernel_rfl, ?_⟩) hHeld ?_
          rotate_left
          · intro w0 hSw; (try dsimp only at hSw); go_simp; (try with_reducible rfl)
          (try dsimp only [Act.put, List.setIfInBounds_toArray, List.set_cons_zero, List.set_cons_succ])
          refine wpAnyH_take (i := 2) (oi := _) (v := ?_) rfl (by kernel_rfl) (by kernel_rfl) (by kernel_rfl) (fun _ _ _ h => h) (Or.inl ⟨by kernel_rfl, ?_⟩) hHeld ?_
          rotate_left
          · intro w0 hSw; (try dsimp only at hSw); go_simp; (try with_reducible rfl)
          (try dsimp only [Act.put, List.setIfInBounds_toArray, List.set_cons_zero, List.set_cons_succ])
          refine wpAnyH_take (i := 3) (oi := _) (v := ?_) rfl (by kernel_rfl) (by kernel_rfl) (by kernel_rfl) (fun _ _ _ h => h) (Or.inl ⟨by kernel_rfl, ?_⟩) hHeld ?_
          rotate_left
          · intro w0 hSw; (try dsimp only at hSw); go_simp; (try with_reducible rfl)
          (try dsimp only [Act.put, List.setIfInBounds_toArray, List.set_cons_zero, List.set_cons_succ])
          refine wpAnyH_take (i := 4) (oi := _) (v := ?_) rfl (by kernel_rfl) (by kernel_rfl) (by kernel_rfl) (fun _ _ _ h => h) (Or.inl ⟨by kernel_rfl, ?_⟩) hHeld ?_
          rotate_left
          · intro w0 hSw; (try dsimp only at hSw); go_simp; (try with_reducible rfl)
          (try dsimp only [Act.put, List.setIfInBounds_toArray, List.set_cons_zero, List.set_cons_succ])
          refine wpAnyH_take (i := 5) (oi := _) (v := ?_) rfl (by kernel_rfl) (by kernel_rfl) (by kernel_rfl) (fun _ _ _ h => h) (Or.inl ⟨by kernel_rfl, ?_⟩) hHeld ?_
          rotate_left
          · intro w0 hSw; (try dsimp only at hSw); go_simp; (try with_reducible rfl)
          (try dsimp only [Act.put, List.setIfInBounds_toArray, List.set_cons_zero, List.set_cons_succ])
          refine wpAnyH_take (i := 6) (oi := _) (v := ?_) rfl (by kernel_rfl) (by kernel_rfl) (by kernel_rfl) (fun _ _ _ h => h) (Or.inl ⟨by kernel_rfl, ?_⟩) hHeld ?_
          rotate_left
          · intro w0 hSw; (try dsimp only at hSw); go_simp; (try with_reducible rfl)
          (try dsimp only [Act.put, List.setIfInBounds_toArray, List.set_cons_zero, List.set_cons_succ])
          refine wpAnyH_take (i := 7) (oi := _) (v := ?_) rfl (by kernel_rfl) (by kernel_rfl) (by kernel_rfl) (fun _ _ _ h => h) (Or.inl ⟨by kernel_rfl, ?_⟩) hHeld ?_
          rotate_left
          · intro w0 hSw; (try dsimp only at hSw); go_simp; (try with_reducible rfl)
          (try dsimp only [Act.put, List.setIfInBounds_toArray, List.set_cons_zero, List.set_cons_succ])
          refine wpAnyH_take (i := 8) (oi := _) (v := ?_) rfl (by kernel_rfl) (by kernel_rfl) (by kernel_rfl) (fun _ _ _ h => h) (Or.inl ⟨by kernel_rfl, ?_⟩) hHeld ?_
          rotate_left
          · intro w0 hSw; (try dsimp only at hSw); go_simp; (try with_reducible rfl)
          (try dsimp only [Act.put, List.setIfInBounds_toArray, List.set_cons_zero, List.set_cons_succ])
          refine wpAnyH_take (i := 9) (oi := _) (v := ?_) rfl (by kernel_rfl) (by kernel_rfl) (by kernel_rfl) (fun _ _ _ h => h) (Or.inl ⟨by kernel_rfl, ?_⟩) hHeld ?_
          rotate_left
          · intro w0 hSw; (try dsimp only at hSw); go_simp; (try with_reducible rfl)
          (try dsimp only [Act.put, List.setIfInBounds_toArray, List.set_cons_zero, List.set_cons_succ])
          refine wpAnyH_take (i := 10) (oi := _) (v := ?_) rfl (by kernel_rfl) (by kernel_rfl) (by kernel_rfl) (fun _ _ _ h => h) (Or.inl ⟨by kernel_rfl, ?_⟩) hHeld ?_
          rotate_left
          · intro w0 hSw; (try dsimp only at hSw); go_simp; (try with_reducible rfl)
          (try dsimp only [Act.put, List.setIfInBounds_toArray, List.set_cons_zero, List.set_cons_succ])
          refine wpAnyH_take (i := 11) (oi := _) (v := ?_) rfl (by kernel_rfl) (by kernel_rfl) (by kernel_rfl) (fun _ _ _ h => h) (Or.inl ⟨by kernel_rfl, ?_⟩) hHeld ?_
          rotate_left
          · intro w0 hSw; (try dsimp only at hSw); go_simp; (try with_reducible rfl)
          (try dsimp only [Act.put, List.setIfInBounds_toArray, List.set_cons_zero, List.set_cons_succ])
          refine wpAnyH_take (i := 12) (oi := _) (v := ?_) rfl (by kernel_rfl) (by kernel_rfl) (by kernel_rfl) (fun _ _ _ h => h) (Or.inl ⟨by kernel_rfl, ?_⟩) hHeld ?_
          rotate_left
          · intro w0 hSw; (try dsimp only at hSw); go_simp; (try with_reducible rfl)
          (try dsimp only [Act.put, List.setIfInBounds_toArray, List.set_cons_zero, List.set_cons_succ])
          refine wpAnyH_take (i := 13) (oi := _) (v := ?_) rfl (by kernel_rfl) (by kernel_rfl) (by kernel_rfl) (fun _ _ _ h => h) (Or.inl ⟨by kernel_rfl, ?_⟩) hHeld ?_
          rotate_left
          · intro w0 hSw; (try dsimp only at hSw); go_simp; (try with_reducible rfl)
          (try dsimp only [Act.put, List.setIfInBounds_toArray, List.set_cons_zero, List.set_cons_succ])
          refine wpAnyH_take (i := 14) (oi := _) (v := ?_) rfl (by kernel_rfl) (by kernel_rfl) (by kernel_rfl) (fun _ _ _ h => h) (Or.inl ⟨by kernel_rfl, ?_⟩) hHeld ?_
          rotate_left
          · intro w0 hSw; (try dsimp only at hSw); go_simp; (try with_reducible rfl)
          (try dsimp only [Act.put, List.setIfInBounds_toArray, List.set_cons_zero, List.set_cons_succ])
          refine wpAnyH_take (i := 15) (oi := _) (v := ?_) rfl (by kernel_rfl) (by kernel_rfl) (by kernel_rfl) (fun _ _ _ h => h) (Or.inl ⟨by kernel_rfl, ?_⟩) hHeld ?_
          rotate_left
          · intro w0 hSw; (try dsimp only at hSw); go_simp; (try with_reducible rfl)
          (try dsimp only [Act.put, List.setIfInBounds_toArray, List.set_cons_zero, List.set_cons_succ])
          refine wpAnyH_take (i := 16) (oi := _) (v := ?_) rfl (by kernel_rfl) (by kernel_rfl) (by kernel_rfl) (fun _ _ _ h => h) (Or.inl ⟨by kernel_rfl, ?_⟩) hHeld ?_
          rotate_left
          · intro w0 hSw; (try dsimp only at hSw); go_simp; (try with_reducible rfl)
          (try dsimp only [Act.put, List.setIfInBounds_toArray, List.set_cons_zero, List.set_cons_succ])
          refine wpAnyH_take (i := 17) (oi := _) (v := ?_) rfl (by kernel_rfl) (by kernel_rfl) (by kernel_rfl) (fun _ _ _ h => h) (Or.inl ⟨by kernel_rfl, ?_⟩) hHeld ?_
          rotate_left
          · intro w0 hSw; (try dsimp only at hSw); go_simp; (try with_reducible rfl)
          (try dsimp only [Act.put, List.setIfInBounds_toArray, List.set_cons_zero, List.set_cons_succ])
          refine wpAnyH_done (by kernel_rfl) (lastQ_normalW ?_) _
          go_simp
          go_wp2_with fail
          clear v1 v2
          go_roundw
          case rel => exact ⟨i + 1, _, by omega, by go_num, HL2, O2, C2⟩
          case measure => simp [intOf]; omega
        | false =>
          have HD2 := Lib.hid (show ¬ Dm.contains (i : Int) = true from fun h => by rw [show Dm.contains (i : Int) = false from he] at h; cases h)
          have HL2 := Lib.hid (show L.length = n ∧ ∀ b, b < n → gi L b = ((dmW o Dm E b (i + 1) : Nat) : Int) from ⟨hL.out.1, fun b hb => by
            rw [HSTEP.out b, if_neg HE.out, if_neg HD2.out, hL.out.2 b hb]; split <;> simp⟩)
          clear he
          go_wp2_with fail
          go_roundw
          case rel => exact ⟨i + 1, L, by omega, by go_num, HL2, hO, hB⟩
          case measure => simp [intOf]; omega
    · have hiq : T = i := by omega
      subst hiq
      have hii : ¬ (T : Int) < (T : Int) := by omega
      have B8 := Lib.hid hBw.out
      have L8 := Lib.hid (L7.out.below hB7 L7.out.lt)
      obtain ⟨wq, rfl⟩ : ∃ wq : World, wq = wr := ⟨_, rfl⟩
      go_wp2_with fail
      go_loopw [11] (fun t wr2 => ∃ k : Nat, k ≤ n ∧ t = .int .i64 k ∧ Hid (∀ b, b < k → dmW o Dm E b T ≤ c) ∧ Hid (Below wq.heap.size wq wr2)) (fun t _ => n - (intOf t).toNat)
      case atStart => exact ⟨0, by omega, rfl, Lib.hid (fun b hb => absurd hb (Nat.not_lt_zero b)), Lib.hid (Below.refl _ _)⟩
      case round =>
        obtain ⟨k, hk, rfl, hall, hb2⟩ := hrel
        have BF := Lib.hid (B8.out.trans (hb2.out.mono B8.out.size))
        by_cases hkn : k < n
        · have hki : (k : Int) < (n : Int) := by omega
          have ho2 := (hO.out.below hb2.out).2
          rw [hL.out.1] at ho2
          have hpl := ho2.cellAt k (by omega)
          have hval : wr.cell? ⟨X, k, none⟩ = some (.int .i64 ((dmW o Dm E k T : Nat) : Int)) := by
            rw [hpl, List.getElem?_map, List.getElem?_eq_getElem (by rw [hL.out.1]; exact hkn), ← hL.out.2 k hkn]
            unfold gi; rw [List.getD_eq_getElem?_getD, List.getElem?_eq_getElem (by rw [hL.out.1]; exact hkn)]; rfl
          have k4 := (L8.out.below hb2.out L8.out.lt).c4
          obtain ⟨dm, hdm⟩ : ∃ dm, dmW o Dm E k T = dm := ⟨_, rfl⟩
          rw [hdm] at hval
          have HDM := Lib.hid hdm
          clear hdm hpl ho2
          by_cases hgt : (c : Int) < (dm : Int)
          · have hF : ((List.range n).all fun b => decide (dmW o Dm E b o.length ≤ c)) = false := by
              rw [HTT.out, List.all_eq_false]
              exact ⟨k, List.mem_range.2 hkn, by rw [HDM.out, decide_eq_true_eq]; omega⟩
            have HF := Lib.hid hF
            clear hF
            go_wp2_with fail
            go_quiet (fail)
            go_wp2_with fail
            go_ret2
            exact ⟨(by rw [hf0.out, hf1.out, HF.out]; rfl), BF.out.trans ((Drew.below (drew4 _ _) _).mono BF.out.size)⟩
          · have HDC := Lib.hid (show dmW o Dm E k T ≤ c by rw [HDM.out]; omega)
            have HB2 := Lib.hid hb2.out
            go_wp2_with fail
            go_quiet (fail)
            go_wp2_with fail
            go_roundw
            case rel => exact ⟨k + 1, by omega, by go_num, Lib.hid (fun b hb => by
              by_cases e : b = k
              · subst e; exact HDC.out
              · exact hall.out b (by omega)), Lib.hid (HB2.out.trans ((Drew.below (drew4 _ _) _).mono HB2.out.size))⟩
            case measure => simp [intOf]; omega
        · have hkq : n = k := by omega
          subst hkq
          have hki : ¬ (n : Int) < (n : Int) := by omega
          have hF : ((List.range n).all fun b => decide (dmW o Dm E b o.length ≤ c)) = true := by
            rw [HTT.out, List.all_eq_true]; exact fun b hb' => decide_eq_true (hall.out b (List.mem_range.1 hb'))
          have HF := Lib.hid hF
          clear hF
          go_wp2_with fail
          go_ret2
          exact ⟨(by rw [hf0.out, hf1.out, HF.out]; rfl), BF.out⟩
end Go.Proofs.Ytfhkkpfiflgofaa
/-
  The implementation's StreamDamage.
-/
namespace Go.Proofs.Ytfhkkpfiflgofaa
open Go.RowKit
set_option linter.unusedVariables false

set_option maxHeartbeats 8000000 in
set_option maxRecDepth 100000 in
theorem implStreamDamage_any (p pw g D C N : Int) (w : World) {a : Option Addr} {m cap : Nat} {Dm : List Int} (hr : RowAt w a m Dm) {a' : Option Addr} {n' cap' : Nat} {E : List Int} (hr' : RowAt w a' n' E) :
    Calls Try.prog 44 #[lV p pw g D C N, .slice a m cap, .slice a' n' cap'] w fun e w' => e = .returned (.tuple #[.bool (sdV p pw g D C N Dm E), .int .i64 (sdC p pw g D C N Dm E)]) ∧ Below w.heap.size w w' := by
  have HR := Lib.hid hr
  have HR' := Lib.hid hr'
  have HB := Lib.hid (below1 w (.cells #[.int .i64 p, .int .i64 pw, .int .i64 g, .int .i64 D, .int .i64 C, .int .i64 N] LT))
  have L0 := Lib.hid (LB.new w p pw g D C N)
  clear hr hr'
  go_enter Try.func44, Try.ntmps44
  generalize hw1 : w.alloc (.cells #[.int .i64 p, .int .i64 pw, .int .i64 g, .int .i64 D, .int .i64 C, .int .i64 N] LT) = w1 at *
  have k0 := L0.out.c0
  have k1 := L0.out.c1
  have k2 := L0.out.c2
  have k3 := L0.out.c3
  have k4 := L0.out.c4
  have k5 := L0.out.c5
  go_wp2_with fail
  (try rw [hw1])
  clear hw1
  refine (implIsLayout_any p pw g D C N _).mono ?_
  rintro e w2 ⟨rfl, hb2⟩
  have B2 := Lib.hid (HB.out.trans (hb2.mono HB.out.size))
  have L2 := Lib.hid (L0.out.below hb2 L0.out.lt)
  clear hb2 HB L0 k0 k1 k2 k3 k4 k5
  cases hlay : layB p pw g D C N with
  | false =>
    obtain ⟨f0, f1⟩ := sd_bad (Dm := Dm) (E := E) hlay
    have hf0 := Lib.hid f0
    have hf1 := Lib.hid f1
    clear f0 f1 hlay
    go_wp2_with fail
    go_ret2
    exact ⟨(by rw [hf0.out, hf1.out]; rfl), B2.out⟩
  | true =>
  obtain ⟨q, r, n, c, hl, htot, hval, hvB⟩ := lay_ok hlay
  have HL := Lib.hid hl
  have HTOT := Lib.hid htot
  have HLAY := Lib.hid hlay
  have htn := tot_num hl
  have hsm := ord_small hl htot
  have hn1 := hl.n1
  have hn16 := hl.n16
  have hc64 := hl.c64
  have H16 := Lib.hid (show ∀ y ∈ ordS q r n c, y.1 < n from fun y hy => by obtain ⟨y1, y2⟩ := y; exact (ordS_mem.1 hy).1)
  have HOK := Lib.hid (fun h2 h3 => sd_ok (Dm := Dm) (E := E) hlay h2 h3 hl)
  have HST := Lib.hid (fun h2 => sd_state (Dm := Dm) (E := E) hlay h2)
  obtain ⟨T, hT⟩ : ∃ T, (ordS q r n c).length = T := ⟨_, rfl⟩
  have hT1 : 0 < T := by rw [← hT, ordS_length q r n c (Nat.le_of_lt hl.rn)]; have := hl.nD; have h3 : n * q = q * n := Nat.mul_comm _ _; omega
  rw [hT] at htn hsm
  have HTT := Lib.hid hT
  have HTN := Lib.hid htn
  have HMA := Lib.hid (fun W (hb : Below w.heap.size w W) => (rises_any 0 ((T : Int) - 1) (cap := cap) (HR.out.below' hb)).mono (fun e w' h => (⟨h.1, h.2 ▸ Below.refl _ _⟩ : e = .returned (.bool (risB 0 ((T : Int) - 1) Dm)) ∧ Below W.heap.size W w')))
  have HME := Lib.hid (fun W (hb : Below w.heap.size w W) => (rises_any 0 ((T : Int) - 1) (cap := cap') (HR'.out.below' hb)).mono (fun e w' h => (⟨h.1, h.2 ▸ Below.refl _ _⟩ : e = .returned (.bool (risB 0 ((T : Int) - 1) E)) ∧ Below W.heap.size W w')))
  have HTO := Lib.hid (fun W => total_any p pw g hl W)
  rw [htn] at HTO HOK HST
  obtain rfl : N = (n : Int) := hl.hN
  obtain rfl : C = (c : Int) := hl.hC
  have hcn : ((c : Int)).toNat = c := by simp
  clear hlay hl htot hval hvB htn hT
  have k0 := L2.out.c0
  have k1 := L2.out.c1
  have k2 := L2.out.c2
  have k3 := L2.out.c3
  have k4 := L2.out.c4
  have k5 := L2.out.c5
  go_wp2_with fail
  refine (HTO.out _).mono ?_
  rintro e w3 ⟨rfl, hb3⟩
  have B3 := Lib.hid (B2.out.trans (hb3.mono B2.out.size))
  have L3 := Lib.hid (L2.out.below hb3 L2.out.lt)
  clear hb3 k0 k1 k2 k3 k4 k5
  have y1 : -1000000 ≤ (T : Int) - 1 ∧ (T : Int) - 1 ≤ 1000000 := by omega
  have v1 : wrap64 ((T : Int) - 1) = (T : Int) - 1 := (wraps y1).1
  have v2 : IntKind.i64.wrap ((T : Int) - 1) = (T : Int) - 1 := (wraps y1).2
  go_wp2_with fail
  clear v1 v2 y1
  refine (HMA.out _ B3.out).mono ?_
  rintro e w4 ⟨rfl, hb4⟩
  have B4 := Lib.hid (B3.out.trans (hb4.mono B3.out.size))
  have L4 := Lib.hid (L3.out.below hb4 L3.out.lt)
  clear hb4
  cases hr1 : risB 0 ((T : Int) - 1) Dm with
  | false =>
    obtain ⟨f0, f1⟩ := HST.out (fun h => by rw [hr1] at h; cases h.1)
    have hf0 := Lib.hid f0
    have hf1 := Lib.hid f1
    clear f0 f1 hr1
    go_wp2_with fail
    go_ret2
    exact ⟨(by rw [hf0.out, hf1.out]; rfl), B4.out⟩
  | true =>
  have HR1 := Lib.hid hr1
  clear hr1
  have k0 := L4.out.c0
  have k1 := L4.out.c1
  have k2 := L4.out.c2
  have k3 := L4.out.c3
  have k4 := L4.out.c4
  have k5 := L4.out.c5
  go_wp2_with fail
  refine (HTO.out _).mono ?_
  rintro e w5 ⟨rfl, hb5⟩
  have B5 := Lib.hid (B4.out.trans (hb5.mono B4.out.size))
  have L5 := Lib.hid (L4.out.below hb5 L4.out.lt)
  clear hb5 k0 k1 k2 k3 k4 k5
  have y1 : -1000000 ≤ (T : Int) - 1 ∧ (T : Int) - 1 ≤ 1000000 := by omega
  have v1 : wrap64 ((T : Int) - 1) = (T : Int) - 1 := (wraps y1).1
  have v2 : IntKind.i64.wrap ((T : Int) - 1) = (T : Int) - 1 := (wraps y1).2
  go_wp2_with fail
  clear v1 v2 y1
  refine (HME.out _ B5.out).mono ?_
  rintro e w6 ⟨rfl, hb6⟩
  have B6 := Lib.hid (B5.out.trans (hb6.mono B5.out.size))
  have L6 := Lib.hid (L5.out.below hb6 L5.out.lt)
  clear hb6
  cases hr2 : risB 0 ((T : Int) - 1) E with
  | false =>
    obtain ⟨f0, f1⟩ := HST.out (fun h => by rw [hr2] at h; cases h.2)
    have hf0 := Lib.hid f0
    have hf1 := Lib.hid f1
    clear f0 f1 hr2
    go_wp2_with fail
    go_ret2
    exact ⟨(by rw [hf0.out, hf1.out]; rfl), B6.out⟩
  | true =>
  obtain ⟨f0, f1⟩ := HOK.out HR1.out hr2
  have hf0 := Lib.hid f0
  have hf1 := Lib.hid f1
  have HR2 := Lib.hid hr2
  clear f0 f1 hr2
  have k0 := L6.out.c0
  have k1 := L6.out.c1
  have k2 := L6.out.c2
  have k3 := L6.out.c3
  have k4 := L6.out.c4
  have k5 := L6.out.c5
  go_wp2_with fail
  refine (HTO.out _).mono ?_
  rintro e wz ⟨rfl, hbz⟩
  have BZ := Lib.hid (B6.out.trans (hbz.mono B6.out.size))
  have LZ := Lib.hid (L6.out.below hbz L6.out.lt)
  clear hbz k0 k1 k2 k3 k4 k5
  have HLA := Lib.hid (show Dm.length = m from HR.out.len)
  have hsmA := HR.out.small
  have hsmB := HR'.out.small
  have HLB := Lib.hid (show E.length = n' from HR'.out.len)
  have HRA := Lib.hid (show RisTo 0 ((T : Int) - 1) Dm m by have := risB_iff HR1.out; rwa [HLA.out] at this)
  have HRB := Lib.hid (show RisTo 0 ((T : Int) - 1) E n' by have := risB_iff HR2.out; rwa [HLB.out] at this)
  have hmk := fun w => run_make_ints w 26 Try.underlying26 (T : Int) (by omega) (by omega)
  simp only [Int.toNat_natCast] at hmk
  obtain ⟨X, hX⟩ : ∃ X, wz.heap.size = X := ⟨_, rfl⟩
  have OA := Lib.hid (show OwnL (wz.alloc (.cells (madeCells #[.int .i64 0] T) 2)) X (.slice (some ⟨X, 0, none⟩) T T) (wtL T (Dm.take 0) []) by
    rw [List.take_zero, wtL_nil, ← hX]; exact OwnL.zeros wz wz.heap.size (Nat.le_refl _) T (by omega))
  have CA := Lib.hid (show Below X wz (wz.alloc (.cells (madeCells #[.int .i64 0] T) 2)) by rw [← hX]; exact below1 wz _)
  go_wp2_with fail
  (try rw [hX])
  have HXX := Lib.hid hX
  have hLX : w.heap.size < X := by rw [← hX]; exact LZ.out.lt
  clear hmk hX
  go_loopw [40] (fun t wr => ∃ k : Nat, k ≤ m ∧ t = .int .i64 k ∧ Hid (OwnL wr X (.slice (some ⟨X, 0, none⟩) T T) (wtL T (Dm.take k) [])) ∧ Hid (Below X wz wr)) (fun t _ => m - (intOf t).toNat)
  case atStart => exact ⟨0, by omega, rfl, OA, CA⟩
  case round =>
    obtain ⟨k, hk, rfl, ho, hb⟩ := hrel
    clear OA CA
    have hbz : Below wz.heap.size wz wr := by rw [HXX.out]; exact hb.out
    by_cases hlt : k < m
    · have hki : (k : Int) < (m : Int) := by omega
      obtain ⟨b1, o1, rfl, hb1, hcs⟩ := (HR.out.below' (BZ.out.trans (hbz.mono BZ.out.size))).at' (by omega)
      have hcell := hcs k hlt
      obtain ⟨h0, h1, -⟩ := HRA.out k hlt
      obtain ⟨i, hi⟩ : ∃ i : Nat, gi Dm k = (i : Int) := ⟨(gi Dm k).toNat, by omega⟩
      have HST := Lib.hid (wtL_stepD (tot := T) (k := k) (Dm := Dm) (by rw [HLA.out]; exact hlt) h0 (by omega))
      rw [hi] at hcell h1 HST
      rw [Int.toNat_natCast] at HST
      have hil : i < T := by omega
      have hii : (i : Int) < (T : Int) := by omega
      have ho2 := ho.out.2
      rw [wtL_length] at ho2
      have hpl := (ho2.cellAt i (by omega))
      have hfz := ho2.frozenAt i
      have O4 := Lib.hid (ho.out.set (k := i) (by rw [wtL_length]; exact hil) 2)
      rw [← HST.out] at O4
      have hpl2 : wr.cell? ⟨X, i, none⟩ = some (.int .i64 (gi (wtL T (Dm.take k) []) i)) := by
        rw [hpl, List.getElem?_map]
        unfold gi; rw [List.getD_eq_getElem?_getD, List.getElem?_eq_getElem (by rw [wtL_length]; exact hil)]; rfl
      have B4 := Lib.hid (hb.out.setCell (p := ⟨X, i, none⟩) (Nat.le_refl _) (.int .i64 2))
      clear hcs hpl hi h1 h0 ho hb ho2 hbz
      go_wp2_with fail
      go_roundw
      case rel => exact ⟨k + 1, by omega, by go_num, O4, B4⟩
      case measure => simp [intOf]; omega
    · have hkm : m = k := by omega
      subst hkm
      have hki : ¬ (m : Int) < (m : Int) := by omega
      have OB := Lib.hid (show OwnL wr X (.slice (some ⟨X, 0, none⟩) T T) (wtL T Dm (E.take 0)) by have h := ho.out; rw [List.take_of_length_le (by rw [HLA.out]; exact Nat.le_refl _)] at h; rw [List.take_zero]; exact h)
      have CB := Lib.hid hb.out
      clear ho hb hbz
      go_wp2_with fail
      go_loopw [50] (fun t wr => ∃ k : Nat, k ≤ n' ∧ t = .int .i64 k ∧ Hid (OwnL wr X (.slice (some ⟨X, 0, none⟩) T T) (wtL T Dm (E.take k))) ∧ Hid (Below X wz wr)) (fun t _ => n' - (intOf t).toNat)
      case atStart => exact ⟨0, by omega, rfl, OB, CB⟩
      case round =>
        obtain ⟨k, hk, rfl, ho, hb⟩ := hrel
        clear OB CB
        have hbz : Below wz.heap.size wz wr := by rw [HXX.out]; exact hb.out
        by_cases hlt : k < n'
        · have hki : (k : Int) < (n' : Int) := by omega
          obtain ⟨b1, o1, rfl, hb1, hcs⟩ := (HR'.out.below' (BZ.out.trans (hbz.mono BZ.out.size))).at' (by omega)
          have hcell := hcs k hlt
          obtain ⟨h0, h1, -⟩ := HRB.out k hlt
          obtain ⟨i, hi⟩ : ∃ i : Nat, gi E k = (i : Int) := ⟨(gi E k).toNat, by omega⟩
          have HST := Lib.hid (wtL_stepE (tot := T) (k := k) (Dm := Dm) (E := E) (by rw [HLB.out]; exact hlt) h0 (by omega))
          rw [hi] at hcell h1 HST
          rw [Int.toNat_natCast] at HST
          have hil : i < T := by omega
          have hii : (i : Int) < (T : Int) := by omega
          have ho2 := ho.out.2
          rw [wtL_length] at ho2
          have hpl := (ho2.cellAt i (by omega))
          have hfz := ho2.frozenAt i
          have O4 := Lib.hid (ho.out.set (k := i) (by rw [wtL_length]; exact hil) 1)
          rw [← HST.out] at O4
          have hpl2 : wr.cell? ⟨X, i, none⟩ = some (.int .i64 (gi (wtL T Dm (E.take k)) i)) := by
            rw [hpl, List.getElem?_map]
            unfold gi; rw [List.getD_eq_getElem?_getD, List.getElem?_eq_getElem (by rw [wtL_length]; exact hil)]; rfl
          have B4 := Lib.hid (hb.out.setCell (p := ⟨X, i, none⟩) (Nat.le_refl _) (.int .i64 1))
          clear hcs hpl hi h1 h0 ho hb ho2 hbz
          go_wp2_with fail
          go_roundw
          case rel => exact ⟨k + 1, by omega, by go_num, O4, B4⟩
          case measure => simp [intOf]; omega
        · have hkm : n' = k := by omega
          subst hkm
          have hki : ¬ (n' : Int) < (n' : Int) := by omega
          have OF := Lib.hid (show OwnL wr X (.slice (some ⟨X, 0, none⟩) T T) (wtL T Dm E) by have h := ho.out; rw [List.take_of_length_le (by rw [HLB.out]; exact Nat.le_refl _)] at h; exact h)
          have LF := Lib.hid (LZ.out.below hbz LZ.out.lt)
          have BF := Lib.hid (BZ.out.trans (hbz.mono BZ.out.size))
          have RF := Lib.hid OF.out.rowF
          have HSP := Lib.hid (fun W (hb : Below wr.heap.size wr W) => split_any p pw g HL.out HTOT.out W (cap := T) (RF.out.below' hb) HTT.out.symm)
          clear ho hb hbz
          have k0 := LF.out.c0
          have k1 := LF.out.c1
          have k2 := LF.out.c2
          have k3 := LF.out.c3
          have k4 := LF.out.c4
          have k5 := LF.out.c5
          go_wp2_with fail
          refine (HSP.out _ (Below.refl _ _)).mono ?_
          rintro e ws ⟨v, rfl, hbs, G, cp, hT⟩
          have BS := Lib.hid (BF.out.trans (hbs.mono BF.out.size))
          have LS := Lib.hid (LF.out.below hbs LF.out.lt)
          have TS := Lib.hid hT
          clear hbs hT k0 k1 k2 k3 k4 k5 OF LF BF RF HSP
          obtain ⟨RW, cvw, rfl, hmw, hRW1, hRW2⟩ := TS.out.form (by omega)
          go_wp2_with fail
          go_loopw [62] (fun t wr2 => ∃ k : Nat, k ≤ n ∧ t = .int .i64 k ∧ Hid (∀ b, b < k → dmW (ordS q r n c) Dm E b T ≤ c) ∧ Hid (Below ws.heap.size ws wr2)) (fun t _ => n - (intOf t).toNat)
          case atStart => exact ⟨0, by omega, rfl, Lib.hid (fun b hb => absurd hb (Nat.not_lt_zero b)), Lib.hid (Below.refl _ _)⟩
          case round =>
            obtain ⟨k, hk, rfl, hall, hb⟩ := hrel
            by_cases hkn : k < n
            · have hki : (k : Int) < (n : Int) := by omega
              have TW := TS.out.below hb.out
              have q1 := TW.slot hkn
              have hcell : ∀ e, e < shN q r n k + c → wr.cell? ⟨G k, e, none⟩ = some (.int .i64 (gi (wB q r n c (wtL T Dm E) k) e)) := fun e he => (TW.cell hkn (by rw [wB_length]; exact he)).1
              have HCELL := Lib.hid hcell
              have hG := Lib.hid (TS.out.rlt hkn).2
              have hsum := wS_all (q := q) (r := r) (c := c) hkn Dm E
              have hwd := fun e he => wS_word (q := q) (r := r) (c := c) hkn Dm E e he
              rw [HTT.out] at hsum hwd
              rw [wB_length] at q1
              obtain ⟨lw, hlw⟩ : ∃ lw, shN q r n k + c = lw := ⟨_, rfl⟩
              rw [hlw] at q1 HCELL hsum hwd
              have HSUM := Lib.hid hsum
              have HWD := Lib.hid (show ∀ e, e ≤ lw → 0 ≤ wS (wB q r n c (wtL T Dm E) k) e ∧ wS (wB q r n c (wtL T Dm E) k) e ≤ 3 * (e : Int) from fun e he => by
                rw [hwd e he]
                have h1 := filtL_length (fun e => dmE E ((ordS q r n c).idxOf (k, e))) e
                have h2 := filtL_length (fun e => dmD Dm E ((ordS q r n c).idxOf (k, e))) e
                omega)
              have hlwb : lw ≤ 1600 := by have := (shN_le q r n k).2; have := HL.out.qle; omega
              generalize wB q r n c (wtL T Dm E) k = wd at *
              clear hcell TW hsum hwd hlw
              obtain ⟨wq, rfl⟩ : ∃ wq : World, wq = wr := ⟨_, rfl⟩
              go_wp2_with fail
              go_loopw [15, 68] (fun s t wr2 => ∃ e : Nat, e ≤ lw ∧ t = .int .i64 e ∧ s = .int .i64 (wS wd e) ∧ wr2 = wq) (fun _ t _ => lw - (intOf t).toNat)
              case atStart => exact ⟨0, by omega, rfl, rfl, rfl⟩
              case round =>
                obtain ⟨e, he, rfl, rfl, rfl⟩ := hrel
                by_cases hel : e < lw
                · have hei : (e : Int) < (lw : Int) := by omega
                  have hc0 := HCELL.out e hel
                  have hsu : wS wd e + gi wd e = wS wd (e + 1) := rfl
                  have hb3 := HWD.out (e + 1) hel
                  have y1 : -1000000 ≤ wS wd (e + 1) ∧ wS wd (e + 1) ≤ 1000000 := by omega
                  obtain ⟨s1, hs1⟩ : ∃ s1, wS wd (e + 1) = s1 := ⟨_, rfl⟩
                  rw [hs1] at hsu y1
                  have HS1 := Lib.hid hs1
                  have v1 : wrap64 s1 = s1 := (wraps y1).1
                  have v2 : IntKind.i64.wrap s1 = s1 := (wraps y1).2
                  clear y1 hb3 hs1
                  generalize wS wd e = s0 at *
                  generalize gi wd e = z at *
                  go_wp2_with fail
                  clear v1 v2 hsu
                  go_roundw
                  case rel => exact ⟨e + 1, by omega, by go_num, by rw [HS1.out], trivial⟩
                  case measure => simp [intOf]; omega
                · have hee : lw = e := by omega
                  subst hee
                  have hei : ¬ (lw : Int) < (lw : Int) := by omega
                  obtain ⟨d, hd⟩ : ∃ d, dmW (ordS q r n c) Dm E k T = d := ⟨_, rfl⟩
                  have hsd : wS wd lw = (d : Int) := by rw [HSUM.out, hd]
                  rw [hsd]
                  have HD3 := Lib.hid hd
                  have k4 := (LS.out.below hb.out LS.out.lt).c4
                  clear hd hsd
                  by_cases hgt : (c : Int) < (d : Int)
                  · have HF := Lib.hid (show ((List.range n).all fun b => decide (dmW (ordS q r n c) Dm E b (ordS q r n c).length ≤ c)) = false by
                      rw [HTT.out, List.all_eq_false]
                      exact ⟨k, List.mem_range.2 hkn, by rw [HD3.out, decide_eq_true_eq]; omega⟩)
                    go_wp2_with fail
                    go_ret2
                    exact ⟨(by rw [hf0.out, hf1.out, HF.out]; rfl), BS.out.trans (hb.out.mono BS.out.size)⟩
                  · have HDC := Lib.hid (show dmW (ordS q r n c) Dm E k T ≤ c by rw [HD3.out]; omega)
                    go_wp2_with fail
                    go_roundw
                    case rel => exact ⟨k + 1, by omega, by go_num, Lib.hid (fun b hb' => by
                      by_cases e : b = k
                      · subst e; exact HDC.out
                      · exact hall.out b (by omega)), hb⟩
                    case measure => simp [intOf]; omega
            · have hkq : n = k := by omega
              subst hkq
              have hki : ¬ (n : Int) < (n : Int) := by omega
              have hF : ((List.range n).all fun b => decide (dmW (ordS q r n c) Dm E b (ordS q r n c).length ≤ c)) = true := by
                rw [HTT.out, List.all_eq_true]; exact fun b hb' => decide_eq_true (hall.out b (List.mem_range.1 hb'))
              go_wp2_with fail
              go_ret2
              have HF := Lib.hid hF
              exact ⟨(by rw [hf0.out, hf1.out, HF.out]; rfl), BS.out.trans (hb.out.mono BS.out.size)⟩
end Go.Proofs.Ytfhkkpfiflgofaa
