/-
  The parts BstP, BstS, BstT, BstI.
-/
import Derived.Test.YtfhkkpfiflgofaaLayP
import Derived.Test.YtfhkkpfiflgofaaOrd
import Derived.Test.YtfhkkpfiflgofaaRnd
import Derived.Test.YtfhkkpfiflgofaaOrdI
import Derived.RangeFuncBox
import Derived.BigQuiet
/-
  Bursts: windows of a stream. Plain mathematics.
-/
namespace Go.Proofs.Ytfhkkpfiflgofaa
set_option linter.unusedVariables false

/-- How many places of block x lie among the first t places. -/
def cnt (o : List (Nat × Nat)) (x t : Nat) : Nat := ((o.take t).filter fun y => y.1 == x).length
/-- How many places of block x lie from i up to j. -/
def cwn (o : List (Nat × Nat)) (x i j : Nat) : Nat := cnt o x j - cnt o x i
section
variable {o : List (Nat × Nat)} {x i j t : Nat}
theorem cnt_succ (h : t < o.length) : cnt o x (t + 1) = cnt o x t + if (o[t]).1 = x then 1 else 0 := by
  unfold cnt
  rw [List.take_succ_eq_append_getElem h, List.filter_append, List.length_append]
  by_cases e : (o[t]).1 = x
  · rw [if_pos e]; simp [e]
  · rw [if_neg e]; simp [e]
theorem cnt_mono (h : i ≤ j) (hj : j ≤ o.length) : cnt o x i ≤ cnt o x j := by
  induction j with
  | zero => obtain rfl : i = 0 := by omega
            exact Nat.le_refl _
  | succ j ih =>
    by_cases e : i = j + 1
    · subst e; exact Nat.le_refl _
    · have := ih (by omega) (by omega)
      rw [cnt_succ (by omega)]
      omega
theorem cwn_self (o : List (Nat × Nat)) (x i : Nat) : cwn o x i i = 0 := by unfold cwn; omega
theorem cwn_right (h : i ≤ j) (hj : j < o.length) : cwn o x i (j + 1) = cwn o x i j + if (o[j]).1 = x then 1 else 0 := by
  have h1 := cnt_mono (o := o) (x := x) h (by omega)
  unfold cwn
  rw [cnt_succ hj]
  split <;> omega
theorem cwn_left (h : i < j) (hj : j ≤ o.length) : cwn o x i j = cwn o x (i + 1) j + if (o[i]'(by omega)).1 = x then 1 else 0 := by
  have h1 := cnt_mono (o := o) (x := x) (show i + 1 ≤ j by omega) hj
  have h2 := cnt_succ (o := o) (x := x) (show i < o.length by omega)
  unfold cwn
  split at h2 <;> split <;> omega
theorem cwn_sub {i' j' : Nat} (h1 : i ≤ i') (h2 : i' ≤ j') (h3 : j' ≤ j) (hj : j ≤ o.length) : cwn o x i' j' ≤ cwn o x i j := by
  have a := cnt_mono (o := o) (x := x) h1 (by omega)
  have b := cnt_mono (o := o) (x := x) h2 (by omega)
  have c := cnt_mono (o := o) (x := x) h3 hj
  unfold cwn; omega
end
/-- Every window of b places holds at most h of each block. -/
def okW (o : List (Nat × Nat)) (h b : Nat) : Prop := ∀ i, i + b ≤ o.length → ∀ x, cwn o x i (i + b) ≤ h
theorem okW_less {o : List (Nat × Nat)} {h b b' : Nat} (hb : okW o h b) (hl : b' ≤ b) (hlen : b ≤ o.length) : okW o h b' := fun i hi x => by
  by_cases e : i + b ≤ o.length
  · exact Nat.le_trans (cwn_sub (Nat.le_refl _) (by omega) (by omega) e) (hb i e x)
  · have h2 := hb (o.length - b) (by omega) x
    rw [show o.length - b + b = o.length by omega] at h2
    exact Nat.le_trans (cwn_sub (by omega) (by omega) (by omega) (Nat.le_refl _)) h2
/-- M is the bound: windows of M places are fine, and M is all or those of M + 1 are not. -/
structure BstN (o : List (Nat × Nat)) (h M : Nat) : Prop where
  le : M ≤ o.length
  ok : okW o h M
  top : M = o.length ∨ (M < o.length ∧ ¬ okW o h (M + 1))
theorem BstN.uniq {o : List (Nat × Nat)} {h M M' : Nat} (a : BstN o h M) (b : BstN o h M') : M = M' := by
  rcases Nat.lt_trichotomy M M' with hl | hl | hl
  · rcases a.top with h1 | ⟨h1, h2⟩
    · have := b.le; omega
    · exact absurd (okW_less b.ok (show M + 1 ≤ M' by omega) b.le) h2
  · exact hl
  · rcases b.top with h1 | ⟨h1, h2⟩
    · have := a.le; omega
    · exact absurd (okW_less a.ok (show M' + 1 ≤ M by omega) a.le) h2
theorem okW_zero (o : List (Nat × Nat)) (h : Nat) : okW o h 0 := fun i hi x => by rw [Nat.add_zero, cwn_self]; exact Nat.zero_le _
/-- What the search with two ends knows: s starts are done, the last end was t. -/
structure TwoE (o : List (Nat × Nat)) (h s t best : Nat) : Prop where
  st : s ≤ t
  tl : t ≤ o.length
  fine : ∀ x, cwn o x s t ≤ h
  done : ∀ i, i < s → ∀ x, cwn o x i (i + best) ≤ h
  low : best ≤ o.length
  rest : ∀ i, i < s → i + best ≤ o.length
  hit : best = o.length ∨ (best < o.length ∧ ∃ i x, i + best < o.length ∧ h < cwn o x i (i + best + 1))
theorem TwoE.start (o : List (Nat × Nat)) (h : Nat) : TwoE o h 0 0 o.length :=
  ⟨Nat.le_refl _, Nat.zero_le _, fun x => by rw [cwn_self]; exact Nat.zero_le _, fun i hi => absurd hi (Nat.not_lt_zero i), Nat.le_refl _, fun i hi => absurd hi (Nat.not_lt_zero i), .inl rfl⟩
/-- The far end moves on. -/
theorem TwoE.far {o : List (Nat × Nat)} {h s t best : Nat} (a : TwoE o h s t best) (ht : t < o.length) (hx : cwn o (o[t]).1 s t < h) : TwoE o h s (t + 1) best :=
  ⟨by have := a.st; omega, ht, fun x => by
    rw [cwn_right a.st ht]
    have := a.fine x
    by_cases e : (o[t]).1 = x
    · subst e; rw [if_pos rfl]; omega
    · rw [if_neg e]; omega, a.done, a.low, a.rest, a.hit⟩
/-- The far end is the stream's: this is the bound. -/
theorem TwoE.last {o : List (Nat × Nat)} {h s best : Nat} (a : TwoE o h s o.length best) : BstN o h best :=
  ⟨a.low, fun i hi x => by
    by_cases e : i < s
    · exact a.done i e x
    · exact Nat.le_trans (cwn_sub (by omega) (by omega) hi (Nat.le_refl _)) (a.fine x), by
    rcases a.hit with h1 | ⟨h1, i, x, h2, h3⟩
    · exact .inl h1
    · exact .inr ⟨h1, fun hk => by have := hk i (by omega) x; rw [← Nat.add_assoc] at this; omega⟩⟩
/-- One start is done. -/
theorem TwoE.next {o : List (Nat × Nat)} {h s t best : Nat} (a : TwoE o h s t best) (ht : t < o.length) (hx : ¬ cwn o (o[t]).1 s t < h) (t' : Nat) (ht1 : t' = t ∨ (t = s ∧ t' = t + 1)) (hst : s < t') : TwoE o h (s + 1) t' (min best (t - s)) := by
  have hst0 := a.st
  have hbad : h < cwn o (o[t]).1 s (s + (t - s) + 1) := by
    rw [show s + (t - s) + 1 = t + 1 by omega, cwn_right hst0 ht, if_pos rfl]; omega
  refine ⟨by omega, by omega, fun x => ?_, fun i hi x => ?_, by have := a.low; omega, fun i hi => ?_, ?_⟩
  · rcases ht1 with rfl | ⟨rfl, rfl⟩
    · exact Nat.le_trans (cwn_sub (by omega) (by omega) (Nat.le_refl _) (by omega)) (a.fine x)
    · rw [cwn_self]; exact Nat.zero_le _
  · by_cases e : i = s
    · subst e
      refine Nat.le_trans (cwn_sub (Nat.le_refl _) (by omega) (show i + min best (t - i) ≤ t by omega) (by omega)) (a.fine x)
    · have h1 := a.rest i (by omega)
      exact Nat.le_trans (cwn_sub (Nat.le_refl _) (by omega) (show i + min best (t - s) ≤ i + best by omega) h1) (a.done i (by omega) x)
  · by_cases e : i = s
    · omega
    · have := a.rest i (by omega); omega
  · by_cases hm : best ≤ t - s
    · rw [Nat.min_eq_left hm]; exact a.hit
    · rw [Nat.min_eq_right (by omega)]
      exact .inr ⟨by omega, s, _, by omega, hbad⟩
end Go.Proofs.Ytfhkkpfiflgofaa
/-
  The reference's BurstBound.
-/
namespace Go.Proofs.Ytfhkkpfiflgofaa
open Go.RowKit
set_option linter.unusedVariables false

/-- mo is the greatest count of a block from i up to k. -/
def MostN (o : List (Nat × Nat)) (i k : Nat) (mo : Int) : Prop := 0 ≤ mo ∧ mo ≤ (k : Int) - (i : Int) ∧ ∀ h : Nat, mo ≤ (h : Int) ↔ ∀ x, cwn o x i k ≤ h
theorem MostN.start (o : List (Nat × Nat)) (i : Nat) : MostN o i i 0 := ⟨Int.le_refl _, by omega, fun h => ⟨fun _ x => by rw [cwn_self]; omega, fun _ => by omega⟩⟩
theorem MostN.next {o : List (Nat × Nat)} {i k : Nat} {mo : Int} (a : MostN o i k mo) (hik : i ≤ k) (hk : k < o.length) {mo' : Int} (hm : mo' = max mo ((cwn o (o[k]).1 i (k + 1) : Nat) : Int)) : MostN o i (k + 1) mo' := by
  have hx := cwn_right (o := o) (x := (o[k]).1) hik hk
  rw [if_pos rfl] at hx
  have hle : ((cwn o (o[k]).1 i k : Nat) : Int) ≤ mo := by
    have := (a.2.2 mo.toNat).1 (by have := a.1; omega) (o[k]).1
    have := a.1; omega
  refine ⟨by rw [hm]; have := a.1; omega, by rw [hm]; have := a.2.1; omega, fun h => ⟨fun hh y => ?_, fun hh => ?_⟩⟩
  · by_cases e : (o[k]).1 = y
    · subst e; rw [hm] at hh; omega
    · rw [cwn_right hik hk, if_neg e]
      have := (a.2.2 h).1 (by rw [hm] at hh; omega) y
      omega
  · rw [hm]
    have h1 := (a.2.2 h).2 fun y => by
      have := hh y
      rw [cwn_right hik hk] at this
      omega
    have h2 := hh (o[k]).1
    omega
set_option maxHeartbeats 4000000 in
set_option maxRecDepth 100000 in
theorem l07Most_any {o : List (Nat × Nat)} (ho16 : ∀ y ∈ o, y.1 < 16) (hlen : o.length ≤ 1500) (w : World) {B RO cvo : Nat} {G cp : Nat → Nat} (hT : Rag w B (.slice (some ⟨RO, 0, none⟩) o.length cvo) o.length o.length G cp (prL o)) (i j : Nat) (hij : i ≤ j) (hj : j ≤ o.length) :
    Calls Try.prog 103 #[.slice (some ⟨RO, 0, none⟩) o.length cvo, .int .i64 (i : Int), .int .i64 (j : Int)] w fun e w' => ∃ mo, e = .returned (.int .i64 mo) ∧ Below w.heap.size w w' ∧ MostN o i j mo := by
  have HT := Lib.hid hT
  have H16 := Lib.hid ho16
  have hmk := fun w => run_make_ints w 26 Try.underlying26 16 (by omega) (by omega)
  rw [show (16 : Int).toNat = 16 from rfl] at hmk
  have O0 := Lib.hid (OwnL.zeros w w.heap.size (Nat.le_refl _) 16 (by omega))
  have B0 := Lib.hid (below1 w (.cells (madeCells #[.int .i64 0] 16) 2))
  obtain ⟨M, hM⟩ : ∃ M, o.length = M := ⟨_, rfl⟩
  have HM := Lib.hid hM
  rw [hM] at hj hlen ⊢
  clear hT hM
  go_enter Try.func103, Try.ntmps103
  go_wp2_with fail
  clear hmk
  go_loopw [8, 9] (fun m t wr => ∃ (k : Nat) (mo : Int) (L : List Int), i ≤ k ∧ k ≤ j ∧ t = .int .i64 k ∧ m = .int .i64 mo ∧ Hid (MostN o i k mo) ∧ Hid (L.length = 16 ∧ ∀ x, x < 16 → gi L x = ((cwn o x i k : Nat) : Int)) ∧ Hid (OwnL wr w.heap.size (.slice (some ⟨w.heap.size, 0, none⟩) 16 16) L) ∧ Hid (Below w.heap.size w wr)) (fun _ t _ => j - (intOf t).toNat)
  case atStart => exact ⟨i, 0, List.replicate 16 0, by omega, by omega, rfl, rfl, Lib.hid (MostN.start o i), Lib.hid ⟨by simp, fun x hx => by rw [gi_replicate, cwn_self]; rfl⟩, O0, B0⟩
  case round =>
    clear O0 B0
    obtain ⟨k, mo, L, hk1, hk2, rfl, rfl, hmo, hL, ho, hb⟩ := hrel
    by_cases hkj : k < j
    · have hki : (k : Int) < (j : Int) := by omega
      have hko : k < o.length := by rw [HM.out]; omega
      have hkM : (k : Int) < (M : Int) := by omega
      obtain ⟨xb, hxb⟩ : ∃ xb, (o[k]).1 = xb := ⟨_, rfl⟩
      have hx16 : xb < 16 := by rw [← hxb]; exact H16.out _ (List.getElem_mem hko)
      have hxi : (xb : Int) < 16 := by omega
      have TW := HT.out.below hb.out
      have hpr : prL o k = [((o[k]).1 : Int), ((o[k]).2 : Int)] := by
        unfold prL; rw [List.getD_eq_getElem?_getD, List.getElem?_eq_getElem hko]; rfl
      have q1 := TW.slot hko
      have q2 := (TW.cell hko (i := 0) (by rw [hpr]; simp)).1
      rw [hpr] at q1 q2
      rw [hxb] at q2
      change wr.cell? ⟨RO, k, none⟩ = some (.slice (some ⟨G k, 0, none⟩) 2 (cp k)) at q1
      change wr.cell? ⟨G k, 0, none⟩ = some (.int .i64 (xb : Int)) at q2
      have ho2 := ho.out.2
      rw [hL.out.1] at ho2
      have hpl := ho2.cellAt xb (by omega)
      have hfz := ho2.frozenAt xb
      have hval : wr.cell? ⟨w.heap.size, xb, none⟩ = some (.int .i64 ((cwn o xb i k : Nat) : Int)) := by
        rw [hpl, List.getElem?_map, List.getElem?_eq_getElem (by rw [hL.out.1]; exact hx16), ← hL.out.2 xb hx16]
        unfold gi; rw [List.getD_eq_getElem?_getD, List.getElem?_eq_getElem (by rw [hL.out.1]; exact hx16)]; rfl
      have hcr : cwn o xb i (k + 1) = cwn o xb i k + 1 := by rw [cwn_right hk1 hko, if_pos hxb]
      have hcb := hmo.out.2.1
      have hcle : ((cwn o xb i k : Nat) : Int) ≤ mo := by
        have := (hmo.out.2.2 mo.toNat).1 (by have := hmo.out.1; omega) xb
        have := hmo.out.1; omega
      have HNX := Lib.hid (fun mo' h => hmo.out.next hk1 hko (mo' := mo') h)
      rw [hxb, hcr] at HNX
      have HL2 := Lib.hid (show (L.set xb (((cwn o xb i k + 1 : Nat) : Int))).length = 16 ∧ ∀ x, x < 16 → gi (L.set xb ((cwn o xb i k + 1 : Nat) : Int)) x = ((cwn o x i (k + 1) : Nat) : Int) from ⟨by rw [List.length_set]; exact hL.out.1, fun x hx => by
        rw [gi_set (by rw [hL.out.1]; exact hx16)]
        by_cases e : x = xb
        · subst e; rw [if_pos rfl, hcr]
        · rw [if_neg e, hL.out.2 x hx, cwn_right hk1 hko, if_neg (by rw [hxb]; exact fun h => e h.symm)]; simp⟩)
      have O2 := Lib.hid (ho.out.set (k := xb) (by rw [hL.out.1]; exact hx16) ((cwn o xb i k + 1 : Nat) : Int))
      have B2 := Lib.hid (hb.out.setCell (p := ⟨w.heap.size, xb, none⟩) (Nat.le_refl _) (.int .i64 ((cwn o xb i k + 1 : Nat) : Int)))
      have TW2 := Lib.hid (HT.out.below B2.out)
      have q1' := TW2.out.slot hko
      have q2' := (TW2.out.cell hko (i := 0) (by rw [hpr]; simp)).1
      rw [hpr] at q1' q2'
      rw [hxb] at q2'
      have hval2 : (wr.setCell ⟨w.heap.size, xb, none⟩ (.int .i64 ((cwn o xb i k + 1 : Nat) : Int))).cell? ⟨w.heap.size, xb, none⟩ = some (.int .i64 ((cwn o xb i k + 1 : Nat) : Int)) := World.cell?_setCell_same' _ _ _ (by rw [hval]; rfl)
      change (wr.setCell ⟨w.heap.size, xb, none⟩ (.int .i64 ((cwn o xb i k + 1 : Nat) : Int))).cell? ⟨RO, k, none⟩ = some (.slice (some ⟨G k, 0, none⟩) 2 (cp k)) at q1'
      change (wr.setCell ⟨w.heap.size, xb, none⟩ (.int .i64 ((cwn o xb i k + 1 : Nat) : Int))).cell? ⟨G k, 0, none⟩ = some (.int .i64 (xb : Int)) at q2'
      obtain ⟨cn, hcn⟩ : ∃ cn, cwn o xb i k = cn := ⟨_, rfl⟩
      rw [hcn] at hval hcle HNX HL2 O2 B2 q1' q2' hval2
      rw [show ((cn + 1 : Nat) : Int) = (cn : Int) + 1 by omega] at HNX HL2 O2 B2 q1' q2' hval2
      have y1 : -1000000 ≤ (cn : Int) + 1 ∧ (cn : Int) + 1 ≤ 1000000 := by omega
      clear hcr hcn hpr TW hpl ho2 hcb hxb TW2
      obtain ⟨v1, v2⟩ := wraps y1
      clear y1
      go_wp2_with fail
      all_goals (try clear v1 v2)
      all_goals go_roundw
      all_goals first
        | (case rel => exact ⟨k + 1, _, _, by omega, by omega, by go_num, rfl, Lib.hid (HNX.out _ (by omega)), HL2, O2, B2⟩)
        | (case measure => simp [intOf]; omega)
        | skip
    · obtain rfl : k = j := by omega
      have hki : ¬ (k : Int) < (k : Int) := by omega
      go_wp2_with fail
      go_ret
      exact ⟨_, rfl, hb.out, hmo.out⟩
end Go.Proofs.Ytfhkkpfiflgofaa
/-
  The reference's BurstBound: the greatest window that holds no block too often.
-/
namespace Go.Proofs.Ytfhkkpfiflgofaa
open Go.RowKit
set_option linter.unusedVariables false

theorem tdiv2 (c : Nat) : ((c : Int).tdiv 2) = ((c / 2 : Nat) : Int) := by rw [Int.tdiv_eq_ediv_of_nonneg (by omega)]; omega
set_option maxHeartbeats 8000000 in
set_option maxRecDepth 100000 in
theorem specBurstBound_any (p pw g : Int) {D C N : Int} {q r n c : Nat} (hlay : layB p pw g D C N = true) (hl : LN D C N q r n c) (htot : q * n + r + n * c ≤ 1500) (w : World) :
    Calls Try.prog 39 #[lV p pw g D C N] w fun x w' => ∃ M : Nat, x = .returned (.tuple #[.int .i64 M, .int .i64 0]) ∧ Below w.heap.size w w' ∧ BstN (ordS q r n c) (c / 2) M := by
  have HL := Lib.hid hl
  have HTOT := Lib.hid htot
  have HLAY := Lib.hid hlay
  have hn16 := hl.n16
  have hn1 := hl.n1
  have hc64 := hl.c64
  have hnD := hl.nD
  have HLT := Lib.hid (ordS_length q r n c (Nat.le_of_lt hl.rn))
  obtain rfl : N = (n : Int) := hl.hN
  obtain rfl : C = (c : Int) := hl.hC
  have HB := Lib.hid (below1 w (.cells #[.int .i64 p, .int .i64 pw, .int .i64 g, .int .i64 D, .int .i64 (c : Int), .int .i64 (n : Int)] LT))
  have L0 := Lib.hid (LB.new w p pw g D c n)
  clear hl hlay
  go_enter Try.func39, Try.ntmps39
  generalize hw1 : w.alloc (.cells #[.int .i64 p, .int .i64 pw, .int .i64 g, .int .i64 D, .int .i64 (c : Int), .int .i64 (n : Int)] LT) = w1 at *
  have k0 := L0.out.c0
  have k1 := L0.out.c1
  have k2 := L0.out.c2
  have k3 := L0.out.c3
  have k4 := L0.out.c4
  have k5 := L0.out.c5
  go_wp2_with fail
  (try rw [hw1])
  clear hw1
  refine (specIsLayout_any p pw g D c n _).mono ?_
  rintro e w2 ⟨rfl, hb2⟩
  have B2 := Lib.hid (HB.out.trans (hb2.mono HB.out.size))
  have L2 := Lib.hid (L0.out.below hb2 L0.out.lt)
  clear hb2 HB L0 k0 k1 k2 k3 k4 k5
  rw [HLAY.out]
  have k0 := L2.out.c0
  have k1 := L2.out.c1
  have k2 := L2.out.c2
  have k3 := L2.out.c3
  have k4 := L2.out.c4
  have k5 := L2.out.c5
  go_wp2_with fail
  refine (l07Order_any p pw g HL.out HTOT.out _).mono ?_
  rintro e w3 ⟨v3, rfl, hb3, G, cp, hR3⟩
  have B3 := Lib.hid (B2.out.trans (hb3.mono B2.out.size))
  have L3 := Lib.hid (L2.out.below hb3 L2.out.lt)
  have T3 := Lib.hid hR3
  clear hb3 hR3 B2 L2 k0 k1 k2 k3 k4 k5
  obtain ⟨RO, cvo, rfl, hmc2, -, -⟩ := T3.out.form (by have h1 := HLT.out; have h3 : n * q = q * n := Nat.mul_comm _ _; omega)
  obtain ⟨o, ho⟩ : ∃ o, ordS q r n c = o := ⟨_, rfl⟩
  have H16 := Lib.hid (show ∀ y ∈ ordS q r n c, y.1 < 16 from fun y hy => by obtain ⟨y1, y2⟩ := y; have := (ordS_mem.1 hy).1; show y1 < 16; omega)
  rw [ho] at T3 HLT hmc2 H16 ⊢
  obtain ⟨M, hM⟩ : ∃ M, o.length = M := ⟨_, rfl⟩
  have hM15 : M ≤ 1500 := by have h1 := HLT.out; have h2 := HTOT.out; have h3 : n * q = q * n := Nat.mul_comm _ _; omega
  have HMost := Lib.hid (fun (W : World) (hT : Rag W w2.heap.size (.slice (some ⟨RO, 0, none⟩) o.length cvo) o.length o.length G cp (prL o)) i j hij hj => l07Most_any H16.out (by omega) W hT i j hij hj)
  rw [hM] at T3 hmc2 HMost ⊢
  have HM := Lib.hid hM
  have HC2 := Lib.hid (tdiv2 c)
  obtain ⟨h, hh⟩ : ∃ h, c / 2 = h := ⟨_, rfl⟩
  rw [hh] at HC2
  have HH := Lib.hid hh
  have HO := Lib.hid ho
  have HC3 := Lib.hid (show (c : Int) / 2 = (h : Int) by omega)
  clear hh hM ho HLT H16
  go_wp2_with fail
  go_loopw [5] (fun t wr => ∃ b : Nat, 1 ≤ b ∧ b ≤ M + 1 ∧ t = .int .i64 b ∧ Hid (okW o h (b - 1)) ∧ Hid (Below w3.heap.size w3 wr)) (fun t _ => M + 1 - (intOf t).toNat)
  case atStart => exact ⟨1, by omega, by omega, rfl, Lib.hid (okW_zero o h), Lib.hid (Below.refl _ _)⟩
  case round =>
    obtain ⟨b, hb1, hbM, rfl, hok, hB⟩ := hrel
    by_cases hbb : b ≤ M
    · have hbi : (b : Int) ≤ (M : Int) := by omega
      have H0 := Lib.hid (show ∀ i, i < 0 → ∀ x, cwn o x i (i + b) ≤ h from fun i hi => absurd hi (Nat.not_lt_zero i))
      go_wp2_with fail
      rename_i wq
      go_loopw [6] (fun t wr => ∃ f : Nat, f + b ≤ M + 1 ∧ t = .int .i64 f ∧ Hid (∀ i, i < f → ∀ x, cwn o x i (i + b) ≤ h) ∧ Hid (Below w3.heap.size w3 wr)) (fun t _ => M + 1 - (intOf t).toNat)
      case atStart => exact ⟨0, by omega, rfl, H0, hB⟩
      case round =>
        clear hB H0
        obtain ⟨f, hf, rfl, hfin, hB⟩ := hrel
        have y1 : -1000000 ≤ (f : Int) + (b : Int) ∧ (f : Int) + (b : Int) ≤ 1000000 := by omega
        by_cases hfb : f + b ≤ M
        · have hfi : (f : Int) + (b : Int) ≤ (M : Int) := by omega
          have L4 := Lib.hid (L3.out.below hB.out L3.out.lt)
          have k4 := L4.out.c4
          have y3 : -1000000 ≤ (b : Int) - 1 ∧ (b : Int) - 1 ≤ 1000000 := by omega
          have y5 : -1000000 ≤ (c : Int) / 2 ∧ (c : Int) / 2 ≤ 1000000 := by omega
          obtain ⟨v1, v2⟩ := wraps y1
          obtain ⟨v3, v4⟩ := wraps y3
          obtain ⟨v5, v6⟩ := wraps y5
          clear y1 y3 y5
          go_wp2_with fail
          refine wp_region_S (S := (fun w' => w'.cell? ⟨w.heap.size, 4, none⟩ = some (.int .i64 (c : Int)))) 10 rfl (by kernel_rfl) ?_ (fun hHeld => ?_)
          · (try dsimp only); exact keep_cell (Drew.below (drew1 wr) wr.heap.size) k4
          refine wpAnyH_take (i := 0) (oi := _) (v := ?_) rfl (by kernel_rfl) (by kernel_rfl) (by kernel_rfl) (fun _ _ _ h => h) (Or.inl ⟨by rfl, ?_⟩) hHeld ?_
          rotate_left
          · intro w0 hSw; (try dsimp only at hSw); go_simp; (try with_reducible rfl)
          (try dsimp only [Act.put, List.setIfInBounds_toArray, List.set_cons_zero, List.set_cons_succ])
          refine wpAnyH_take (i := 1) (oi := _) (v := ?_) rfl (by kernel_rfl) (by kernel_rfl) (by kernel_rfl) (fun _ _ _ h => h) (Or.inl ⟨by rfl, ?_⟩) hHeld ?_
          rotate_left
          · intro w0 hSw; (try dsimp only at hSw); go_simp; (try with_reducible rfl)
          (try dsimp only [Act.put, List.setIfInBounds_toArray, List.set_cons_zero, List.set_cons_succ])
          refine wpAnyH_take (i := 2) (oi := _) (v := ?_) rfl (by kernel_rfl) (by kernel_rfl) (by kernel_rfl) (fun _ _ _ h => h) (Or.inl ⟨by rfl, ?_⟩) hHeld ?_
          rotate_left
          · intro w0 hSw; (try dsimp only at hSw); go_simp; (try with_reducible rfl)
          (try dsimp only [Act.put, List.setIfInBounds_toArray, List.set_cons_zero, List.set_cons_succ])
          refine wpAnyH_take (i := 3) (oi := _) (v := ?_) rfl (by kernel_rfl) (by kernel_rfl) (by kernel_rfl) (fun _ _ _ h => h) (Or.inl ⟨by rfl, ?_⟩) hHeld ?_
          rotate_left
          · intro w0 hSw; (try dsimp only at hSw); go_simp; (try with_reducible rfl)
          (try dsimp only [Act.put, List.setIfInBounds_toArray, List.set_cons_zero, List.set_cons_succ])
          refine wpAnyH_take (i := 4) (oi := _) (v := ?_) rfl (by kernel_rfl) (by kernel_rfl) (by kernel_rfl) (fun _ _ _ h => h) (Or.inl ⟨by rfl, ?_⟩) hHeld ?_
          rotate_left
          · intro w0 hSw; (try dsimp only at hSw); go_simp; (try with_reducible rfl)
          (try dsimp only [Act.put, List.setIfInBounds_toArray, List.set_cons_zero, List.set_cons_succ])
          refine wpAnyH_take (i := 6) (oi := _) (v := ?_) rfl (by kernel_rfl) (by kernel_rfl) (by kernel_rfl) (fun _ _ _ h => h) (Or.inl ⟨by rfl, ?_⟩) hHeld ?_
          rotate_left
          · intro w0 hSw; (try dsimp only at hSw); go_simp; (try with_reducible rfl)
          (try dsimp only [Act.put, List.setIfInBounds_toArray, List.set_cons_zero, List.set_cons_succ])
          refine wpAnyH_take (i := 7) (oi := _) (v := ?_) rfl (by kernel_rfl) (by kernel_rfl) (by kernel_rfl) (fun _ _ _ h => h) (Or.inl ⟨by rfl, ?_⟩) hHeld ?_
          rotate_left
          · intro w0 hSw; (try dsimp only at hSw); go_simp; (try with_reducible rfl)
          (try dsimp only [Act.put, List.setIfInBounds_toArray, List.set_cons_zero, List.set_cons_succ])
          refine wpAnyH_take (i := 8) (oi := _) (v := ?_) rfl (by kernel_rfl) (by kernel_rfl) (by kernel_rfl) (fun _ _ _ h => h) (Or.inl ⟨by rfl, ?_⟩) hHeld ?_
          rotate_left
          · intro w0 hSw; (try dsimp only at hSw); go_simp; (try with_reducible rfl)
          (try dsimp only [Act.put, List.setIfInBounds_toArray, List.set_cons_zero, List.set_cons_succ])
          refine wpAnyH_ready (rs := [5]) (by kernel_rfl) (by simp) ?_
          refine AllReadyH.cons (o := _) rfl (fun K hK => ?_) AllReadyH.nil
          go_simp
          refine (HMost.out _ (T3.out.below (hB.out.trans (Drew.below (drew1 wr) _))) f (f + b) (Nat.le_add_right f b) hfb).mono ?_
          rintro e w5 ⟨mo, rfl, hb5, hmo⟩
          refine hK.out _ _ ?_ (fun hHeld => ?_)
          · (try dsimp only); exact keep_cell hb5 hHeld
          clear hK K
          (try dsimp only [Act.put, List.setIfInBounds_toArray, List.set_cons_zero, List.set_cons_succ])
          have HMO := Lib.hid hmo
          have B5 := Lib.hid ((hB.out.trans (Drew.below (drew1 wr) _)).trans (hb5.mono (hB.out.trans (Drew.below (drew1 wr) _)).size))
          clear hmo hb5 hB
          by_cases hgt : (c : Int) / 2 < mo
          · refine wpAnyH_take (i := 9) (oi := _) (v := ?_) rfl (by kernel_rfl) (by kernel_rfl) (by kernel_rfl) (fun _ _ _ h => h) (Or.inl ⟨by rfl, ?_⟩) hHeld ?_
            rotate_left
            · intro w0 hSw; (try dsimp only at hSw); go_simp; (try with_reducible rfl)
            (try dsimp only [Act.put, List.setIfInBounds_toArray, List.set_cons_zero, List.set_cons_succ])
            refine wpAnyH_done (by kernel_rfl) ?_ _
            have hbad : ¬ okW o h b := fun hk => Int.not_le.2 (by rw [← HC3.out]; exact hgt) ((HMO.out.2.2 h).2 (fun x => hk f (by rw [HM.out]; exact hfb) x))
            go_wp2_with fail
            clear v1 v2 v3 v4 v5 v6
            go_ret2
            rw [HO.out, HH.out]
            exact ⟨b - 1, (by rw [show ((b - 1 : Nat) : Int) = (b : Int) - 1 by omega]; rfl), B3.out.trans (B5.out.mono B3.out.size), by rw [HM.out]; omega, hok.out, .inr ⟨by rw [HM.out]; omega, by rw [show b - 1 + 1 = b by omega]; exact hbad⟩⟩
          · refine wpAnyH_take (i := 9) (oi := _) (v := ?_) rfl (by kernel_rfl) (by kernel_rfl) (by kernel_rfl) (fun _ _ _ h => h) (Or.inl ⟨by rfl, ?_⟩) hHeld ?_
            rotate_left
            · intro w0 hSw; (try dsimp only at hSw); go_simp; (try with_reducible rfl)
            (try dsimp only [Act.put, List.setIfInBounds_toArray, List.set_cons_zero, List.set_cons_succ])
            refine wpAnyH_done (by kernel_rfl) ?_ _
            have hle : ∀ x, cwn o x f (f + b) ≤ h := (HMO.out.2.2 h).1 (by rw [← HC3.out]; exact Int.not_lt.1 hgt)
            go_wp2_with fail
            clear v1 v2 v3 v4 v5 v6
            go_roundw
            case rel => exact ⟨f + 1, by omega, by go_num, Lib.hid (fun i hi x => by
              by_cases e : i = f
              · subst e; exact hle x
              · exact hfin.out i (by omega) x), B5⟩
            case measure => simp [intOf]; omega
        · have hfe : ¬ (f : Int) + (b : Int) ≤ (M : Int) := by omega
          have hok2 : okW o h b := fun i hi x => hfin.out i (by rw [HM.out] at hi; omega) x
          have HOK2 := Lib.hid hok2
          obtain ⟨v1, v2⟩ := wraps y1
          clear y1 hok2
          go_wp2_with fail
          clear v1 v2
          go_roundw
          case rel => exact ⟨b + 1, by omega, by omega, by go_num, Lib.hid (by rw [Nat.add_sub_cancel]; exact HOK2.out), hB⟩
          case measure => simp [intOf]; omega
    · have hbi : ¬ (b : Int) ≤ (M : Int) := by omega
      go_wp2_with fail
      go_ret2
      rw [HO.out, HH.out]
      exact ⟨M, rfl, B3.out.trans (hB.out.mono B3.out.size), by rw [HM.out]; omega, by have := hok.out; rwa [show b - 1 = M by omega] at this, .inl HM.out.symm⟩
end Go.Proofs.Ytfhkkpfiflgofaa
/-
  The implementation's BurstBound: two ends that run over the blocks of the stream.
-/
namespace Go.Proofs.Ytfhkkpfiflgofaa
open Go.RowKit
set_option linter.unusedVariables false
attribute [local go_sem] Oper.semAt_some

/-- The blocks of the places. -/
def bkL (o : List (Nat × Nat)) : List Int := o.map fun y => (y.1 : Int)
theorem bkL_len (o : List (Nat × Nat)) : (bkL o).length = o.length := by unfold bkL; simp
theorem bkL_gi {o : List (Nat × Nat)} {t : Nat} (h : t < o.length) : gi (bkL o) t = ((o[t]).1 : Int) := by
  unfold bkL gi; rw [List.getD_eq_getElem?_getD, List.getElem?_map, List.getElem?_eq_getElem h]; rfl
theorem bkL_snoc (l : List (Nat × Nat)) (y : Nat × Nat) : bkL (l ++ [y]) = bkL l ++ [(y.1 : Int)] := by unfold bkL; simp
/-- The counts of a window, in a block. -/
structure CntB (W : World) (X : Nat) (T : TypeId) (o : List (Nat × Nat)) (s t : Nat) : Prop where
  blk : ∃ cs : Array Value, W.heap[X]? = some (.cells cs T (0, 0)) ∧ cs.size = 16 ∧ ∀ x, x < 16 → cs[x]? = some (.int .i64 ((cwn o x s t : Nat) : Int))
section
variable {W W' : World} {X M s t : Nat} {T : TypeId} {o : List (Nat × Nat)}
theorem CntB.lt (h : CntB W X T o s t) : X < W.heap.size := let ⟨_, h, _⟩ := h.blk; lt_of_heap h
theorem CntB.fz (h : CntB W X T o s t) (i : Nat) : W.frozen? ⟨X, i, none⟩ = false := by obtain ⟨cs, h1, -⟩ := h.blk; unfold World.frozen?; rw [h1]; simp
theorem CntB.cell (h : CntB W X T o s t) {x : Nat} (hx : x < 16) : W.cell? ⟨X, x, none⟩ = some (.int .i64 ((cwn o x s t : Nat) : Int)) := by
  obtain ⟨cs, h1, -, h2⟩ := h.blk; unfold World.cell?; rw [h1]; exact h2 x hx
theorem CntB.drew (h : CntB W X T o s t) : CntB W.drew X T o s t := let ⟨cs, e⟩ := h.blk; ⟨cs, e⟩
theorem CntB.set (h : CntB W X T o s t) {x : Nat} (hx : x < 16) {s' t' : Nat} (h1 : ∀ y, y ≠ x → cwn o y s' t' = cwn o y s t) {v : Int} (hv : v = ((cwn o x s' t' : Nat) : Int)) : CntB (W.setCell ⟨X, x, none⟩ (.int .i64 v)) X T o s' t' := by
  obtain ⟨cs, e1, e2, e3⟩ := h.blk
  refine ⟨_, heap_setCell_self _ _ _ _ _ _ _ e1, by simp [e2], fun y hy => ?_⟩
  rw [Array.getElem?_setIfInBounds]
  by_cases e : x = y
  · subst e; rw [if_pos rfl, if_pos (by omega), hv]
  · rw [if_neg e, e3 y hy, h1 y (fun h => e h.symm)]
theorem CntB.same (h : CntB W X T o s t) {s' t' : Nat} (h1 : ∀ y, cwn o y s' t' = cwn o y s t) : CntB W X T o s' t' := let ⟨cs, e1, e2, e3⟩ := h.blk; ⟨cs, e1, e2, fun y hy => by rw [h1 y]; exact e3 y hy⟩
end

set_option maxHeartbeats 8000000 in
set_option maxRecDepth 100000 in
theorem implBurstBound_any (p pw g : Int) {D C N : Int} {q r n c : Nat} (hlay : layB p pw g D C N = true) (hl : LN D C N q r n c) (htot : q * n + r + n * c ≤ 1500) (w : World) :
    Calls Try.prog 38 #[lV p pw g D C N] w fun x w' => ∃ M : Nat, x = .returned (.tuple #[.int .i64 M, .int .i64 0]) ∧ Below w.heap.size w w' ∧ BstN (ordS q r n c) (c / 2) M := by
  have HL := Lib.hid hl
  have HTOT := Lib.hid htot
  have HLAY := Lib.hid hlay
  have HD := Lib.hid hl.hD
  have hn16 := hl.n16
  have hn1 := hl.n1
  have hc64 := hl.c64
  have hnD := hl.nD
  have HLT := Lib.hid (ordS_length q r n c (Nat.le_of_lt hl.rn))
  obtain rfl : N = (n : Int) := hl.hN
  obtain rfl : C = (c : Int) := hl.hC
  have HB := Lib.hid (below1 w (.cells #[.int .i64 p, .int .i64 pw, .int .i64 g, .int .i64 D, .int .i64 (c : Int), .int .i64 (n : Int)] LT))
  have L0 := Lib.hid (LB.new w p pw g D c n)
  clear hl hlay
  refine (callsIn_wide (n := 3)).1 ?_
  refine callsIn_of_wp_marks Try.func38 rfl trivial ?_ rfl
  simp only [Try.ntmps38, List.size_toArray, List.length_cons, List.length_nil, Nat.reduceAdd, Nat.reduceSub, Array.replicate_succ, Array.replicate_zero, List.push_toArray, List.append_toArray, List.nil_append, List.cons_append]
  refine wpIn_wide.2 ?_
  generalize hw1 : w.alloc (.cells #[.int .i64 p, .int .i64 pw, .int .i64 g, .int .i64 D, .int .i64 (c : Int), .int .i64 (n : Int)] LT) = w1 at *
  have k0 := L0.out.c0
  have k1 := L0.out.c1
  have k2 := L0.out.c2
  have k3 := L0.out.c3
  have k4 := L0.out.c4
  have k5 := L0.out.c5
  go_wp2_with fail
  (try rw [hw1])
  clear hw1
  refine (implIsLayout_any p pw g D c n _).mono ?_
  rintro e w2 ⟨rfl, hb2⟩
  have B2 := Lib.hid (HB.out.trans (hb2.mono HB.out.size))
  have L2 := Lib.hid (L0.out.below hb2 L0.out.lt)
  clear hb2 HB L0 k0 k1 k2 k3 k4 k5
  rw [HLAY.out]
  have k0 := L2.out.c0
  have k1 := L2.out.c1
  have k2 := L2.out.c2
  have k3 := L2.out.c3
  have k4 := L2.out.c4
  have k5 := L2.out.c5
  go_wp2_with fail
  refine (total_any p pw g HL.out _).mono ?_
  rintro e w4 ⟨rfl, hb4⟩
  have B4 := Lib.hid (B2.out.trans (hb4.mono B2.out.size))
  have L4 := Lib.hid (L2.out.below hb4 L2.out.lt)
  clear hb4 B2 L2 k0 k1 k2 k3 k4 k5
  obtain ⟨T, hT⟩ : ∃ T, (ordS q r n c).length = T := ⟨_, rfl⟩
  have HT := Lib.hid hT
  rw [hT] at HLT
  have hTb : T ≤ 1500 := by have h1 := HLT.out; have h2 := HTOT.out; have h3 : n * q = q * n := Nat.mul_comm _ _; omega
  have hT1 : 0 < T := by have h1 := HLT.out; have h3 : n * q = q * n := Nat.mul_comm _ _; omega
  have hDT : D + (n : Int) * (c : Int) = (T : Int) := by have h1 := HLT.out; have h2 := HD.out; have h3 : n * q = q * n := Nat.mul_comm _ _; rw [h2, h1, h3]; simp
  have HDT := Lib.hid hDT
  rw [hDT]
  have hmk := fun w => run_make_ints2 w 26 Try.underlying26 0 (T : Int) (Int.le_refl _) (by omega) (by omega)
  simp only [Int.toNat_natCast, Int.toNat_zero] at hmk
  have O5 := Lib.hid ((OwnL.made w4 w4.heap.size (Nat.le_refl _) T (by omega) w4.heap.size rfl).below (below1 _ (.cells #[.slice (some ⟨w4.heap.size, 0, none⟩) 0 T] 26)))
  have s5 : (w4.alloc (.cells (madeCells #[.int .i64 0] T) 2)).heap.size = w4.heap.size + 1 := by simp
  have y5a := Boxed.new (w4.alloc (.cells (madeCells #[.int .i64 0] T) 2)) 26 (.slice (some ⟨w4.heap.size, 0, none⟩) 0 T)
  rw [s5] at y5a
  have Y5 := Lib.hid y5a
  clear y5a
  have b5 := (below1 w4 (.cells (madeCells #[.int .i64 0] T) 2)).trans ((below1 (w4.alloc (.cells (madeCells #[.int .i64 0] T) 2)) (.cells #[.slice (some ⟨w4.heap.size, 0, none⟩) 0 T] 26)).mono (by omega))
  have C5 := Lib.hid b5
  have L5 := Lib.hid (L4.out.below b5 L4.out.lt)
  have s5b : ((w4.alloc (.cells (madeCells #[.int .i64 0] T) 2)).alloc (.cells #[.slice (some ⟨w4.heap.size, 0, none⟩) 0 T] 26)).heap.size = w4.heap.size + 2 := by simp
  obtain ⟨w5, hw5⟩ : ∃ w5, (w4.alloc (.cells (madeCells #[.int .i64 0] T) 2)).alloc (.cells #[.slice (some ⟨w4.heap.size, 0, none⟩) 0 T] 26) = w5 := ⟨_, rfl⟩
  rw [hw5] at O5 Y5 C5 L5 s5b
  have k0 := L5.out.c0
  have k1 := L5.out.c1
  have k2 := L5.out.c2
  have k3 := L5.out.c3
  have k4 := L5.out.c4
  have k5 := L5.out.c5
  clear b5 s5 hT hDT
  go_wp2_with fail
  (try rw [hw5])
  clear hmk hw5
  go_wp2_with fail
  refine ((callsIn_wide (n := 1)).1 (order_in 1 p pw g D c n _)).mono ?_
  rintro e w6 ⟨rfl, rfl⟩
  go_wp2_with fail
  have LN6 := LB.new w5 p pw g D c n
  rw [s5b] at LN6
  have s6 : (w5.alloc (.cells #[.int .i64 p, .int .i64 pw, .int .i64 g, .int .i64 D, .int .i64 (c : Int), .int .i64 (n : Int)] LT)).heap.size = w4.heap.size + 3 := by simp [s5b]
  have b6 := below1 w5 (.cells #[.int .i64 p, .int .i64 pw, .int .i64 g, .int .i64 D, .int .i64 (c : Int), .int .i64 (n : Int)] LT)
  have O6 := O5.out.below b6
  have Y6 := Y5.out.alloc (.cells #[.int .i64 p, .int .i64 pw, .int .i64 g, .int .i64 D, .int .i64 (c : Int), .int .i64 (n : Int)] LT)
  have C6 := C5.out.trans (b6.mono (by omega))
  generalize w5.alloc (.cells #[.int .i64 p, .int .i64 pw, .int .i64 g, .int .i64 D, .int .i64 (c : Int), .int .i64 (n : Int)] LT) = w6 at *
  have HO6 := Lib.hid O6
  have HY6 := Lib.hid Y6
  have HC6 := Lib.hid C6
  clear k0 k1 k2 k3 k4 k5 O5 Y5 C5 L5 b6 O6 Y6 C6
  refine (wpIn_wide (n := 3)).1 ?_
  refine wpIn_rangeFunc_ownF rfl (by omega) (gf := 118) (lb := #[.pointer (some ⟨w4.heap.size + 2, 0, none⟩)]) rfl trivial (enters_of Try.func118 (by kernel_rfl) rfl)
    (order_stops p pw g HL.out 2 (by omega) (w4.heap.size + 2) w6 (by omega) LN6) keepsAt_t (keepsAt_b (by omega)) (Below.refl _ _) (fun _ => rfl)
    (fun pre W => (∃ v, Boxed W (w4.heap.size + 1) 26 v ∧ W.ownsRow w4.heap.size 2 1 v (bkL (pre.map Subtype.val)).length ((bkL (pre.map Subtype.val)).map (Value.int .i64)) ∧ True) ∧ (W.heap[w4.heap.size + 2]? = some (.cells #[.int .i64 p, .int .i64 pw, .int .i64 g, .int .i64 D, .int .i64 (c : Int), .int .i64 (n : Int)] LT (0, 0)) ∧ Below w4.heap.size w4 W))
    (fun _ _ _ => False)
    (OwnFrom.and (Go.Own.from (holdsRow_own w4.heap.size (w4.heap.size + 1) 26 2 1 (fun pre : List (OrdX q r n c) => (bkL (pre.map Subtype.val)).length) (fun pre => (bkL (pre.map Subtype.val)).map (Value.int .i64)) (fun _ _ => True)) _) (OwnFrom.and (Go.Own.from (own_at _ _ rfl) _) (ownFrom_below (Nat.le_refl _) (by omega))))
    (fun _ _ _ _ _ hs _ _ => hs)
    ⟨⟨_, HY6.out, HO6.out.2, trivial⟩, LN6.blk, HC6.out⟩
    ?a1 ?assign ?body ?done ?stop
  case stop =>
    rintro D2 c2 pre W _ _ h _
    exact h.elim
  case assign =>
    intro l x W K hK
    have HK := Lib.hid hK
    clear hK
    gi_wp2
    exact HK.out
  case body =>
    rintro l pre ⟨⟨xb, xe⟩, hxo⟩ W ⟨⟨v, hv, hrow, -⟩, hLBW, hBW⟩ hlt
    have q1 := hv.cell
    have hpl : (bkL (pre.map Subtype.val)).length = pre.length := by rw [bkL_len, List.length_map]
    have HST := Lib.hid (show bkL ((pre ++ [(⟨(xb, xe), hxo⟩ : OrdX q r n c)]).map Subtype.val) = bkL (pre.map Subtype.val) ++ [(xb : Int)] by rw [List.map_append]; exact bkL_snoc _ _)
    rw [HT.out] at hlt
    have hll : (bkL (pre.map Subtype.val)).length ≤ 16777216 := by rw [hpl]; omega
    have hsz : w4.heap.size ≤ W.heap.size := hBW.size
    clear hpl
    obtain ⟨i0, hi, hz0, hz1, hz2⟩ := info_parts info_int
    have HC8 := Lib.hid (show ∀ (j : Nat) (u : Value), [Value.int .i64 (xb : Int)][j]? = some u → (W.alloc (.cells #[.int .i64 (xb : Int)] 2)).cell? ((⟨W.heap.size, 0, none⟩ : Addr).add j) = some u by
      intro j u hj
      match j, hj with
      | 0, hj => simp at hj; subst hj; simp [Addr.add, go_sem])
    have HO8 := Lib.hid (show ∀ u ∈ [Value.int .i64 (xb : Int)], u.oneCell' = true by intro u hu; simp at hu; subst hu; rfl)
    have hb81 : (bkL (pre.map Subtype.val)).length + 1 ≤ maxLen := by unfold maxLen; omega
    have hb82 : ((bkL (pre.map Subtype.val)).length + 1) * 8 ≤ 140737488355328 := by omega
    have hb83 : w4.heap.size ≤ (W.alloc (.cells #[.int .i64 (xb : Int)] 2)).heap.size := by simp; omega
    gi_wp2_with (gi_at_builtin; refine wpListIn_append_own _ rfl _ _ _ rfl w4.heap.size 2 i0 (.int .i64 0) 1 8 Try.underlying26 hi hz0 hz1 hz2 rfl (by decide) v _ _ rfl (hrow.alloc _) ⟨W.heap.size, 0, none⟩ 1 1 [.int .i64 (xb : Int)] rfl rfl HC8.out HO8.out hb81 hb82 hb83 ?_; intro v8 w8 hown8 hg8b hnil8; obtain ⟨g8, c8, curr8, rfl, -, -, -, -, -⟩ := (show OwnL w8 w4.heap.size v8 (bkL (pre.map Subtype.val) ++ [(xb : Int)]) from ⟨(by have := hg8b.size; omega), (by simpa using hown8)⟩).form (by simp); obtain ⟨hv1, hv2, hr2, hk2, hb2⟩ := Boxed.appended hv (by decide) hrow hsz (Nat.le_succ _) hown8 hg8b; have hvc := hv1.cell; have hvf := hv1.frozen)
    have HXE := Lib.hid (show bkL ((pre ++ [(⟨(xb, xe), hxo⟩ : OrdX q r n c)]).map Subtype.val) = bkL (pre.map Subtype.val) ++ [(xb : Int)] from HST.out)
    have hat : (w8.setCell ⟨w4.heap.size + 1, 0, none⟩ (.slice (some ⟨g8, 0, none⟩) ((bkL (pre.map Subtype.val)).length + 1) c8)).heap[w4.heap.size + 2]? = W.heap[w4.heap.size + 2]? :=
      (Below.heap_setCell _ _ _ _ (by show w4.heap.size + 2 ≠ w4.heap.size + 1; omega)).trans ((hg8b.block (w4.heap.size + 2) (by have := (Array.getElem?_eq_some_iff.1 hLBW).1; simp; omega) (not_row_of hLBW (by decide) hrow)).trans (heap_alloc_old W _ (Array.getElem?_eq_some_iff.1 hLBW).1))
    simp only [List.length_append, List.length_singleton] at hk2 hv2 hb2 hr2
    refine ⟨hk2, hat, ⟨_, hv2, ?_, trivial⟩, hat.trans hLBW, hBW.trans hb2⟩
    rw [HXE.out, List.length_append]
    simpa using hr2
  case done =>
    clear LN6 s5b
    rintro D2 ys W hD hys ⟨⟨v, hv, hrow, -⟩, hLBW, hBW⟩ hK
    rw [hys, bkL_len, HT.out] at hrow
    have HKK := Lib.hid hK
    have OR := Lib.hid (show OwnL W w4.heap.size v (bkL (ordS q r n c)) from ⟨hBW.size, by rw [bkL_len, HT.out]; exact hrow⟩)
    obtain ⟨o, ho⟩ : ∃ o, ordS q r n c = o := ⟨_, rfl⟩
    have H16 := Lib.hid (show ∀ y ∈ ordS q r n c, y.1 < 16 from fun y hy => by obtain ⟨y1, y2⟩ := y; have := (ordS_mem.1 hy).1; show y1 < 16; omega)
    rw [ho] at OR HT H16
    have HO := Lib.hid ho
    have HY := Lib.hid hv
    have L7 := Lib.hid (L4.out.below hBW L4.out.lt)
    have B7 := Lib.hid (B4.out.trans (hBW.mono B4.out.size))
    have hW5 : w4.heap.size + 1 < W.heap.size := hv.lt
    have hDs : D2 < W.heap.size := lt_of_heap hK
    have hw4 : w.heap.size ≤ w4.heap.size := B4.out.size
    clear hys hrow hLBW hv hK ho hBW L4 B4
    obtain ⟨gR, cR, curR, rfl, hgR, hgR2, hgR3, -, hoaR⟩ := OR.out.form (by rw [bkL_len, HT.out]; omega)
    rw [bkL_len, HT.out] at HY
    have RR := Lib.hid hoaR.row
    clear hoaR hgR3
    obtain ⟨h, hh⟩ : ∃ h, c / 2 = h := ⟨_, rfl⟩
    have hh64 : h ≤ 32 := by omega
    have HC3 := Lib.hid (show (c : Int) / 2 = (h : Int) by omega)
    have HH := Lib.hid hh
    clear hh
    have hc := HY.out.cell
    have k0 := L7.out.c0
    have k1 := L7.out.c1
    have k2 := L7.out.c2
    have k3 := L7.out.c3
    have k4 := L7.out.c4
    have k5 := L7.out.c5
    go_wp2_with fail
    refine (total_any p pw g HL.out _).mono ?_
    rintro e w8 ⟨rfl, hb8⟩
    rw [HDT.out]
    clear k0 k1 k2 k3 k4 k5 hc
    have hBc : w4.heap.size + 1 < w8.heap.size := by have := hb8.size; omega
    have b9 := hb8.alloc hb8.size (.cells #[.int .i64 0, .int .i64 0, .int .i64 0, .int .i64 0, .int .i64 0, .int .i64 0, .int .i64 0, .int .i64 0, .int .i64 0, .int .i64 0, .int .i64 0, .int .i64 0, .int .i64 0, .int .i64 0, .int .i64 0, .int .i64 0] 130)
    have hc := (b9.cell (p := ⟨w4.heap.size + 1, 0, none⟩) hW5).trans HY.out.cell
    have B9 := Lib.hid b9
    have C9 := Lib.hid (show CntB (w8.alloc (.cells #[.int .i64 0, .int .i64 0, .int .i64 0, .int .i64 0, .int .i64 0, .int .i64 0, .int .i64 0, .int .i64 0, .int .i64 0, .int .i64 0, .int .i64 0, .int .i64 0, .int .i64 0, .int .i64 0, .int .i64 0, .int .i64 0] 130)) w8.heap.size 130 o 0 0 from ⟨_, heap_new _ _, rfl, fun x hx => by
      rw [cwn_self]
      match x, hx with
      | 0, _ | 1, _ | 2, _ | 3, _ | 4, _ | 5, _ | 6, _ | 7, _ | 8, _ | 9, _ | 10, _ | 11, _ | 12, _ | 13, _ | 14, _ | 15, _ => rfl
      | _ + 16, hx => exact absurd hx (by omega)⟩)
    have S9 := Lib.hid (show TwoE o h 0 0 T from by rw [← HT.out]; exact TwoE.start o h)
    have hWX : W.heap.size ≤ w8.heap.size := hb8.size
    obtain ⟨X, hX⟩ : ∃ X, w8.heap.size = X := ⟨_, rfl⟩
    rw [hX] at C9 hWX
    clear b9 hb8
    go_wp2_with fail
    (try rw [hX])
    clear hX hc hBc
    go_loopw [6, 8, 28] (fun bb e t wr => ∃ s y bst : Nat, s ≤ T ∧ t = .int .i64 s ∧ e = .int .i64 y ∧ bb = .int .i64 bst ∧ Hid (TwoE o h s y bst) ∧ Hid (CntB wr X 130 o s y) ∧ Hid (Below W.heap.size W wr)) (fun _ _ t _ => T - (intOf t).toNat)
    case atStart => exact ⟨0, 0, T, by omega, rfl, rfl, rfl, S9, C9, B9⟩
    case round =>
      clear S9 C9 B9
      obtain ⟨s, y, bst, hs, rfl, rfl, rfl, hS, hC, hB⟩ := hrel
      by_cases hsT : s < T
      · have hsI : (s : Int) < (T : Int) := by omega
        go_wp2_with fail
        rename_i wq
        go_loopw [8] (fun e wr => ∃ y : Nat, e = .int .i64 y ∧ Hid (TwoE o h s y bst) ∧ Hid (CntB wr X 130 o s y) ∧ Hid (Below W.heap.size W wr)) (fun e _ => T - (intOf e).toNat)
        case atStart => exact ⟨y, rfl, hS, hC, hB⟩
        case round =>
          clear hS hC hB
          obtain ⟨t, rfl, hS, hC, hB⟩ := hrel
          have htT := hS.out.tl
          rw [HT.out] at htT
          have hst := hS.out.st
          have hbst := hS.out.low
          rw [HT.out] at hbst
          have hc := keep_cell (Drew.below (drew1 wr) wr.heap.size) ((hB.out.cell (p := ⟨w4.heap.size + 1, 0, none⟩) hW5).trans HY.out.cell)
          have k4 := keep_cell (Drew.below (drew1 wr) wr.heap.size) (L7.out.below hB.out L7.out.lt).c4
          have HBd := Lib.hid (hB.out.trans ((Drew.below (drew1 wr) wr.heap.size).mono hB.out.size))
          by_cases hlt : t < T
          · have htI : (t : Int) < (T : Int) := by omega
            have hto : t < o.length := by rw [HT.out]; exact hlt
            obtain ⟨xb, hxb⟩ : ∃ xb, (o[t]).1 = xb := ⟨_, rfl⟩
            have hx16 : xb < 16 := by rw [← hxb]; exact H16.out _ (List.getElem_mem hto)
            have hxI : (xb : Int) < 16 := by omega
            obtain ⟨b2, o2, e2, -, hcs⟩ := (RR.out.below' HBd.out).at' (by rw [bkL_len, HT.out]; omega)
            cases e2
            have r1 := hcs t (by rw [bkL_len]; exact hto)
            rw [Nat.zero_add, bkL_gi hto, hxb] at r1
            have x1 := hC.out.drew.cell hx16
            have xf := hC.out.drew.fz xb
            obtain ⟨cn, hcn⟩ : ∃ cn, cwn o xb s t = cn := ⟨_, rfl⟩
            have hcnh : cn ≤ h := by rw [← hcn]; exact hS.out.fine xb
            rw [hcn] at x1
            have HX := Lib.hid hxb
            have HCN := Lib.hid hcn
            have y5 : -1000000 ≤ (c : Int) / 2 ∧ (c : Int) / 2 ≤ 1000000 := by omega
            clear hcs hxb hcn
            by_cases hch : (cn : Int) < (c : Int) / 2
            · have S1 := Lib.hid (hS.out.far hto (by rw [HX.out, HCN.out]; have := HC3.out; omega))
              have C1 := Lib.hid (show CntB (wr.drew.setCell ⟨X, xb, none⟩ (.int .i64 ((cn : Int) + 1))) X 130 o s (t + 1) from hC.out.drew.set hx16 (fun y hy => by rw [cwn_right hst hto, if_neg (by rw [HX.out]; exact fun e => hy e.symm)]; rfl) (by rw [cwn_right hst hto, if_pos HX.out, HCN.out]; simp))
              have BB1 := Lib.hid (HBd.out.setCell (p := ⟨X, xb, none⟩) hWX (.int .i64 ((cn : Int) + 1)))
              have y1 : -1000000 ≤ (cn : Int) + 1 ∧ (cn : Int) + 1 ≤ 1000000 := by omega
              have y2 : -1000000 ≤ (t : Int) + 1 ∧ (t : Int) + 1 ≤ 1000000 := by omega
              go_wp2_with fail
              have v5 : wrap64 ((c : Int) / 2) = (c : Int) / 2 := (wraps y5).1
              have v6 : IntKind.i64.wrap ((c : Int) / 2) = (c : Int) / 2 := (wraps y5).2
              refine wp_region_noPanic ?_
              refine wp_region_S (S := (fun w' => w'.cell? ⟨w4.heap.size + 1, 0, none⟩ = some (.slice (some ⟨gR, 0, none⟩) T cR) ∧ w'.cell? ⟨gR, t, none⟩ = some (.int .i64 (xb : Int)) ∧ w'.cell? ⟨X, xb, none⟩ = some (.int .i64 (cn : Int)) ∧ w'.cell? ⟨w.heap.size, 4, none⟩ = some (.int .i64 (c : Int)))) 16 rfl (by kernel_rfl) ?_ (fun hHeld => ?_)
              · (try dsimp only); exact ⟨hc, r1, x1, k4⟩
              refine wpAnyH_take (i := 0) (oi := _) (v := ?_) rfl (by kernel_rfl) (by kernel_rfl) (by kernel_rfl) (fun _ _ _ h => h) (Or.inl ⟨by kernel_rfl, ?_⟩) hHeld ?_
              rotate_left
              · intro w0 hSw; (try dsimp only at hSw); go_simp; (try with_reducible rfl)
              (try dsimp only [Act.put, List.setIfInBounds_toArray, List.set_cons_zero, List.set_cons_succ])
              refine wpAnyH_take (i := 1) (oi := _) (v := ?_) rfl (by kernel_rfl) (by kernel_rfl) (by kernel_rfl) (fun _ _ _ h => h) (Or.inl ⟨by kernel_rfl, ?_⟩) hHeld ?_
              rotate_left
              · intro w0 hSw; (try dsimp only at hSw); go_simp; (try with_reducible rfl)
              (try dsimp only [Act.put, List.setIfInBounds_toArray, List.set_cons_zero, List.set_cons_succ])
              refine wpAnyH_take (i := 2) (oi := _) (v := ?_) rfl (by kernel_rfl) (by kernel_rfl) (by kernel_rfl) (fun _ _ _ h => h) (Or.inl ⟨by kernel_rfl, ?_⟩) hHeld ?_
              rotate_left
              · intro w0 hSw; (try dsimp only at hSw); go_simp; (try with_reducible rfl)
              (try dsimp only [Act.put, List.setIfInBounds_toArray, List.set_cons_zero, List.set_cons_succ])
              refine wpAnyH_take (i := 3) (oi := _) (v := .bool true) rfl (by kernel_rfl) (by kernel_rfl) (by kernel_rfl) (fun _ _ _ h => h) (Or.inl ⟨by kernel_rfl, ?_⟩) hHeld ?_
              · intro w0 hSw; (try dsimp only at hSw); go_simp <;> (omega)
              (try dsimp only [Act.put, List.setIfInBounds_toArray, List.set_cons_zero, List.set_cons_succ])
              refine wpAnyH_take (i := 4) (oi := _) (v := ?_) rfl (by kernel_rfl) (by kernel_rfl) (by kernel_rfl) (fun _ _ _ h => h) (Or.inl ⟨by kernel_rfl, ?_⟩) hHeld ?_
              rotate_left
              · intro w0 hSw; (try dsimp only at hSw); go_simp; (try with_reducible rfl)
              (try dsimp only [Act.put, List.setIfInBounds_toArray, List.set_cons_zero, List.set_cons_succ])
              refine wpAnyH_take (i := 5) (oi := _) (v := ?_) rfl (by kernel_rfl) (by kernel_rfl) (by kernel_rfl) (fun _ _ _ h => h) (Or.inl ⟨by kernel_rfl, ?_⟩) hHeld ?_
              rotate_left
              · intro w0 hSw; (try dsimp only at hSw); go_simp; (try with_reducible rfl)
              (try dsimp only [Act.put, List.setIfInBounds_toArray, List.set_cons_zero, List.set_cons_succ])
              refine wpAnyH_take (i := 6) (oi := _) (v := ?_) rfl (by kernel_rfl) (by kernel_rfl) (by kernel_rfl) (fun _ _ _ h => h) (Or.inl ⟨by kernel_rfl, ?_⟩) hHeld ?_
              rotate_left
              · intro w0 hSw; (try dsimp only at hSw); go_simp; (try with_reducible rfl)
              (try dsimp only [Act.put, List.setIfInBounds_toArray, List.set_cons_zero, List.set_cons_succ])
              refine wpAnyH_take (i := 7) (oi := _) (v := ?_) rfl (by kernel_rfl) (by kernel_rfl) (by kernel_rfl) (fun _ _ _ h => h) (Or.inl ⟨by kernel_rfl, ?_⟩) hHeld ?_
              rotate_left
              · intro w0 hSw; (try dsimp only at hSw); go_simp; (try with_reducible rfl)
              (try dsimp only [Act.put, List.setIfInBounds_toArray, List.set_cons_zero, List.set_cons_succ])
              refine wpAnyH_take (i := 8) (oi := _) (v := ?_) rfl (by kernel_rfl) (by kernel_rfl) (by kernel_rfl) (fun _ _ _ h => h) (Or.inl ⟨by kernel_rfl, ?_⟩) hHeld ?_
              rotate_left
              · intro w0 hSw; (try dsimp only at hSw); go_simp; (try with_reducible rfl)
              (try dsimp only [Act.put, List.setIfInBounds_toArray, List.set_cons_zero, List.set_cons_succ])
              refine wpAnyH_take (i := 9) (oi := _) (v := ?_) rfl (by kernel_rfl) (by kernel_rfl) (by kernel_rfl) (fun _ _ _ h => h) (Or.inl ⟨by kernel_rfl, ?_⟩) hHeld ?_
              rotate_left
              · intro w0 hSw; (try dsimp only at hSw); go_simp; (try with_reducible rfl)
              (try dsimp only [Act.put, List.setIfInBounds_toArray, List.set_cons_zero, List.set_cons_succ])
              refine wpAnyH_take (i := 10) (oi := _) (v := ?_) rfl (by kernel_rfl) (by kernel_rfl) (by kernel_rfl) (fun _ _ _ h => h) (Or.inl ⟨by kernel_rfl, ?_⟩) hHeld ?_
              rotate_left
              · intro w0 hSw; (try dsimp only at hSw); go_simp; (try with_reducible rfl)
              (try dsimp only [Act.put, List.setIfInBounds_toArray, List.set_cons_zero, List.set_cons_succ])
              refine wpAnyH_take (i := 11) (oi := _) (v := ?_) rfl (by kernel_rfl) (by kernel_rfl) (by kernel_rfl) (fun _ _ _ h => h) (Or.inl ⟨by kernel_rfl, ?_⟩) hHeld ?_
              rotate_left
              · intro w0 hSw; (try dsimp only at hSw); go_simp; (try with_reducible rfl)
              (try dsimp only [Act.put, List.setIfInBounds_toArray, List.set_cons_zero, List.set_cons_succ])
              refine wpAnyH_take (i := 12) (oi := _) (v := ?_) rfl (by kernel_rfl) (by kernel_rfl) (by kernel_rfl) (fun _ _ _ h => h) (Or.inl ⟨by kernel_rfl, ?_⟩) hHeld ?_
              rotate_left
              · intro w0 hSw; (try dsimp only at hSw); go_simp; (try with_reducible rfl)
              (try dsimp only [Act.put, List.setIfInBounds_toArray, List.set_cons_zero, List.set_cons_succ])
              refine wpAnyH_take (i := 13) (oi := _) (v := ?_) rfl (by kernel_rfl) (by kernel_rfl) (by kernel_rfl) (fun _ _ _ h => h) (Or.inl ⟨by kernel_rfl, ?_⟩) hHeld ?_
              rotate_left
              · intro w0 hSw; (try dsimp only at hSw); go_simp; (try with_reducible rfl)
              (try dsimp only [Act.put, List.setIfInBounds_toArray, List.set_cons_zero, List.set_cons_succ])
              refine wpAnyH_take (i := 14) (oi := _) (v := .bool true) rfl (by kernel_rfl) (by kernel_rfl) (by kernel_rfl) (fun _ _ _ h => h) (Or.inl ⟨by kernel_rfl, ?_⟩) hHeld ?_
              · intro w0 hSw; (try dsimp only at hSw); go_simp <;> (omega)
              (try dsimp only [Act.put, List.setIfInBounds_toArray, List.set_cons_zero, List.set_cons_succ])
              refine wpAnyH_take (i := 15) (oi := _) (v := ?_) rfl (by kernel_rfl) (by kernel_rfl) (by kernel_rfl) (fun _ _ _ h => h) (Or.inl ⟨by kernel_rfl, ?_⟩) hHeld ?_
              rotate_left
              · intro w0 hSw; (try dsimp only at hSw); go_simp; (try with_reducible rfl)
              (try dsimp only [Act.put, List.setIfInBounds_toArray, List.set_cons_zero, List.set_cons_succ])
              refine wpAnyH_done (by kernel_rfl) ?_ _
              refine NoPanic.normal ?_
              go_simp
              have v1 : wrap64 ((cn : Int) + 1) = (cn : Int) + 1 := (wraps y1).1
              have v2 : IntKind.i64.wrap ((cn : Int) + 1) = (cn : Int) + 1 := (wraps y1).2
              have v3 : wrap64 ((t : Int) + 1) = (t : Int) + 1 := (wraps y2).1
              have v4 : IntKind.i64.wrap ((t : Int) + 1) = (t : Int) + 1 := (wraps y2).2
              clear y1 y2 y5
              go_wp2_with fail
              clear v1 v2 v3 v4 v5 v6 hHeld
              go_roundw
              case rel => exact ⟨t + 1, by go_num, S1, C1, BB1⟩
              case measure => simp [intOf]; omega
            · have hne : (t : Int) ≠ (T : Int) := by omega
              have hxh : ¬ cwn o (o[t]).1 s t < h := by rw [HX.out, HCN.out]; have := HC3.out; omega
              go_wp2_with fail
              refine wp_region_noPanic ?_
              refine wp_region_S (S := (fun w' => w'.cell? ⟨w4.heap.size + 1, 0, none⟩ = some (.slice (some ⟨gR, 0, none⟩) T cR) ∧ w'.cell? ⟨gR, t, none⟩ = some (.int .i64 (xb : Int)) ∧ w'.cell? ⟨X, xb, none⟩ = some (.int .i64 (cn : Int)) ∧ w'.cell? ⟨w.heap.size, 4, none⟩ = some (.int .i64 (c : Int)))) 16 rfl (by kernel_rfl) ?_ (fun hHeld => ?_)
              · (try dsimp only); exact ⟨hc, r1, x1, k4⟩
              refine wpAnyH_take (i := 0) (oi := _) (v := ?_) rfl (by kernel_rfl) (by kernel_rfl) (by kernel_rfl) (fun _ _ _ h => h) (Or.inl ⟨by kernel_rfl, ?_⟩) hHeld ?_
              rotate_left
              · intro w0 hSw; (try dsimp only at hSw); go_simp; (try with_reducible rfl)
              (try dsimp only [Act.put, List.setIfInBounds_toArray, List.set_cons_zero, List.set_cons_succ])
              refine wpAnyH_take (i := 1) (oi := _) (v := ?_) rfl (by kernel_rfl) (by kernel_rfl) (by kernel_rfl) (fun _ _ _ h => h) (Or.inl ⟨by kernel_rfl, ?_⟩) hHeld ?_
              rotate_left
              · intro w0 hSw; (try dsimp only at hSw); go_simp; (try with_reducible rfl)
              (try dsimp only [Act.put, List.setIfInBounds_toArray, List.set_cons_zero, List.set_cons_succ])
              refine wpAnyH_take (i := 2) (oi := _) (v := ?_) rfl (by kernel_rfl) (by kernel_rfl) (by kernel_rfl) (fun _ _ _ h => h) (Or.inl ⟨by kernel_rfl, ?_⟩) hHeld ?_
              rotate_left
              · intro w0 hSw; (try dsimp only at hSw); go_simp; (try with_reducible rfl)
              (try dsimp only [Act.put, List.setIfInBounds_toArray, List.set_cons_zero, List.set_cons_succ])
              refine wpAnyH_take (i := 3) (oi := _) (v := .bool true) rfl (by kernel_rfl) (by kernel_rfl) (by kernel_rfl) (fun _ _ _ h => h) (Or.inl ⟨by kernel_rfl, ?_⟩) hHeld ?_
              · intro w0 hSw; (try dsimp only at hSw); go_simp <;> (omega)
              (try dsimp only [Act.put, List.setIfInBounds_toArray, List.set_cons_zero, List.set_cons_succ])
              refine wpAnyH_take (i := 4) (oi := _) (v := ?_) rfl (by kernel_rfl) (by kernel_rfl) (by kernel_rfl) (fun _ _ _ h => h) (Or.inl ⟨by kernel_rfl, ?_⟩) hHeld ?_
              rotate_left
              · intro w0 hSw; (try dsimp only at hSw); go_simp; (try with_reducible rfl)
              (try dsimp only [Act.put, List.setIfInBounds_toArray, List.set_cons_zero, List.set_cons_succ])
              refine wpAnyH_take (i := 5) (oi := _) (v := ?_) rfl (by kernel_rfl) (by kernel_rfl) (by kernel_rfl) (fun _ _ _ h => h) (Or.inl ⟨by kernel_rfl, ?_⟩) hHeld ?_
              rotate_left
              · intro w0 hSw; (try dsimp only at hSw); go_simp; (try with_reducible rfl)
              (try dsimp only [Act.put, List.setIfInBounds_toArray, List.set_cons_zero, List.set_cons_succ])
              refine wpAnyH_take (i := 6) (oi := _) (v := ?_) rfl (by kernel_rfl) (by kernel_rfl) (by kernel_rfl) (fun _ _ _ h => h) (Or.inl ⟨by kernel_rfl, ?_⟩) hHeld ?_
              rotate_left
              · intro w0 hSw; (try dsimp only at hSw); go_simp; (try with_reducible rfl)
              (try dsimp only [Act.put, List.setIfInBounds_toArray, List.set_cons_zero, List.set_cons_succ])
              refine wpAnyH_take (i := 7) (oi := _) (v := ?_) rfl (by kernel_rfl) (by kernel_rfl) (by kernel_rfl) (fun _ _ _ h => h) (Or.inl ⟨by kernel_rfl, ?_⟩) hHeld ?_
              rotate_left
              · intro w0 hSw; (try dsimp only at hSw); go_simp; (try with_reducible rfl)
              (try dsimp only [Act.put, List.setIfInBounds_toArray, List.set_cons_zero, List.set_cons_succ])
              refine wpAnyH_take (i := 8) (oi := _) (v := ?_) rfl (by kernel_rfl) (by kernel_rfl) (by kernel_rfl) (fun _ _ _ h => h) (Or.inl ⟨by kernel_rfl, ?_⟩) hHeld ?_
              rotate_left
              · intro w0 hSw; (try dsimp only at hSw); go_simp; (try with_reducible rfl)
              (try dsimp only [Act.put, List.setIfInBounds_toArray, List.set_cons_zero, List.set_cons_succ])
              refine wpAnyH_take (i := 9) (oi := _) (v := ?_) rfl (by kernel_rfl) (by kernel_rfl) (by kernel_rfl) (fun _ _ _ h => h) (Or.inl ⟨by kernel_rfl, ?_⟩) hHeld ?_
              rotate_left
              · intro w0 hSw; (try dsimp only at hSw); go_simp; (try with_reducible rfl)
              (try dsimp only [Act.put, List.setIfInBounds_toArray, List.set_cons_zero, List.set_cons_succ])
              refine wpAnyH_take (i := 10) (oi := _) (v := ?_) rfl (by kernel_rfl) (by kernel_rfl) (by kernel_rfl) (fun _ _ _ h => h) (Or.inl ⟨by kernel_rfl, ?_⟩) hHeld ?_
              rotate_left
              · intro w0 hSw; (try dsimp only at hSw); go_simp; (try with_reducible rfl)
              (try dsimp only [Act.put, List.setIfInBounds_toArray, List.set_cons_zero, List.set_cons_succ])
              refine wpAnyH_take (i := 11) (oi := _) (v := ?_) rfl (by kernel_rfl) (by kernel_rfl) (by kernel_rfl) (fun _ _ _ h => h) (Or.inl ⟨by kernel_rfl, ?_⟩) hHeld ?_
              rotate_left
              · intro w0 hSw; (try dsimp only at hSw); go_simp; (try with_reducible rfl)
              (try dsimp only [Act.put, List.setIfInBounds_toArray, List.set_cons_zero, List.set_cons_succ])
              refine wpAnyH_take (i := 12) (oi := _) (v := ?_) rfl (by kernel_rfl) (by kernel_rfl) (by kernel_rfl) (fun _ _ _ h => h) (Or.inl ⟨by kernel_rfl, ?_⟩) hHeld ?_
              rotate_left
              · intro w0 hSw; (try dsimp only at hSw); go_simp; (try with_reducible rfl)
              (try dsimp only [Act.put, List.setIfInBounds_toArray, List.set_cons_zero, List.set_cons_succ])
              have v5 : wrap64 ((c : Int) / 2) = (c : Int) / 2 := (wraps y5).1
              have v6 : IntKind.i64.wrap ((c : Int) / 2) = (c : Int) / 2 := (wraps y5).2
              refine wpAnyH_take (i := 13) (oi := _) (v := ?_) rfl (by kernel_rfl) (by kernel_rfl) (by kernel_rfl) (fun _ _ _ h => h) (Or.inl ⟨by kernel_rfl, ?_⟩) hHeld ?_
              rotate_left
              · intro w0 hSw; (try dsimp only at hSw); go_simp; (try with_reducible rfl)
              (try dsimp only [Act.put, List.setIfInBounds_toArray, List.set_cons_zero, List.set_cons_succ])
              refine wpAnyH_take (i := 14) (oi := _) (v := .bool false) rfl (by kernel_rfl) (by kernel_rfl) (by kernel_rfl) (fun _ _ _ h => h) (Or.inl ⟨by kernel_rfl, ?_⟩) hHeld ?_
              · intro w0 hSw; (try dsimp only at hSw); go_simp <;> (omega)
              (try dsimp only [Act.put, List.setIfInBounds_toArray, List.set_cons_zero, List.set_cons_succ])
              refine wpAnyH_take (i := 15) (oi := _) (v := ?_) rfl (by kernel_rfl) (by kernel_rfl) (by kernel_rfl) (fun _ _ _ h => h) (Or.inl ⟨by kernel_rfl, ?_⟩) hHeld ?_
              rotate_left
              · intro w0 hSw; (try dsimp only at hSw); go_simp; (try with_reducible rfl)
              (try dsimp only [Act.put, List.setIfInBounds_toArray, List.set_cons_zero, List.set_cons_succ])
              refine wpAnyH_done (by kernel_rfl) ?_ _
              refine NoPanic.normal ?_
              go_simp
              clear v5 v6
              have hc2 := hHeld.1
              have hq1 : ((t : Int) == (T : Int)) = false := by simp; omega
              have hsI2 : (t : Int) - (s : Int) = ((t - s : Nat) : Int) := by omega
              have y1 : -1000000 ≤ (t : Int) - (s : Int) ∧ (t : Int) - (s : Int) ≤ 1000000 := by omega
              have y2 : -1000000 ≤ (t : Int) + 1 ∧ (t : Int) + 1 ≤ 1000000 := by omega
              have y3 : -1000000 ≤ (s : Int) + 1 ∧ (s : Int) + 1 ≤ 1000000 := by omega
              by_cases hts : t = s
              · have hq2 : ((t : Int) == (s : Int)) = true := by simp [hts]
                have HTS := Lib.hid hts
                have S1 := Lib.hid (hS.out.next hto hxh (t + 1) (.inr ⟨hts, rfl⟩) (by omega))
                have C1 := Lib.hid (show CntB wr.drew X 130 o (s + 1) (t + 1) from hC.out.drew.same (fun y => by rw [hts, cwn_self, cwn_self]))
                have hmn : (if (t : Int) - (s : Int) < (bst : Int) then (t : Int) - (s : Int) else (bst : Int)) = ((min bst (t - s) : Nat) : Int) := by split <;> omega
                have HMN := Lib.hid hmn
                clear hmn
                have v1 : wrap64 ((t : Int) - (s : Int)) = (t : Int) - (s : Int) := (wraps y1).1
                have v2 : IntKind.i64.wrap ((t : Int) - (s : Int)) = (t : Int) - (s : Int) := (wraps y1).2
                have v3 : wrap64 ((t : Int) + 1) = (t : Int) + 1 := (wraps y2).1
                have v4 : IntKind.i64.wrap ((t : Int) + 1) = (t : Int) + 1 := (wraps y2).2
                have v5 : wrap64 ((s : Int) + 1) = (s : Int) + 1 := (wraps y3).1
                have v6 : IntKind.i64.wrap ((s : Int) + 1) = (s : Int) + 1 := (wraps y3).2
                clear y1 y2 y3 y5 hts hsI2
                go_wp2_with fail
                clear v1 v2 v3 v4 v5 v6
                go_roundw
                case rel => exact ⟨s + 1, t + 1, min bst (t - s), by omega, by go_num, by go_num, by rw [HMN.out], S1, C1, HBd⟩
                case measure => simp [intOf]; omega
              · have hst2 : s < t := by omega
                have hq2 : ((t : Int) == (s : Int)) = false := by simp; omega
                have hso : s < o.length := by rw [HT.out]; exact hsT
                obtain ⟨xs, hxs⟩ : ∃ xs, (o[s]).1 = xs := ⟨_, rfl⟩
                have hs16 : xs < 16 := by rw [← hxs]; exact H16.out _ (List.getElem_mem hso)
                have hsI16 : (xs : Int) < 16 := by omega
                obtain ⟨b3, o3, e3, -, hcs3⟩ := (RR.out.below' HBd.out).at' (by rw [bkL_len, HT.out]; omega)
                cases e3
                have r3 := hcs3 s (by rw [bkL_len]; exact hso)
                rw [Nat.zero_add, bkL_gi hso, hxs] at r3
                have x3 := hC.out.drew.cell hs16
                have xf3 := hC.out.drew.fz xs
                obtain ⟨ds, hds⟩ : ∃ ds, cwn o xs s t = ds := ⟨_, rfl⟩
                have hdsh : ds ≤ h := by rw [← hds]; exact hS.out.fine xs
                have hleft := cwn_left (o := o) (x := xs) hst2 (Nat.le_of_lt hto)
                rw [if_pos hxs, hds] at hleft
                rw [hds] at x3
                have S1 := Lib.hid (hS.out.next hto hxh t (.inl rfl) hst2)
                have C1 := Lib.hid (show CntB (wr.drew.setCell ⟨X, xs, none⟩ (.int .i64 ((ds : Int) - 1))) X 130 o (s + 1) t from hC.out.drew.set hs16 (fun y hy => by have := cwn_left (o := o) (x := y) hst2 (Nat.le_of_lt hto); rw [if_neg (by rw [hxs]; exact fun e => hy e.symm)] at this; exact this.symm) (by omega))
                have BB1 := Lib.hid (HBd.out.setCell (p := ⟨X, xs, none⟩) hWX (.int .i64 ((ds : Int) - 1)))
                have y4 : -1000000 ≤ (ds : Int) - 1 ∧ (ds : Int) - 1 ≤ 1000000 := by omega
                have hmn : (if (t : Int) - (s : Int) < (bst : Int) then (t : Int) - (s : Int) else (bst : Int)) = ((min bst (t - s) : Nat) : Int) := by split <;> omega
                have HMN := Lib.hid hmn
                clear hmn hleft hds hxs hcs3 x1 xf r1
                have v1 : wrap64 ((t : Int) - (s : Int)) = (t : Int) - (s : Int) := (wraps y1).1
                have v2 : IntKind.i64.wrap ((t : Int) - (s : Int)) = (t : Int) - (s : Int) := (wraps y1).2
                have v3 : wrap64 ((ds : Int) - 1) = (ds : Int) - 1 := (wraps y4).1
                have v4 : IntKind.i64.wrap ((ds : Int) - 1) = (ds : Int) - 1 := (wraps y4).2
                have v5 : wrap64 ((s : Int) + 1) = (s : Int) + 1 := (wraps y3).1
                have v6 : IntKind.i64.wrap ((s : Int) + 1) = (s : Int) + 1 := (wraps y3).2
                clear y1 y2 y3 y4 y5 hts hsI2
                go_wp2_with fail
                clear v1 v2 v3 v4 v5 v6
                go_roundw
                case rel => exact ⟨s + 1, t, min bst (t - s), by omega, by go_num, rfl, by rw [HMN.out], S1, C1, BB1⟩
                case measure => simp [intOf]; omega
          · have htI : ¬ (t : Int) < (T : Int) := by omega
            have htT2 : t = T := by omega
            have hq1 : ((t : Int) == (T : Int)) = true := by simp [htT2]
            have HFIN := Lib.hid (show BstN o h bst from (show TwoE o h s o.length bst by rw [HT.out, ← htT2]; exact hS.out).last)
            have HKD := Lib.hid ((HBd.out.block D2 hDs).trans HKK.out)
            clear htT2
            go_wp2_with fail
            refine wp_region_noPanic ?_
            refine wp_region_S (S := (fun w' => w'.cell? ⟨w4.heap.size + 1, 0, none⟩ = some (.slice (some ⟨gR, 0, none⟩) T cR))) 16 rfl (by kernel_rfl) ?_ (fun hHeld => ?_)
            · (try dsimp only); exact hc
            refine wpAnyH_take (i := 0) (oi := _) (v := ?_) rfl (by kernel_rfl) (by kernel_rfl) (by kernel_rfl) (fun _ _ _ h => h) (Or.inl ⟨by kernel_rfl, ?_⟩) hHeld ?_
            rotate_left
            · intro w0 hSw; (try dsimp only at hSw); go_simp; (try with_reducible rfl)
            (try dsimp only [Act.put, List.setIfInBounds_toArray, List.set_cons_zero, List.set_cons_succ])
            refine wpAnyH_take (i := 1) (oi := _) (v := ?_) rfl (by kernel_rfl) (by kernel_rfl) (by kernel_rfl) (fun _ _ _ h => h) (Or.inl ⟨by kernel_rfl, ?_⟩) hHeld ?_
            rotate_left
            · intro w0 hSw; (try dsimp only at hSw); go_simp; (try with_reducible rfl)
            (try dsimp only [Act.put, List.setIfInBounds_toArray, List.set_cons_zero, List.set_cons_succ])
            refine wpAnyH_take (i := 2) (oi := _) (v := ?_) rfl (by kernel_rfl) (by kernel_rfl) (by kernel_rfl) (fun _ _ _ h => h) (Or.inl ⟨by kernel_rfl, ?_⟩) hHeld ?_
            rotate_left
            · intro w0 hSw; (try dsimp only at hSw); go_simp; (try with_reducible rfl)
            (try dsimp only [Act.put, List.setIfInBounds_toArray, List.set_cons_zero, List.set_cons_succ])
            refine wpAnyH_take (i := 3) (oi := _) (v := .bool false) rfl (by kernel_rfl) (by kernel_rfl) (by kernel_rfl) (fun _ _ _ h => h) (Or.inl ⟨by kernel_rfl, ?_⟩) hHeld ?_
            · intro w0 hSw; (try dsimp only at hSw); go_simp <;> (omega)
            (try dsimp only [Act.put, List.setIfInBounds_toArray, List.set_cons_zero, List.set_cons_succ])
            refine wpAnyH_take (i := 4) (oi := _) (v := ?_) rfl (by kernel_rfl) (by kernel_rfl) (by kernel_rfl) (fun _ _ _ h => h) (Or.inl ⟨by kernel_rfl, ?_⟩) hHeld ?_
            rotate_left
            · intro w0 hSw; (try dsimp only at hSw); go_simp; (try with_reducible rfl)
            (try dsimp only [Act.put, List.setIfInBounds_toArray, List.set_cons_zero, List.set_cons_succ])
            refine wpAnyH_take (i := 5) (oi := _) (v := undef) rfl (by kernel_rfl) (by kernel_rfl) (by kernel_rfl) (fun _ _ _ h => h) (Or.inr ⟨by kernel_rfl, rfl⟩) hHeld ?_
            (try dsimp only [Act.put, List.setIfInBounds_toArray, List.set_cons_zero, List.set_cons_succ])
            refine wpAnyH_take (i := 6) (oi := _) (v := undef) rfl (by kernel_rfl) (by kernel_rfl) (by kernel_rfl) (fun _ _ _ h => h) (Or.inr ⟨by kernel_rfl, rfl⟩) hHeld ?_
            (try dsimp only [Act.put, List.setIfInBounds_toArray, List.set_cons_zero, List.set_cons_succ])
            refine wpAnyH_take (i := 7) (oi := _) (v := undef) rfl (by kernel_rfl) (by kernel_rfl) (by kernel_rfl) (fun _ _ _ h => h) (Or.inr ⟨by kernel_rfl, rfl⟩) hHeld ?_
            (try dsimp only [Act.put, List.setIfInBounds_toArray, List.set_cons_zero, List.set_cons_succ])
            refine wpAnyH_take (i := 8) (oi := _) (v := undef) rfl (by kernel_rfl) (by kernel_rfl) (by kernel_rfl) (fun _ _ _ h => h) (Or.inr ⟨by kernel_rfl, rfl⟩) hHeld ?_
            (try dsimp only [Act.put, List.setIfInBounds_toArray, List.set_cons_zero, List.set_cons_succ])
            refine wpAnyH_take (i := 9) (oi := _) (v := undef) rfl (by kernel_rfl) (by kernel_rfl) (by kernel_rfl) (fun _ _ _ h => h) (Or.inr ⟨by kernel_rfl, rfl⟩) hHeld ?_
            (try dsimp only [Act.put, List.setIfInBounds_toArray, List.set_cons_zero, List.set_cons_succ])
            refine wpAnyH_take (i := 10) (oi := _) (v := undef) rfl (by kernel_rfl) (by kernel_rfl) (by kernel_rfl) (fun _ _ _ h => h) (Or.inr ⟨by kernel_rfl, rfl⟩) hHeld ?_
            (try dsimp only [Act.put, List.setIfInBounds_toArray, List.set_cons_zero, List.set_cons_succ])
            refine wpAnyH_take (i := 11) (oi := _) (v := undef) rfl (by kernel_rfl) (by kernel_rfl) (by kernel_rfl) (fun _ _ _ h => h) (Or.inr ⟨by kernel_rfl, rfl⟩) hHeld ?_
            (try dsimp only [Act.put, List.setIfInBounds_toArray, List.set_cons_zero, List.set_cons_succ])
            refine wpAnyH_take (i := 12) (oi := _) (v := undef) rfl (by kernel_rfl) (by kernel_rfl) (by kernel_rfl) (fun _ _ _ h => h) (Or.inr ⟨by kernel_rfl, rfl⟩) hHeld ?_
            (try dsimp only [Act.put, List.setIfInBounds_toArray, List.set_cons_zero, List.set_cons_succ])
            refine wpAnyH_take (i := 13) (oi := _) (v := undef) rfl (by kernel_rfl) (by kernel_rfl) (by kernel_rfl) (fun _ _ _ h => h) (Or.inr ⟨by kernel_rfl, rfl⟩) hHeld ?_
            (try dsimp only [Act.put, List.setIfInBounds_toArray, List.set_cons_zero, List.set_cons_succ])
            refine wpAnyH_take (i := 14) (oi := _) (v := undef) rfl (by kernel_rfl) (by kernel_rfl) (by kernel_rfl) (fun _ _ _ h => h) (Or.inr ⟨by kernel_rfl, rfl⟩) hHeld ?_
            (try dsimp only [Act.put, List.setIfInBounds_toArray, List.set_cons_zero, List.set_cons_succ])
            refine wpAnyH_take (i := 15) (oi := _) (v := ?_) rfl (by kernel_rfl) (by kernel_rfl) (by kernel_rfl) (fun _ _ _ h => h) (Or.inl ⟨by kernel_rfl, ?_⟩) hHeld ?_
            rotate_left
            · intro w0 hSw; (try dsimp only at hSw); go_simp; (try with_reducible rfl)
            (try dsimp only [Act.put, List.setIfInBounds_toArray, List.set_cons_zero, List.set_cons_succ])
            refine wpAnyH_done (by kernel_rfl) ?_ _
            refine NoPanic.normal ?_
            go_simp
            go_wp2_with fail
            refine marks_retD rfl HKD.out (results_tmp2 rfl _ _ _) ?_
            rw [HO.out, HH.out]
            exact ⟨bst, rfl, (B7.out.trans (HBd.out.mono B7.out.size)).trans (belowK_b (w := w6) (by omega) wr.drew D2 _ _ hD HKD.out rfl rfl), HFIN.out⟩
      · have hsI : ¬ (s : Int) < (T : Int) := by omega
        have htl := hS.out.tl
        rw [HT.out] at htl
        have hst := hS.out.st
        have HFIN := Lib.hid (show BstN o h bst from (show TwoE o h s o.length bst by rw [HT.out, show T = y by omega]; exact hS.out).last)
        have HKD := Lib.hid ((hB.out.block D2 hDs).trans HKK.out)
        go_wp2_with fail
        refine marks_retD rfl HKD.out (results_tmp2 rfl _ _ _) ?_
        rw [HO.out, HH.out]
        exact ⟨bst, rfl, (B7.out.trans (hB.out.mono B7.out.size)).trans (belowK_b (w := w6) (by omega) wr D2 _ _ hD HKD.out rfl rfl), HFIN.out⟩
end Go.Proofs.Ytfhkkpfiflgofaa
