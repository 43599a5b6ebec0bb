/-
  The implementation's DecodeStream.
-/
import Derived.Test.YtfhkkpfiflgofaaDecQ
import Derived.Test.YtfhkkpfiflgofaaSplI
namespace Go.Proofs.Ytfhkkpfiflgofaa
open Go.RowKit
set_option linter.unusedVariables false

set_option maxHeartbeats 8000000 in
set_option maxRecDepth 100000 in
theorem decode_any (p pw g : Int) {D C N : Int} {q r n c : Nat} (hl : LN D C N q r n c) (htot : q * n + r + n * c ≤ 1500) (hval : ∀ b, b < n → validC p pw g ((shN q r n b + c : Nat) : Int) (c : Int) = true) (w : World) {a : Option Addr} {m cap : Nat} {s : List Int} (hr : RowAt w a m s) (hm : m = (ordS q r n c).length) (hs : allB (ffOf p pw g) s = true)
    {a' : Option Addr} {n' cap' : Nat} {E : List Int} (hr' : RowAt w a' n' E) (hris : RisTo 0 (((ordS q r n c).length : Int) - 1) E n') :
    Calls Try.prog 101 #[lV p pw g D C N, .slice a m cap, .slice a' n' cap'] w fun e w' => ∃ v, e = .returned (.tuple #[v, .int .i64 (ddN p pw g q r n c s E), .bool (dsF p pw g q r n c s E)]) ∧ Below w.heap.size w w' ∧ OwnL w' w.heap.size v (ddL p pw g q r n c s E) := by
  have HL := Lib.hid hl
  have HR := Lib.hid hr
  have HR' := Lib.hid hr'
  have HV := Lib.hid hval
  have HS := Lib.hid hs
  have HM := Lib.hid hm
  have HRIS := Lib.hid hris
  have hlE := Lib.hid hr'.len
  have hsmE := hr'.small
  have hq := hl.qle
  have hq1 := hl.q1
  have hn1 := hl.n1
  have hn16 := hl.n16
  have hrn := hl.rn
  have hc64 := hl.c64
  have hc1 := hl.c1
  have HTOT := Lib.hid htot
  have HSH := Lib.hid (shN_le q r n)
  have HTN := Lib.hid (tot_num hl)
  have hM15 := ord_small hl htot
  have HHD := Lib.hid hl.hD
  have hD15 : 0 ≤ D ∧ D ≤ 1500 := by have := hl.hD; have := hl.D15; omega
  obtain rfl : N = (n : Int) := hl.hN
  obtain rfl : C = (c : Int) := hl.hC
  have L0 := Lib.hid (LB.new w p pw g D c n)
  have B0 := Lib.hid (below1 w (.cells #[.int .i64 p, .int .i64 pw, .int .i64 g, .int .i64 D, .int .i64 (c : Int), .int .i64 (n : Int)] LT))
  obtain ⟨T, hT⟩ : ∃ T, (ordS q r n c).length = T := ⟨_, rfl⟩
  have HT := Lib.hid hT
  rw [hT] at HTN hM15 HRIS
  have HTO := Lib.hid (fun W => total_any p pw g HL.out W)
  rw [HTN.out] at HTO
  clear hl hr hr' hval hs htot hris hm hT
  go_enter Try.func101, Try.ntmps101
  generalize hw1 : w.alloc (.cells #[.int .i64 p, .int .i64 pw, .int .i64 g, .int .i64 D, .int .i64 (c : Int), .int .i64 (n : Int)] LT) = w1 at *
  have k0 := L0.out.c0
  have k1 := L0.out.c1
  have k2 := L0.out.c2
  have k3 := L0.out.c3
  have k4 := L0.out.c4
  have k5 := L0.out.c5
  go_wp2_with fail
  (try rw [hw1])
  clear hw1
  go_wp2_with fail
  refine (HTO.out _).mono ?_
  rintro e w2 ⟨rfl, hb2⟩
  have B2 := Lib.hid (B0.out.trans (hb2.mono B0.out.size))
  have L2 := Lib.hid (L0.out.below hb2 L0.out.lt)
  clear hb2 k0 k1 k2 k3 k4 k5 L0
  have hmk := fun w => run_make_ints w 26 Try.underlying26 (T : Int) (by omega) (by omega)
  simp only [Int.toNat_natCast] at hmk
  have O3 := Lib.hid (show OwnL (w2.alloc (.cells (madeCells #[.int .i64 0] T) 2)) w2.heap.size (.slice (some ⟨w2.heap.size, 0, none⟩) T T) (lostL T (E.take 0)) by
    rw [List.take_zero, lostL_nil]; exact OwnL.zeros w2 w2.heap.size (Nat.le_refl _) T (by omega))
  have B3 := Lib.hid (below1 w2 (.cells (madeCells #[.int .i64 0] T) 2))
  go_wp2_with fail
  clear hmk
  go_loopw [31] (fun t wr => ∃ k : Nat, k ≤ n' ∧ t = .int .i64 k ∧ Hid (OwnL wr w2.heap.size (.slice (some ⟨w2.heap.size, 0, none⟩) T T) (lostL T (E.take k))) ∧ Hid (Below w2.heap.size w2 wr)) (fun t _ => n' - (intOf t).toNat)
  case atStart => exact ⟨0, by omega, rfl, O3, B3⟩
  case round =>
    obtain ⟨k, hk, rfl, ho, hb⟩ := hrel
    clear O3 B3
    by_cases hlt : k < n'
    · have hki : (k : Int) < (n' : Int) := by omega
      obtain ⟨b1, o1, rfl, hb1, hcs⟩ := (HR'.out.below' (B2.out.trans (hb.out.mono B2.out.size))).at' (by omega)
      have hcell := hcs k hlt
      obtain ⟨h0, h1, -⟩ := HRIS.out k hlt
      obtain ⟨i, hi⟩ : ∃ i : Nat, gi E k = (i : Int) := ⟨(gi E k).toNat, by omega⟩
      have HST := Lib.hid (lostL_step (tot := T) (k := k) (E := E) (by rw [hlE.out]; exact hlt) h0 (by omega))
      rw [hi] at hcell h1 HST
      rw [Int.toNat_natCast] at HST
      have hil : i < T := by omega
      have hii : (i : Int) < (T : Int) := by omega
      have ho2 := ho.out.2
      rw [lostL_length] at ho2
      have hpl := (ho2.cellAt i (by omega))
      have hfz := ho2.frozenAt i
      have O4 := Lib.hid (ho.out.set (k := i) (by rw [lostL_length]; exact hil) 1)
      rw [← HST.out] at O4
      have hpl2 : wr.cell? ⟨w2.heap.size, i, none⟩ = some (.int .i64 (gi (lostL T (E.take k)) i)) := by
        rw [hpl, List.getElem?_map]
        unfold gi; rw [List.getD_eq_getElem?_getD, List.getElem?_eq_getElem (by rw [lostL_length]; exact hil)]; rfl
      have B4 := Lib.hid (hb.out.setCell (p := ⟨w2.heap.size, i, none⟩) (Nat.le_refl _) (.int .i64 1))
      clear hcs hpl hi h1 h0 ho hb ho2
      go_wp2_with fail
      go_roundw
      case rel => exact ⟨k + 1, by omega, by go_num, O4, B4⟩
      case measure => simp [intOf]; omega
    · obtain rfl : k = n' := by omega
      have hki : ¬ (k : Int) < (k : Int) := by omega
      obtain ⟨wo, rfl⟩ : ∃ wo : World, wo = wr := ⟨_, rfl⟩
      have O5 := Lib.hid (show OwnL wo w2.heap.size (.slice (some ⟨w2.heap.size, 0, none⟩) T T) (lostL T E) by have h := ho.out; rw [List.take_of_length_le (by rw [hlE.out]; exact Nat.le_refl _)] at h; exact h)
      have B5 := Lib.hid (B2.out.trans (hb.out.mono B2.out.size))
      have L5 := Lib.hid (L2.out.below hb.out L2.out.lt)
      have HSP := Lib.hid (fun W (hb : Below w.heap.size w W) => split_any p pw g HL.out HTOT.out W (cap := cap) (HR.out.below' hb) HM.out)
      have HLR := Lib.hid (show RowAt wo (some ⟨w2.heap.size, 0, none⟩) T (lostL T E) from O5.out.rowF)
      have HSP2 := Lib.hid (fun W (hb : Below wo.heap.size wo W) => split_any p pw g HL.out HTOT.out W (cap := T) (HLR.out.below' hb) HT.out.symm)
      clear ho hb
      have k0 := L5.out.c0
      have k1 := L5.out.c1
      have k2 := L5.out.c2
      have k3 := L5.out.c3
      have k4 := L5.out.c4
      have k5 := L5.out.c5
      go_wp2_with fail
      refine wp_region_S (S := (fun w' => w'.cell? ⟨w.heap.size, 0, none⟩ = some (.int .i64 p) ∧ w'.cell? ⟨w.heap.size, 1, none⟩ = some (.int .i64 pw) ∧ w'.cell? ⟨w.heap.size, 2, none⟩ = some (.int .i64 g) ∧ w'.cell? ⟨w.heap.size, 3, none⟩ = some (.int .i64 D) ∧ w'.cell? ⟨w.heap.size, 4, none⟩ = some (.int .i64 (c : Int)) ∧ w'.cell? ⟨w.heap.size, 5, none⟩ = some (.int .i64 (n : Int)))) 8 rfl (by kernel_rfl) ?_ (fun hHeld => ?_)
      · (try dsimp only); exact ⟨k0, k1, k2, k3, k4, k5⟩
      refine wpAnyH_take (i := 0) (oi := _) (v := ?_) rfl (by kernel_rfl) (by kernel_rfl) (by kernel_rfl) (fun _ _ _ h => h) (Or.inl ⟨by rfl, ?_⟩) hHeld ?_
      rotate_left
      · intro w0 hSw; (try dsimp only at hSw); go_simp; (try with_reducible rfl)
      (try dsimp only [Act.put, List.setIfInBounds_toArray, List.set_cons_zero, List.set_cons_succ])
      refine wpAnyH_take (i := 1) (oi := _) (v := ?_) rfl (by kernel_rfl) (by kernel_rfl) (by kernel_rfl) (fun _ _ _ h => h) (Or.inl ⟨by rfl, ?_⟩) hHeld ?_
      rotate_left
      · intro w0 hSw; (try dsimp only at hSw); go_simp; (try with_reducible rfl)
      (try dsimp only [Act.put, List.setIfInBounds_toArray, List.set_cons_zero, List.set_cons_succ])
      refine wpAnyH_take (i := 3) (oi := _) (v := ?_) rfl (by kernel_rfl) (by kernel_rfl) (by kernel_rfl) (fun _ _ _ h => h) (Or.inl ⟨by rfl, ?_⟩) hHeld ?_
      rotate_left
      · intro w0 hSw; (try dsimp only at hSw); go_simp; (try with_reducible rfl)
      (try dsimp only [Act.put, List.setIfInBounds_toArray, List.set_cons_zero, List.set_cons_succ])
      refine wpAnyH_take (i := 4) (oi := _) (v := ?_) rfl (by kernel_rfl) (by kernel_rfl) (by kernel_rfl) (fun _ _ _ h => h) (Or.inl ⟨by rfl, ?_⟩) hHeld ?_
      rotate_left
      · intro w0 hSw; (try dsimp only at hSw); go_simp; (try with_reducible rfl)
      (try dsimp only [Act.put, List.setIfInBounds_toArray, List.set_cons_zero, List.set_cons_succ])
      refine wpAnyH_ready (rs := [2]) (by kernel_rfl) (by simp) ?_
      refine AllReadyH.cons (o := _) rfl (fun K hK => ?_) AllReadyH.nil
      go_simp
      have hBd := (Drew.below (drew1 wo) wo.heap.size)
      refine (HSP.out _ (B5.out.trans (hBd.mono B5.out.size))).mono ?_
      rintro e w6 ⟨v6, rfl, hb6, GW, cw, hR6⟩
      go_wp2_with fail
      refine hK.out _ _ ?_ (fun hHeld => ?_)
      · (try dsimp only); exact ⟨keep_cell hb6 hHeld.1, keep_cell hb6 hHeld.2.1, keep_cell hb6 hHeld.2.2.1, keep_cell hb6 hHeld.2.2.2.1, keep_cell hb6 hHeld.2.2.2.2.1, keep_cell hb6 hHeld.2.2.2.2.2⟩
      clear hK K
      (try dsimp only [Act.put, List.setIfInBounds_toArray, List.set_cons_zero, List.set_cons_succ])
      refine wpAnyH_ready (rs := [5]) (by kernel_rfl) (by simp) ?_
      refine AllReadyH.cons (o := _) rfl (fun K hK => ?_) AllReadyH.nil
      go_simp
      have hB6 := hBd.trans hb6
      refine (HSP2.out _ hB6).mono ?_
      rintro e w7 ⟨v7, rfl, hb7, GM, cm, hR7⟩
      go_wp2_with fail
      refine hK.out _ _ ?_ (fun hHeld => ?_)
      · (try dsimp only); exact ⟨keep_cell hb7 hHeld.1, keep_cell hb7 hHeld.2.1, keep_cell hb7 hHeld.2.2.1, keep_cell hb7 hHeld.2.2.2.1, keep_cell hb7 hHeld.2.2.2.2.1, keep_cell hb7 hHeld.2.2.2.2.2⟩
      clear hK K
      (try dsimp only [Act.put, List.setIfInBounds_toArray, List.set_cons_zero, List.set_cons_succ])
      refine wpAnyH_take (i := 6) (oi := _) (v := ?_) rfl (by kernel_rfl) (by kernel_rfl) (by kernel_rfl) (fun _ _ _ h => h) (Or.inl ⟨by rfl, ?_⟩) hHeld ?_
      rotate_left
      · intro w0 hSw; (try dsimp only at hSw); go_simp; (try with_reducible rfl)
      (try dsimp only [Act.put, List.setIfInBounds_toArray, List.set_cons_zero, List.set_cons_succ])
      refine wpAnyH_take (i := 7) (oi := _) (v := ?_) rfl (by kernel_rfl) (by kernel_rfl) (by kernel_rfl) (fun _ _ _ h => h) (Or.inl ⟨by rfl, ?_⟩) hHeld ?_
      rotate_left
      · intro w0 hSw; (try dsimp only at hSw); go_simp; (try with_reducible rfl)
      (try dsimp only [Act.put, List.setIfInBounds_toArray, List.set_cons_zero, List.set_cons_succ])
      refine wpAnyH_done (by kernel_rfl) ?_ _
      have hB7 := hB6.trans (hb7.mono hB6.size)
      have L7 := Lib.hid (L5.out.below hB7 L5.out.lt)
      have B7 := Lib.hid (B5.out.trans (hB7.mono B5.out.size))
      have RW7 := Lib.hid (hR6.below hb7)
      have RM7 := Lib.hid hR7
      obtain ⟨RW, cvw, rfl, -, -, -⟩ := hR6.form (by omega)
      obtain ⟨RM, cvm, rfl, -, -, -⟩ := hR7.form (by omega)
      clear hB7 hB6 hBd hb6 hb7 hR6 hR7 hHeld k0 k1 k2 k3 k4 k5 L5 B5 O5 HLR HSP HSP2
      have k3 := L7.out.c3
      obtain ⟨d, hd⟩ : ∃ d : Nat, D = (d : Int) := ⟨D.toNat, by omega⟩
      have HDD := Lib.hid hd
      have hmk := fun w => run_make_ints2 w 26 Try.underlying26 0 D (Int.le_refl _) (by omega) (by omega)
      rw [show D.toNat = d by omega] at hmk
      simp only [Int.toNat_zero] at hmk
      have O8 := Lib.hid (show OwnL (w7.alloc (.cells (madeCells #[.int .i64 0] d) 2)) w7.heap.size (.slice (some ⟨w7.heap.size, 0, none⟩) 0 d) (dsTo p pw g q r n c s E 0) from OwnL.made w7 w7.heap.size (Nat.le_refl _) d (by omega) _ rfl)
      have B8 := Lib.hid (below1 w7 (.cells (madeCells #[.int .i64 0] d) 2))
      clear hd
      go_wp2_with fail
      clear hmk k3
      go_loopw [14, 15, 50] (fun v nn t wr => ∃ k : Nat, k ≤ n ∧ t = .int .i64 k ∧ nn = .int .i64 ((dsN p pw g q r n c s E k : Nat) : Int) ∧ Hid (∀ j, j < k → cB p pw g q r n c s E j = true) ∧ Hid (OwnL wr w7.heap.size v (dsTo p pw g q r n c s E k)) ∧ Hid (Below w7.heap.size w7 wr)) (fun _ _ t _ => n - (intOf t).toNat)
      case atStart => exact ⟨0, by omega, rfl, rfl, Lib.hid (fun j hj => absurd hj (Nat.not_lt_zero j)), O8, B8⟩
      case round =>
        clear O8 B8
        obtain ⟨k, hk, rfl, rfl, hall, ho, hB⟩ := hrel
        obtain ⟨wq, rfl⟩ : ∃ wq : World, wq = wr := ⟨_, rfl⟩
        by_cases hkn : k < n
        · have hki : (k : Int) < (n : Int) := by omega
          have RW9 := Lib.hid (RW7.out.below hB.out)
          have RM9 := Lib.hid (RM7.out.below hB.out)
          have L9 := Lib.hid (L7.out.below hB.out L7.out.lt)
          have q1 := RW9.out.slot hkn
          have b9 := below1 wq (.cells #[] 2)
          have q2 := (RM9.out.below b9).slot hkn
          rw [wB_length] at q1 q2
          have HRWK := Lib.hid (fun W (hb : Below wq.heap.size wq W) => (RW9.out.row hkn).below' hb)
          rw [wB_length] at HRWK
          have HMC := Lib.hid (fun W (hb : Below wq.heap.size wq W) (e : Nat) (he : e < shN q r n k + c) => ((RM9.out.below hb).cell hkn (i := e) (by rw [wB_length]; exact he)).1)
          obtain ⟨hs1, hs2⟩ := HSH.out k
          have HCD := Lib.hid (fun W => lcode_any p pw g HL.out k _ rfl (show k ≤ 1000 by omega) W)
          have HSZ := Lib.hid (fun W => share_any p pw g HL.out k _ rfl (show k ≤ 1000 by omega) W)
          have HEB := Lib.hid (show filtL (fun e => gi (wB q r n c (lostL T E) k) e == 1) (shN q r n k + c) = eB q r n c E k from eB_one hkn T HT.out.symm (shN q r n k + c) (Nat.le_refl _))
          have HVK := Lib.hid (HV.out k hkn)
          have HCOR := Lib.hid (fun W (bd : Nat) (hcod : Cod W bd p pw g ((shN q r n k + c : Nat) : Int) (c : Int)) (a1 : Option Addr) (c1 : Nat) (hr1 : RowAt W a1 (shN q r n k + c) (wB q r n c s k)) (ha1 : a1 = none → c1 = 0) (a2 : Option Addr) (n2 c2 : Nat) (hr2 : RowAt W a2 n2 (eB q r n c E k)) (hc2 : n2 ≤ c2) (ha2 : a2 = none → c2 = 0) => blkCorrect_any (HV.out k hkn) hkn HS.out hcod (cap := c1) hr1 ha1 (cap' := c2) hr2 hc2 ha2)
          have HOL := Lib.hid (fun h => oB_len (E := E) (HV.out k hkn) hkn HS.out h)
          have HTS := Lib.hid (dsTo_succ p pw g q r n c s E k)
          have hdl := dsN_le p pw g q r n c s E k
          have HNS := Lib.hid (show dsN p pw g q r n c s E (k + 1) = dsN p pw g q r n c s E k + (dB p pw g q r n c s E k).length from rfl)
          have HDL := Lib.hid (show (dB p pw g q r n c s E k).length ≤ 1048576 from crD_len _ _ _ _ _ _ _)
          have HTL := Lib.hid (dsTo_len p pw g q r n c s E k)
          obtain ⟨Sk, hSk⟩ : ∃ Sk, shN q r n k = Sk := ⟨_, rfl⟩
          rw [hSk] at hs1 hs2 q1 q2 HRWK HMC HCD HSZ HEB HVK HCOR HOL HTS
          have e10 : ((Sk + c : Nat) : Int) = (Sk : Int) + (c : Int) := by omega
          rw [e10] at HCD HVK HCOR
          have hkk : k * 1048576 ≤ 16777216 := by omega
          have hdn2 : dsN p pw g q r n c s E k ≤ 16777216 := by omega
          have HFL := Lib.hid (fun j => filtL_length (fun e => gi (wB q r n c (lostL T E) k) e == 1) j)
          have O10 := Lib.hid (show OwnL (wq.alloc (.cells #[] 2)) wq.heap.size (.slice (some ⟨wq.heap.size, 0, none⟩) 0 0) (filtL (fun e => gi (wB q r n c (lostL T E) k) e == 1) 0) from OwnL.empty wq wq.heap.size (Nat.le_refl _) _ rfl)
          have B10 := Lib.hid b9
          have hskb : Sk + c ≤ 2000 := by omega
          clear e10 hSk hdl b9
          go_wp2_with fail
          clear q1 q2
          go_loopw [18, 61] (fun v t wr => ∃ j : Nat, j ≤ Sk + c ∧ t = .int .i64 j ∧ Hid (OwnL wr wq.heap.size v (filtL (fun e => gi (wB q r n c (lostL T E) k) e == 1) j)) ∧ Hid (Below wq.heap.size wq wr)) (fun _ t _ => Sk + c - (intOf t).toNat)
          case atStart => exact ⟨0, by omega, rfl, O10, B10⟩
          case round =>
            clear O10 B10
            obtain ⟨j, hj, rfl, hl, hbl⟩ := hrel
            by_cases hjl : j < Sk + c
            · have hji : (j : Int) < (Sk : Int) + (c : Int) := by omega
              have hcell := HMC.out wr hbl.out j hjl
              have hll : (filtL (fun e => gi (wB q r n c (lostL T E) k) e == 1) j).length ≤ 16777216 := by have := HFL.out j; omega
              cases hz : (gi (wB q r n c (lostL T E) k) j == 1) with
              | true =>
                have HST := Lib.hid (filtL_yes (P := fun e => gi (wB q r n c (lostL T E) k) e == 1) (k := j) hz)
                generalize gi (wB q r n c (lostL T E) k) j = z at *
                go_wp2_with (at_builtin; refine append_one rfl _ _ _ rfl Try.underlying26 (j : Int) hl.out rfl _ rfl rfl hll ?_; intro v2 w20 ho2 hb2)
                rw [← HST.out] at ho2
                have O11 := Lib.hid ho2
                have B11 := Lib.hid (hbl.out.trans hb2)
                clear ho2 hb2 hl hbl
                go_wp2_with fail
                go_roundw
                case rel => exact ⟨j + 1, by omega, by go_num, O11, B11⟩
                case measure => simp [intOf]; omega
              | false =>
                have HST := Lib.hid (filtL_no (P := fun e => gi (wB q r n c (lostL T E) k) e == 1) (k := j) hz)
                generalize gi (wB q r n c (lostL T E) k) j = z at *
                go_wp2_with fail
                go_roundw
                case rel => exact ⟨j + 1, by omega, by go_num, Lib.hid (by rw [HST.out]; exact hl.out), hbl⟩
                case measure => simp [intOf]; omega
            · obtain rfl : j = Sk + c := by omega
              have hji : ¬ ((Sk + c : Nat) : Int) < (Sk : Int) + (c : Int) := by omega
              have hle := hl.out
              rw [HEB.out] at hle
              have OE := Lib.hid hle
              have LA := Lib.hid (L9.out.below (hbl.out.mono (Nat.le_refl _)) L9.out.lt)
              have HBL := Lib.hid hbl.out
              have k0 := LA.out.c0
              have k1 := LA.out.c1
              have k2 := LA.out.c2
              have k3 := LA.out.c3
              have k4 := LA.out.c4
              have k5 := LA.out.c5
              obtain ⟨wj, rfl⟩ : ∃ wj : World, wj = wr := ⟨_, rfl⟩
              obtain ⟨ae, ce, rfl, -, -, -⟩ := hle.cap
              clear hl hbl hle HEB HFL HMC
              go_wp2_with fail
              refine (HCD.out _).mono ?_
              rintro e w21 ⟨rfl, hb21⟩
              have HB21 := Lib.hid (HBL.out.trans (hb21.mono HBL.out.size))
              have OE21 := Lib.hid (OE.out.below hb21)
              have LA21 := Lib.hid (LA.out.below hb21 LA.out.lt)
              clear hb21 k0 k1 k2 k3 k4 k5 LA OE HBL
              go_wp2_with fail
              refine (coder_any p pw g _ _ _).mono ?_
              rintro e w22 ⟨vd, rfl, hb22, hcod⟩
              rw [HVK.out]
              obtain ⟨bd, rfl, hbd, hcod⟩ := hcod HVK.out
              have HB22 := Lib.hid (HB21.out.trans (hb22.mono HB21.out.size))
              have OE22 := OE21.out.below hb22
              have LA22 := Lib.hid (LA21.out.below hb22 LA21.out.lt)
              obtain ⟨aq, cq, eq2, hcq, haq, hoq⟩ := OE22.cap
              simp only [Value.slice.injEq] at eq2
              obtain ⟨rfl, -, rfl⟩ := eq2
              have HCO := Lib.hid (HCOR.out w22 bd hcod _ (cw k) (HRWK.out _ HB22.out) (fun h => by cases h) _ _ _ hoq.row hcq haq)
              clear hb22 hcod OE22 hoq hcq haq LA21 OE21 HB21 HCOR HRWK HCD
              go_wp2_with fail
              with_reducible refine HCO.out.mono ?_
              rintro e w23 ⟨v9, v9b, rfl, hb23, hok⟩
              have HB23 := Lib.hid (HB22.out.trans (hb23.mono HB22.out.size))
              have LA23 := Lib.hid (LA22.out.below hb23 LA22.out.lt)
              have HOK := Lib.hid hok
              have HLO := Lib.hid (show w7.heap.size ≤ w22.heap.size from Nat.le_trans hB.out.size HB22.out.size)
              clear hb23 hok HCO LA22 HB22
              have O9 := Lib.hid (ho.out.below HB23.out)
              have B9 := Lib.hid (hB.out.trans (HB23.out.mono hB.out.size))
              clear ho hB RW9 RM9 L9
              cases hcb : cB p pw g q r n c s E k with
              | false =>
                have hf := Lib.hid (dsF_not (E := E) hkn hcb)
                have BF := Lib.hid (B7.out.trans (B9.out.mono B7.out.size))
                clear hcb
                go_wp2_with fail
                go_ret3
                exact ⟨_, by rw [hf.out, (dd_no hf.out).1]; rfl, BF.out, by rw [(dd_no hf.out).2]; exact OwnL.nil _ _ BF.out.size⟩
              | true =>
              obtain ⟨ho1, ho2⟩ := HOK.out hcb
              have hol := HOL.out hcb
              have HCB := Lib.hid hcb
              obtain ⟨g9, c9, -, rfl, -, -, -, hc9, hown9⟩ := ho1.form (by rw [hol]; omega)
              rw [hol] at hc9 hown9 ⊢
              obtain ⟨a9, c9b, rfl, -, -⟩ := ho2.shape
              have HRT := Lib.hid (RowAt.takeN hown9.row (show Sk ≤ Sk + c by omega))
              have k0 := LA23.out.c0
              have k1 := LA23.out.c1
              have k2 := LA23.out.c2
              have k3 := LA23.out.c3
              have k4 := LA23.out.c4
              have k5 := LA23.out.c5
              clear ho1 ho2 hol hcb hown9 HOK HOL
              go_wp2_with fail
              refine (HSZ.out _).mono ?_
              rintro e w24 ⟨rfl, hb24⟩
              have O10 := Lib.hid (O9.out.below hb24)
              have B10 := Lib.hid (B9.out.trans (hb24.mono B9.out.size))
              have HRT10 := Lib.hid (HRT.out.below' hb24)
              have hcap0 : ¬ c9 = 0 := by omega
              have hsc9 : Sk ≤ c9 := by omega
              clear hb24 k0 k1 k2 k3 k4 k5 O9 B9 HRT LA23
              have hmc : (Sk : Int) ≤ (c9 : Int) := by omega
              have hln : (dsTo p pw g q r n c s E k).length + Sk ≤ 16777216 := by
                have h1 := HTL.out
                have h2 : k * (q + 1) ≤ 16 * 1501 := Nat.mul_le_mul (by omega) (by omega)
                omega
              obtain ⟨dl, hdl⟩ : ∃ dl, (dB p pw g q r n c s E k).length = dl := ⟨_, rfl⟩
              rw [hdl] at HNS HDL ⊢
              have hdl2 := HDL.out
              clear hdl
              go_wp2_with (at_builtin; refine append_row rfl _ _ _ rfl Try.underlying26 O10.out rfl _ HRT10.out rfl (fun h => by cases h) hln ?_; intro v11 w25 hown11 hb11)
              rw [← HTS.out] at hown11
              have O11 := Lib.hid hown11
              have B11 := Lib.hid (B10.out.trans hb11)
              have HALL := Lib.hid (show ∀ j, j < k + 1 → cB p pw g q r n c s E j = true from fun j hj => by
                by_cases e : j = k
                · rw [e]; exact HCB.out
                · exact hall.out j (by omega))
              obtain ⟨dn, hdn⟩ : ∃ dn, dsN p pw g q r n c s E k = dn := ⟨_, rfl⟩
              rw [hdn] at HNS hdn2 ⊢
              have z2 : IntKind.i64.wrap ((dn : Int) + (dl : Int)) = (dn : Int) + (dl : Int) := IntWalk.i64_in _ (by omega)
              have HZ2 := Lib.hid z2
              clear z2
              have z1 : wrap64 ((dn : Int) + (dl : Int)) = (dn : Int) + (dl : Int) := IntWalk.wrap64_in _ (by omega)
              have z2 := HZ2.out
              clear hown11 hb11 hdn O10 B10 hall HRT10
              go_wp2_with fail
              clear z1 z2
              exact ⟨⟨k + 1, by omega, by go_num, by rw [HNS.out]; simp, HALL, O11, B11⟩, by simp [intOf]; omega⟩
        · obtain rfl : k = n := by omega
          have hki : ¬ (k : Int) < (k : Int) := by omega
          have hf := Lib.hid (dsF_yes hall.out)
          have BF := Lib.hid (B7.out.trans (hB.out.mono B7.out.size))
          have OF := Lib.hid (ho.out.lower (C := w.heap.size) B7.out.size)
          clear hall ho hB
          go_wp2_with fail
          go_ret3
          exact ⟨_, by rw [hf.out, (dd_yes hf.out).1]; rfl, BF.out, by rw [(dd_yes hf.out).2]; exact OF.out⟩
set_option maxHeartbeats 4000000 in
set_option maxRecDepth 100000 in
theorem implDecodeStreamO_any (p pw g D C N : Int) (w : World) {a : Option Addr} {m cap : Nat} {s : List Int} (hr : RowAt w a m s) {a' : Option Addr} {n' cap' : Nat} {E : List Int} (hr' : RowAt w a' n' E) :
    Calls Try.prog 37 #[lV p pw g D C N, .slice a m cap, .slice a' n' cap'] w fun e w' => ∃ v, e = .returned (.tuple #[v, .int .i64 (dsM p pw g D C N s E), .int .i64 (dsC p pw g D C N s E)]) ∧ Below w.heap.size w w' ∧ OwnL w' w.heap.size v (dsR p pw g D C N s E) := by
  have HR := Lib.hid hr
  have HR' := Lib.hid hr'
  have hlen := Lib.hid hr.len
  have hlen' := Lib.hid hr'.len
  have HB := Lib.hid (below1 w (.cells #[.int .i64 p, .int .i64 pw, .int .i64 g, .int .i64 D, .int .i64 C, .int .i64 N] LT))
  have L0 := Lib.hid (LB.new w p pw g D C N)
  have HCO := Lib.hid (fun W (hb : Below w.heap.size w W) => streamCode_any p pw g D C N W (cap := cap) (HR.out.below' hb))
  clear hr hr'
  go_enter Try.func37, Try.ntmps37
  go_wp2_with fail
  refine (HCO.out _ HB.out).mono ?_
  rintro e w2 ⟨rfl, hb2⟩
  have B2 := Lib.hid (HB.out.trans (hb2.mono HB.out.size))
  have L2 := Lib.hid (L0.out.below hb2 L0.out.lt)
  clear hb2 HB L0 HCO
  by_cases hc : scC p pw g D C N s = 0
  rotate_left
  · have hcn : (scC p pw g D C N s != 0) = true := by simp [hc]
    obtain ⟨f0, f1, f2⟩ := ds_bad (E := E) hc
    have hf0 := Lib.hid f0
    have hf1 := Lib.hid f1
    have hf2 := Lib.hid f2
    clear f0 f1 f2 hc
    generalize scC p pw g D C N s = cc at *
    go_wp2_with fail
    go_ret3
    exact ⟨_, by rw [hf0.out, hf2.out]; rfl, B2.out, by rw [hf1.out]; exact OwnL.nil _ _ B2.out.size⟩
  have hcn : (scC p pw g D C N s != 0) = false := by simp [hc]
  obtain ⟨hlay, hln, hal⟩ := sc_zero hc
  obtain ⟨q, r, n, c, hl, htot, hval, hvB⟩ := lay_ok hlay
  have HL := Lib.hid hl
  have HSC := Lib.hid hc
  have htn := tot_num hl
  have hsm := ord_small hl htot
  have HTN := Lib.hid htn
  obtain ⟨T, hT⟩ : ∃ T, (ordS q r n c).length = T := ⟨_, rfl⟩
  have HTT := Lib.hid hT
  rw [hT] at HTN hsm
  have HMM := Lib.hid (show m = (ordS q r n c).length by have h1 := hlen.out; rw [htn] at hln; omega)
  have HMA := Lib.hid (fun W (hb : Below w.heap.size w W) => rises_any 0 ((T : Int) - 1) (cap := cap') (HR'.out.below' hb))
  have hT1 : 1 ≤ T ∨ T = 0 := by omega
  have HTO := Lib.hid (fun W => total_any p pw g HL.out W)
  rw [HTN.out] at HTO
  have HDE := Lib.hid (fun W (hb : Below w.heap.size w W) (hris : RisTo 0 (((ordS q r n c).length : Int) - 1) E n') => decode_any p pw g hl htot hval W (cap := cap) (HR.out.below' hb) HMM.out hal (cap' := cap') (HR'.out.below' hb) hris)
  have k0 := L2.out.c0
  have k1 := L2.out.c1
  have k2 := L2.out.c2
  have k3 := L2.out.c3
  have k4 := L2.out.c4
  have k5 := L2.out.c5
  clear hc hlay hln hal hl htot hval hvB htn hT
  generalize hgg : scC p pw g D C N s = cc at hcn ⊢
  clear hgg
  go_wp2_with fail
  refine (HTO.out _).mono ?_
  rintro e w3 ⟨rfl, hb3⟩
  have B3 := Lib.hid (B2.out.trans (hb3.mono B2.out.size))
  have L3 := Lib.hid (L2.out.below hb3 L2.out.lt)
  clear hb3 k0 k1 k2 k3 k4 k5
  have y1 : -1000000 ≤ (T : Int) - 1 ∧ (T : Int) - 1 ≤ 1000000 := by omega
  obtain ⟨v1, v2⟩ := wraps y1
  clear y1
  go_wp2_with fail
  refine (HMA.out _ B3.out).mono ?_
  rintro e w4 ⟨rfl, rfl⟩
  have B4 := Lib.hid B3.out
  have L4 := Lib.hid L3.out
  clear v1 v2
  cases hris : risB 0 ((T : Int) - 1) E with
  | false =>
    obtain ⟨f0, f1, f2⟩ := ds_state (E := E) HSC.out (by rw [HTN.out]; exact hris)
    have hf0 := Lib.hid f0
    have hf1 := Lib.hid f1
    have hf2 := Lib.hid f2
    clear f0 f1 f2 hris
    go_wp2_with fail
    go_ret3
    exact ⟨_, by rw [hf0.out, hf2.out]; rfl, B4.out, by rw [hf1.out]; exact OwnL.nil _ _ B4.out.size⟩
  | true =>
  have HRI := Lib.hid (show RisTo 0 (((ordS q r n c).length : Int) - 1) E n' by rw [HTT.out, ← hlen'.out]; exact risB_iff hris)
  have HRB := Lib.hid (show risB 0 (D + N * C - 1) E = true by rw [HTN.out]; exact hris)
  have k0 := L4.out.c0
  have k1 := L4.out.c1
  have k2 := L4.out.c2
  have k3 := L4.out.c3
  have k4 := L4.out.c4
  have k5 := L4.out.c5
  clear hris
  go_wp2_with fail
  refine (HDE.out _ B4.out HRI.out).mono ?_
  rintro e w5 ⟨v5, rfl, hb5, ho5⟩
  have B5 := Lib.hid (B4.out.trans (hb5.mono B4.out.size))
  have O5 := Lib.hid (ho5.lower (C := w.heap.size) B4.out.size)
  clear hb5 ho5 k0 k1 k2 k3 k4 k5
  cases hf : dsF p pw g q r n c s E with
  | false =>
    obtain ⟨f0, f1, f2⟩ := ds_damage HSC.out HRB.out HL.out hf
    have hf0 := Lib.hid f0
    have hf1 := Lib.hid f1
    have hf2 := Lib.hid f2
    clear f0 f1 f2 hf
    go_wp2_with fail
    go_ret3
    exact ⟨_, by rw [hf0.out, hf2.out]; rfl, B5.out, by rw [hf1.out]; exact OwnL.nil _ _ B5.out.size⟩
  | true =>
    obtain ⟨f0, f1, f2⟩ := ds_ok HSC.out HRB.out HL.out hf
    obtain ⟨g1, g2⟩ := dd_yes hf
    have hf0 := Lib.hid f0
    have hf1 := Lib.hid (f1.trans g2.symm)
    have hf2 := Lib.hid (f2.trans g1.symm)
    clear f0 f1 f2 hf g1 g2
    generalize ddN p pw g q r n c s E = dn at *
    go_wp2_with fail
    go_ret3
    exact ⟨_, by rw [hf0.out, hf2.out]; rfl, B5.out, by rw [hf1.out]; exact O5.out⟩
end Go.Proofs.Ytfhkkpfiflgofaa
