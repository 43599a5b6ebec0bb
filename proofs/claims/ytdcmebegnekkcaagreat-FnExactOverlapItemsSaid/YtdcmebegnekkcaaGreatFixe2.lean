/-
  The parts Fixn, Fixo.
-/
import Derived.Test.YtdcmebegnekkcaaGreatFixd2
/-
  The places that are no data cells, in the program.
-/
namespace Go.Proofs.YtdcmebegnekkcaaGreat
open Go.RowKit
set_option linter.unusedVariables false

/-- The fixed places among the first i. -/
def takF (n i : Nat) (r c : Int) : Bool := (List.range i).any fun j => patP (n : Int) ((j / n : Nat) : Int) ((j % n : Nat) : Int) && (r == ((j / n : Nat) : Int) && c == ((j % n : Nat) : Int))
theorem takF_s (n i : Nat) (r c : Int) : takF n (i + 1) r c = (takF n i r c || (patP (n : Int) ((i / n : Nat) : Int) ((i % n : Nat) : Int) && (r == ((i / n : Nat) : Int) && c == ((i % n : Nat) : Int)))) := by
  unfold takF
  rw [List.range_succ, List.any_append]
  simp only [List.any_cons, List.any_nil, Bool.or_false]
def takL (L : List (Int × Int)) (r c : Int) : Bool := L.any fun p => r == p.1 && c == p.2
theorem takL_s (L : List (Int × Int)) {i : Nat} (hi : i < L.length) (r c : Int) : takL (L.take (i + 1)) r c = (takL (L.take i) r c || (r == (L[i]'hi).1 && c == (L[i]'hi).2)) := by
  unfold takL
  rw [List.take_add_one, List.getElem?_eq_getElem hi, List.any_append]
  simp only [Option.toList, List.any_cons, List.any_nil, Bool.or_false]
theorem nat_tdiv (i n : Nat) : (i : Int).tdiv (n : Int) = ((i / n : Nat) : Int) := by rw [Int.tdiv_eq_ediv_of_nonneg (Int.natCast_nonneg i)]; exact (Int.natCast_ediv i n).symm
theorem nat_tmod (i n : Nat) : (i : Int).tmod (n : Int) = ((i % n : Nat) : Int) := by rw [Int.tmod_eq_emod_of_nonneg (Int.natCast_nonneg i)]; exact (Int.natCast_emod i n).symm
theorem wf_i64 {x : Int} (h : -1000000 ≤ x ∧ x ≤ 1000000) : (Lit.int .i64 x).wf = true := WalkArith.wf_i64 (by omega)
theorem grown_below {B : Nat} {w w' : World} {b : Nat} (hg : w.grownBy w' (some b)) (hB : B ≤ b) (hw : B ≤ w.heap.size) : Below B w w' :=
  ⟨hg.os, hg.tape, hg.output, hg.size, fun k hk => hg.block k (by omega) (fun e => by cases e; omega)⟩
theorem OwnL.grownM {w w' : World} {B b : Nat} {v : Value} {zs : List Int} (h : OwnL w B v zs) (hg : w.grownBy w' (some b)) (hb : b < B) : OwnL w' B v zs := by
  obtain ⟨hB, hl, h2⟩ := h
  refine ⟨Nat.le_trans hB hg.size, hl, ?_⟩
  rcases h2 with h0 | ⟨g', cp, cur, rfl, hg', hh, rest⟩
  · exact .inl h0
  · exact .inr ⟨g', cp, cur, rfl, hg', (hg.block g' (lt_of_heap hh) (fun e => by cases e; omega)).trans hh, rest⟩
theorem OwnP.grownM {w w' : World} {B b : Nat} {v : Value} {L : List (Int × Int)} (h : OwnP w B v L) (hg : w.grownBy w' (some b)) (hb : b < B) : OwnP w' B v L :=
  h.other hg.size fun k hk => hg.block k (h.2.lt k hk).2 (fun e => by cases e; have := (h.2.lt b hk).1; omega)
theorem fmt_bd (n : Int) (h1 : 17 ≤ n) (h2 : n ≤ 41) (p : Int × Int) (hp : p ∈ fmtA ++ fmtB n) : (-1000000 ≤ p.1 ∧ p.1 ≤ 1000000) ∧ (-1000000 ≤ p.2 ∧ p.2 ≤ 1000000) := by
  simp only [fmtA, fmtB, fA1, fA2, fB1, fB2, List.mem_append, List.mem_map, List.mem_range, List.mem_cons, List.not_mem_nil, or_false] at hp
  rcases hp with ((⟨i, hi, rfl⟩ | rfl | rfl | rfl) | ⟨i, hi, rfl⟩) | ⟨i, hi, rfl⟩ | ⟨i, hi, rfl⟩ <;> refine ⟨⟨?_, ?_⟩, ?_, ?_⟩ <;> (try dsimp only) <;> omega
theorem fieldCells (a b : Int) (G : Option Addr) (n c : Nat) (w : World) : (Instr.field GrT (.agg #[.int .i64 a, .int .i64 b, .slice G n c]) 2).run Tryz.prog w = .ok (.slice G n c) w := by kernel_rfl
set_option maxHeartbeats 4000000 in
set_option maxRecDepth 20000 in
theorem noData_any {n : Nat} (h1 : 17 ≤ n) (h2 : n ≤ 41) (w : World) :
    Calls Tryz.prog 165 #[.int .i64 (n : Int)] w fun e w' => Below w.heap.size w w' ∧ e = .returned (.map (some w.heap.size)) ∧ ∃ k, k ≤ 5000 ∧ TkM w' w.heap.size k (fun r c => takF n (n * n) r c || takL (fmtA ++ fmtB (n : Int)) r c) := by
  have HN := Lib.hid (And.intro h1 h2)
  have HC := Lib.hid (fixed_any h1 h2)
  have HFM := Lib.hid (formats_any (n := (n : Int)) (by omega) (by omega))
  have hm2 : n * n ≤ 1681 := Nat.mul_le_mul h2 h2
  have HM2 := Lib.hid hm2
  have hn1 : 0 < (n : Int) := by omega
  have hnz : ¬ n = 0 := by omega
  have hm0 : 0 < n * n := Nat.mul_pos (by omega) (by omega)
  have hmm := @run_makeMap Tryz.prog
  go_enter Tryz.func165, Tryz.ntmps165
  go_wp2_with fail
  have hs0 : (w.alloc (.map #[] 0)).heap.size = w.heap.size + 1 := by simp
  have M0 := TkM.made w
  refine (HC.out _).mono ?_
  rintro e w1 ⟨hb1, G, zs, rfl, hO, hZ⟩
  rw [hs0] at hb1 hO
  have S0 := Lib.hid (show Below w.heap.size w w1 ∧ TkM w1 w.heap.size 0 (fun r c => takF n 0 r c) from ⟨(below_al1 w (.map #[] 0)).trans (hb1.mono (Nat.le_succ _)), M0.below hb1 (Nat.lt_succ_self _)⟩)
  have O0 := Lib.hid hO
  have HZ := Lib.hid hZ
  clear hb1 hO hZ hs0 M0 HC hmm
  have hfc := fieldCells
  go_wp2_with fail
  go_loopw [15] (fun t wr => ∃ i : Nat, i ≤ n * n ∧ t = .int .i64 (i : Int) ∧ Hid (OwnL wr (w.heap.size + 1) (.slice (some ⟨G, 0, none⟩) (n * n) (n * n)) zs) ∧ Hid (Below w.heap.size w wr) ∧ Hid (∃ k, k ≤ i ∧ TkM wr w.heap.size k (fun r c => takF n i r c))) (fun t _ => n * n - (intOf t).toNat)
  case atStart => exact ⟨0, by omega, rfl, O0, Lib.hid S0.out.1, Lib.hid ⟨0, Nat.le_refl _, S0.out.2⟩⟩
  case round =>
    clear S0 O0
    obtain ⟨i, hi, rfl, HO, HB, HK⟩ := hrel
    by_cases hlt : i < n * n
    · have hl2 : (i : Int) < ((n * n : Nat) : Int) := by omega
      have hl3 : (i : Int) < (n : Int) * (n : Int) := by rw [← Int.natCast_mul]; exact hl2
      obtain ⟨k, hk, HK1⟩ := HK.out
      have hiz : i < zs.length := by have := HZ.out.1; omega
      have hOO := HO.out
      obtain ⟨g, cp, cur, he, -, -, -, -, hat⟩ := hOO.form (by omega)
      simp only [Value.slice.injEq, Option.some.injEq, Addr.mk.injEq, and_true] at he
      obtain ⟨rfl, -, rfl⟩ := he
      obtain ⟨kc, kf, -⟩ := hat.place (i := i) (by have := HZ.out.1; omega)
      have hzi := HZ.out.2.1 i hlt
      clear hOO hat kf
      have HWI := Lib.hid (wrp (x := (i : Int) + 1) (by omega)).1
      by_cases hx : 0 ≤ gi zs i
      · have hp := hzi.1 hx
        have hq := Lib.hid (nat_tdiv i n)
        have hr := Lib.hid (nat_tmod i n)
        have hq1 : i / n ≤ 1681 := Nat.le_trans (Nat.div_le_self i n) (Nat.le_trans hi hm2)
        have hr1 : i % n ≤ 1681 := Nat.le_trans (Nat.mod_le i n) (Nat.le_trans hi hm2)
        generalize hqi : i / n = qi at *
        generalize hri : i % n = ri at *
        have HWQ := Lib.hid (wrp (x := ((qi : Nat) : Int)) (by omega)).2
        have HWR := Lib.hid (wrp (x := ((ri : Nat) : Int)) (by omega)).2
        obtain ⟨w7, hrun, hM7, hg7⟩ := TkM.put (w := wr.drew) (HK1) (by omega) (r := ((qi : Nat) : Int)) (c := ((ri : Nat) : Int)) (wf_i64 (by omega)) (wf_i64 (by omega))
        have M7 := Lib.hid (show ∃ k, k ≤ i + 1 ∧ TkM w7 w.heap.size k (fun r c => takF n (i + 1) r c) from ⟨k + 1, by omega, hM7.congr (by funext r c; rw [takF_s, hqi, hri, hp, Bool.true_and])⟩)
        have O7 := Lib.hid ((HO.out.below ((drew1 wr).below _)).grownM hg7 (Nat.lt_succ_self _))
        have B7 := Lib.hid ((HB.out.trans ((drew1 wr).below _)).trans (grown_below hg7 (Nat.le_refl _) HB.out.size))
        clear hM7 hg7 hp hzi HK1 hm2
        have hwq := HWQ.out
        have hq := hq.out
        have hr := hr.out
        have hwr := HWR.out
        go_wp2_with fail
        refine wp_region_S (S := (fun _ => True)) 9 rfl (by kernel_rfl) ?_ (fun hHeld => ?_)
        · (try dsimp only); all_goals trivial
        refine wpAnyH_take (i := 0) (oi := _) (v := ?_) rfl (by kernel_rfl) (by kernel_rfl) (by kernel_rfl) (fun _ _ _ h => h) (Or.inl ⟨by kernel_rfl, ?_⟩) hHeld ?_
        rotate_left
        · intro w0 hSw; (try dsimp only at hSw); go_simp; (try with_reducible rfl)
        (try dsimp only [Act.put, List.setIfInBounds_toArray, List.set_cons_zero, List.set_cons_succ])
        refine wpAnyH_take (i := 1) (oi := _) (v := ?_) rfl (by kernel_rfl) (by kernel_rfl) (by kernel_rfl) (fun _ _ _ h => h) (Or.inl ⟨by kernel_rfl, ?_⟩) hHeld ?_
        rotate_left
        · intro w0 hSw; (try dsimp only at hSw); go_simp; (try with_reducible rfl)
        (try dsimp only [Act.put, List.setIfInBounds_toArray, List.set_cons_zero, List.set_cons_succ])
        refine wpAnyH_take (i := 2) (oi := _) (v := ?_) rfl (by kernel_rfl) (by kernel_rfl) (by kernel_rfl) (fun _ _ _ h => h) (Or.inl ⟨by kernel_rfl, ?_⟩) hHeld ?_
        rotate_left
        · intro w0 hSw; (try dsimp only at hSw); go_simp; (try with_reducible rfl)
        (try dsimp only [Act.put, List.setIfInBounds_toArray, List.set_cons_zero, List.set_cons_succ])
        refine wpAnyH_take (i := 3) (oi := _) (v := ?_) rfl (by kernel_rfl) (by kernel_rfl) (by kernel_rfl) (fun _ _ _ h => h) (Or.inl ⟨by kernel_rfl, ?_⟩) hHeld ?_
        rotate_left
        · intro w0 hSw; (try dsimp only at hSw); go_simp; (try with_reducible rfl)
        (try dsimp only [Act.put, List.setIfInBounds_toArray, List.set_cons_zero, List.set_cons_succ])
        refine wpAnyH_take (i := 4) (oi := _) (v := ?_) rfl (by kernel_rfl) (by kernel_rfl) (by kernel_rfl) (fun _ _ _ h => h) (Or.inl ⟨by kernel_rfl, ?_⟩) hHeld ?_
        rotate_left
        · intro w0 hSw; (try dsimp only at hSw); go_simp; (try with_reducible rfl)
        (try dsimp only [Act.put, List.setIfInBounds_toArray, List.set_cons_zero, List.set_cons_succ])
        refine wpAnyH_take (i := 5) (oi := _) (v := ?_) rfl (by kernel_rfl) (by kernel_rfl) (by kernel_rfl) (fun _ _ _ h => h) (Or.inl ⟨by kernel_rfl, ?_⟩) hHeld ?_
        rotate_left
        · intro w0 hSw; (try dsimp only at hSw); go_simp; (try with_reducible rfl)
        (try dsimp only [Act.put, List.setIfInBounds_toArray, List.set_cons_zero, List.set_cons_succ])
        refine wpAnyH_take (i := 6) (oi := _) (v := ?_) rfl (by kernel_rfl) (by kernel_rfl) (by kernel_rfl) (fun _ _ _ h => h) (Or.inl ⟨by kernel_rfl, ?_⟩) hHeld ?_
        rotate_left
        · intro w0 hSw; (try dsimp only at hSw); go_simp; (try with_reducible rfl)
        (try dsimp only [Act.put, List.setIfInBounds_toArray, List.set_cons_zero, List.set_cons_succ])
        refine wpAnyH_take (i := 7) (oi := _) (v := ?_) rfl (by kernel_rfl) (by kernel_rfl) (by kernel_rfl) (fun _ _ _ h => h) (Or.inl ⟨by kernel_rfl, ?_⟩) hHeld ?_
        rotate_left
        · intro w0 hSw; (try dsimp only at hSw); go_simp; (try with_reducible rfl)
        (try dsimp only [Act.put, List.setIfInBounds_toArray, List.set_cons_zero, List.set_cons_succ])
        refine wpAnyH_ready (rs := [8]) (by kernel_rfl) (by simp) ?_
        refine AllReadyH.cons (o := _) rfl (fun K hK => ?_) AllReadyH.nil
        go_simp
        refine hK.out _ _ ?_ (fun hHeld => ?_)
        · (try dsimp only); all_goals trivial
        clear hK K
        (try dsimp only [Act.put, List.setIfInBounds_toArray, List.set_cons_zero, List.set_cons_succ])
        refine wpAnyH_done (by kernel_rfl) ?_ _
        go_simp
        clear hwq hwr hrun kc HWQ HWR
        clear hq hr
        have hwi := HWI.out
        go_wp2_with fail
        clear hwi
        go_roundw
        case rel => exact ⟨i + 1, by omega, by (try rw [HWI.out]); go_num, O7, B7, M7⟩
        case measure =>
          (try rw [HWI.out])
          clear HWI
          simp [intOf]; omega
      · have hp : patP (n : Int) ((i / n : Nat) : Int) ((i % n : Nat) : Int) = false := by
          cases h : patP (n : Int) ((i / n : Nat) : Int) ((i % n : Nat) : Int) with
          | false => rfl
          | true => exact absurd (hzi.2 h) hx
        have M7 := Lib.hid (show ∃ k, k ≤ i + 1 ∧ TkM wr w.heap.size k (fun r c => takF n (i + 1) r c) from ⟨k, by omega, HK1.congr (by funext r c; rw [takF_s, hp, Bool.false_and, Bool.or_false])⟩)
        clear hp hzi HK1 hm2
        have hwi := HWI.out
        go_wp2_with fail
        clear hwi
        go_roundw
        case rel => exact ⟨i + 1, by omega, by (try rw [HWI.out]); go_num, HO, HB, M7⟩
        case measure =>
          (try rw [HWI.out])
          clear HWI
          simp [intOf]; omega
    · obtain rfl : i = n * n := by omega
      go_wp2_with fail
      refine (HFM.out _).mono ?_
      rintro e w2 ⟨hb2, v1, v2, rfl, hT⟩
      obtain ⟨k0, hk0, hK0⟩ := HK.out
      have hwl := HB.out.size
      have B2 := Lib.hid (HB.out.trans (hb2.mono HB.out.size))
      have M2 := Lib.hid (hK0.below hb2 hK0.lt)
      have hlA : fmtA.length = 15 := by rfl
      have hlB : (fmtB (n : Int)).length = 15 := by simp [fmtB, (f_lens (n : Int) 7).2.2.1, (f_lens (n : Int) 8).2.2.2]
      obtain ⟨a1, c1, e1⟩ := hT.1.slice
      obtain ⟨g2, c2, e2, hg2, hg2', hcs⟩ := hT.2.1.cells (by omega)
      rw [hlA] at e1
      rw [hlB] at e2
      subst e1
      subst e2
      have T2 := Lib.hid hT
      have hll : fmtA.length + 15 ≤ 1000000 := by omega
      have hle : wr.heap.size ≤ w2.heap.size := hb2.size
      have hwl2 := TkM.lt hK0
      have hcs2 : ∀ j u, (plC (fmtB (n : Int)))[j]? = some u → w2.cell? ((⟨g2, 0, none⟩ : Addr).add j) = some u := fun j u hj => by rw [show ((⟨g2, 0, none⟩ : Addr).add j) = ⟨g2, j, none⟩ by cases j <;> simp [Addr.add]]; exact hcs j u hj
      have HCS := Lib.hid (And.intro hcs2 (And.intro hll hlB))
      clear hb2 hT hK0 hg2 hcs hcs2 hll hlA hlB hm2
      go_wp2_with (at_builtin; refine appendP rfl _ _ _ rfl Tryz.underlying203 (fmtB (n : Int)) ⟨g2, 0, none⟩ 15 c2 T2.out rfl rfl HCS.out.2.2 HCS.out.1 HCS.out.2.1 ?_; intro v3 w3 hT3 hb3; have hl3 := hT3.1.slice; rw [List.length_append, HCS.out.2.2, show fmtA.length = 15 from rfl] at hl3; obtain ⟨a3, c3, rfl⟩ := hl3; have H3 := Lib.hid (And.intro hT3 hb3); clear hT3 hb3)
      obtain ⟨C0, hC0⟩ : ∃ C0, C0 = wr.heap.size := ⟨_, rfl⟩
      have hlF : (fmtA ++ fmtB (n : Int)).length = 30 := by rw [List.length_append, HCS.out.2.2]; rfl
      have P3 := Lib.hid (show OwnP w3 C0 (.slice a3 30 c3) (fmtA ++ fmtB (n : Int)) ∧ w.heap.size < C0 from ⟨hC0 ▸ H3.out.1.1, by omega⟩)
      have B3 := Lib.hid (B2.out.trans (H3.out.2.mono (by omega)))
      have M3 := Lib.hid (show ∃ k, k ≤ 2000 + 0 ∧ TkM w3 w.heap.size k (fun r c => takF n (n * n) r c || takL ((fmtA ++ fmtB (n : Int)).take 0) r c) from ⟨k0, Nat.le_trans (Nat.le_trans hk0 HM2.out) (by omega), (M2.out.below H3.out.2 (by omega)).congr (by funext r c; rw [List.take_zero]; simp [takL])⟩)
      have HLF := Lib.hid hlF
      have HBD := Lib.hid (fmt_bd (n : Int) (by omega) (by omega))
      clear hlF H3 HCS hle hwl2 hwl hC0 B2 M2 T2 HK hk0 HO HB hlt hi HZ HFM hg2'
      generalize hLL : fmtA ++ fmtB (n : Int) = L at *
      have HLL := Lib.hid hLL
      clear hLL
      go_loopw [40] (fun t ws => ∃ i : Nat, i ≤ 30 ∧ t = .int .i64 (i : Int) ∧ Hid (OwnP ws C0 (.slice a3 30 c3) L ∧ w.heap.size < C0) ∧ Hid (Below w.heap.size w ws) ∧ Hid (∃ k, k ≤ 2000 + i ∧ TkM ws w.heap.size k (fun r c => takF n (n * n) r c || takL (L.take i) r c))) (fun t _ => 30 - (intOf t).toNat)
      case atStart => exact ⟨0, by omega, rfl, P3, B3, M3⟩
      case round =>
        clear P3 B3 M3
        obtain ⟨i, hi, rfl, HP, HB, HK⟩ := hrel
        by_cases hlt : i < 30
        · have hl2 : (i : Int) < 30 := by omega
          have hiL : i < L.length := by rw [HLF.out]; exact hlt
          obtain ⟨k, hk, HK1⟩ := HK.out
          obtain ⟨g, cp, he, hg1, hg2, hcs⟩ := HP.out.1.cells (by omega)
          simp only [Value.slice.injEq] at he
          obtain ⟨rfl, -, rfl⟩ := he
          have c0 := hcs _ _ (plC_at L i hiL).1
          have c1 := hcs _ _ (plC_at L i hiL).2
          have hbd := HBD.out (L[i]'hiL) (List.getElem_mem hiL)
          have TS := Lib.hid (takL_s L hiL)
          generalize L[i]'hiL = p at *
          obtain ⟨pr, pc⟩ := p
          simp only at c0 c1 hbd
          have hpl := HP.out.2
          have W4 := below_al1 wr (.cells #[.int .i64 pr, .int .i64 pc] PlT)
          obtain ⟨w7, hrun, hM7, hg7⟩ := TkM.put (w := wr.alloc (.cells #[.int .i64 pr, .int .i64 pc] PlT)) (HK1.below W4 HK1.lt) (by omega) (r := pr) (c := pc) (wf_i64 hbd.1) (wf_i64 hbd.2)
          have M7 := Lib.hid (show ∃ k, k ≤ 2000 + (i + 1) ∧ TkM w7 w.heap.size k (fun r c => takF n (n * n) r c || takL (L.take (i + 1)) r c) from ⟨k + 1, by omega, hM7.congr (by funext r c; rw [TS.out, Bool.or_assoc])⟩)
          have P7 := Lib.hid (show OwnP w7 C0 (.slice (some ⟨g, 0, none⟩) 30 c3) L ∧ w.heap.size < C0 from ⟨(HP.out.1.below W4).grownM hg7 hpl, hpl⟩)
          have B7 := Lib.hid ((HB.out.trans (W4.mono HB.out.size)).trans (grown_below hg7 (Nat.le_refl _) (Nat.le_trans HB.out.size W4.size)))
          clear hM7 hg7 HK1 hcs hbd W4 hg1 hg2 hiL TS
          go_wp2_with fail
          go_roundw
          case rel => exact ⟨i + 1, by omega, by go_num, P7, B7, M7⟩
          case measure => simp [intOf]; omega
        · obtain rfl : i = 30 := by omega
          obtain ⟨k, hk, HK1⟩ := HK.out
          have HR := Lib.hid (show ∃ k, k ≤ 5000 ∧ TkM wr w.heap.size k (fun r c => takF n (n * n) r c || takL (fmtA ++ fmtB (n : Int)) r c) from ⟨k, by omega, HK1.congr (by funext r c; rw [HLL.out, List.take_of_length_le (by rw [HLF.out]; exact Nat.le_refl _)])⟩)
          clear HK1
          go_wp2_with fail
          go_ret
          exact ⟨HB.out, rfl, HR.out⟩
end Go.Proofs.YtdcmebegnekkcaaGreat
/-
  The number of data cells, in the program.
-/
namespace Go.Proofs.YtdcmebegnekkcaaGreat
open Go.RowKit
set_option linter.unusedVariables false

def tak (n : Nat) (r c : Int) : Bool := takF n (n * n) r c || takL (fmtA ++ fmtB (n : Int)) r c
def rowU (n : Nat) (up : Bool) (k : Nat) : Int := if up then (n : Int) - 1 - ((k / 2 : Nat) : Int) else ((k / 2 : Nat) : Int)
/-- The data cells among the first k of two columns. -/
def cntC (n : Nat) (up : Bool) (right : Int) : Nat → Nat
  | 0 => 0
  | k + 1 => cntC n up right k + (if tak n (rowU n up k) (right - ((k % 2 : Nat) : Int)) then 0 else 1)
def rgt (right : Int) : Int := if right = 6 then 5 else right
def restC (n : Nat) : Nat → Int → Bool → Nat
  | 0, _, _ => 0
  | f + 1, right, up => if right ≤ 0 then 0 else cntC n up (rgt right) (2 * n) + restC n f (rgt right - 2) (!up)
/-- The number of data cells, as the program counts them. -/
def cntP (n : Nat) : Nat := restC n 50 ((n : Int) - 1) true
theorem restC_end (n f : Nat) (right : Int) (up : Bool) (h : right ≤ 0) : restC n f right up = 0 := by
  cases f with
  | zero => rfl
  | succ f => unfold restC; rw [if_pos h]
theorem cntC_le (n : Nat) (up : Bool) (right : Int) (k : Nat) : cntC n up right k ≤ k := by
  induction k with
  | zero => exact Nat.le_refl _
  | succ k ih => unfold cntC; split <;> omega
theorem OwnP.nil (w : World) (B : Nat) (hB : B ≤ w.heap.size) : OwnP w B (.slice none 0 0) [] := ⟨hB, World.ownsRow_nil _ _ _ _⟩
set_option maxHeartbeats 40000000 in
set_option maxRecDepth 20000 in
theorem dataPlaces_any {n : Nat} (h1 : 17 ≤ n) (h2 : n ≤ 41) (w : World) :
    Calls Tryz.prog 155 #[.int .i64 (n : Int)] w fun e w' => Below w.heap.size w w' ∧ ∃ a cap, e = .returned (.slice a (cntP n) cap) := by
  have HC := Lib.hid (noData_any h1 h2)
  have HN := Lib.hid (And.intro h1 h2)
  have hn1 := (wrp (x := (n : Int) - 1) (by omega)).2
  have hnn := (wrp (x := 2 * (n : Int)) (by omega)).2
  clear h1 h2
  go_enter Tryz.func155, Tryz.ntmps155
  go_wp2_with fail
  refine (HC.out _).mono ?_
  rintro e w1 ⟨hb1, rfl, k0, hk0, hM⟩
  have hlt := hM.lt
  have bA := below_al1 w1 (.cells #[] PlT)
  have t0 : Two (w1.alloc (.cells #[] PlT)) w1.heap.size (.slice (some ⟨w1.heap.size, 0, none⟩) 0 0) [] (.slice none 0 0) [] := ⟨OwnP.empty w1 w1.heap.size (Nat.le_refl _) _ rfl, OwnP.nil _ _ (by simp), fun q h1 h2 => by simp [Value.ownBlock] at h2⟩
  have S0 := Lib.hid (show Below w.heap.size w (w1.alloc (.cells #[] PlT)) ∧ TkM (w1.alloc (.cells #[] PlT)) w.heap.size k0 (tak n) ∧ Two (w1.alloc (.cells #[] PlT)) w1.heap.size (.slice (some ⟨w1.heap.size, 0, none⟩) 0 0) [] (.slice none 0 0) [] from ⟨hb1.trans (bA.mono hb1.size), hM.below bA hlt, t0⟩)
  have HM := Lib.hid hlt
  clear hb1 hM bA t0 hlt HC
  go_wp2_with fail
  generalize w1.alloc (.cells #[] PlT) = W at *
  generalize w1.heap.size = C0 at *
  go_loopw [4, 5, 6] (fun v u t wr => ∃ (f : Nat) (right : Int) (up : Bool) (L : List (Int × Int)), -1 ≤ right ∧ right ≤ 40 ∧ right ≤ 2 * f ∧ u = .bool up ∧ t = .int .i64 right ∧ Hid (L.length + restC n f right up = cntP n) ∧ Hid (L.length + (if 0 < right then 100 * right.toNat else 0) ≤ 5000) ∧ Hid (Below w.heap.size w wr ∧ TkM wr w.heap.size k0 (tak n) ∧ Two wr C0 v L (.slice none 0 0) [])) (fun _ _ t _ => (intOf t).toNat)
  case atStart => exact ⟨50, (n : Int) - 1, true, [], by have := HN.out; omega, by have := HN.out; omega, by have := HN.out; omega, rfl, rfl, Lib.hid (by simp [cntP]), Lib.hid (by have := HN.out; simp; split <;> omega), S0⟩
  case round =>
    clear S0
    obtain ⟨f, right, up, L, hr0, hr1, hf, rfl, rfl, HT, HS, HK⟩ := hrel
    by_cases hlt : 0 < right
    · by_cases h6 : right = 6
      · subst h6
        have h6 : (6 : Int) = 6 := rfl
        go_wp2_with fail
        go_step3
        go_wp2_with fail
        go_step3
        go_wp2_with fail
        have hwr0 := HN.out
        go_loopw [4, 7] (fun v t ws => ∃ (k : Nat) (M : List (Int × Int)), k ≤ 2 * n ∧ t = .int .i64 (k : Int) ∧ Hid (M.length = L.length + cntC n up 5 k) ∧ Hid (Below w.heap.size w ws ∧ TkM ws w.heap.size k0 (tak n) ∧ Two ws C0 v M (.slice none 0 0) [])) (fun _ t _ => 2 * n - (intOf t).toNat)
        case atStart => exact ⟨0, L, by omega, rfl, Lib.hid rfl, HK⟩
        case round =>
          clear HK
          obtain ⟨k, M, hk, rfl, HM2, HK⟩ := hrel
          by_cases hlk : k < 2 * n
          · have hlk2 : (k : Int) < 2 * (n : Int) := by omega
            have hk82 : k ≤ 82 := by omega
            have hq : (k : Int).tdiv 2 = ((k / 2 : Nat) : Int) := nat_tdiv k 2
            have hr : (k : Int).tmod 2 = ((k % 2 : Nat) : Int) := nat_tmod k 2
            have hk2 : k / 2 ≤ 41 := by omega
            have hk3 : k % 2 ≤ 1 := by omega
            have HSTEP := Lib.hid (show cntC n up 5 (k + 1) = cntC n up 5 k + (if tak n (rowU n up k) (5 - ((k % 2 : Nat) : Int)) then 0 else 1) from rfl)
            have hlen := cntC_le n up 5 k
            have hll : M.length + 1 ≤ 1000000 := by have h1 := HS.out; have h2 := HM2.out; split at h1 <;> omega
            have hrow : -1000 ≤ rowU n up k ∧ rowU n up k ≤ 1000 := by unfold rowU; split <;> omega
            have HROW := Lib.hid (show rowU n up k = if up then (n : Int) - 1 - ((k / 2 : Nat) : Int) else ((k / 2 : Nat) : Int) from rfl)
            generalize k / 2 = kq at *
            generalize k % 2 = kr at *
            generalize rowU n up k = row at *
            have wf1 := wf_i64 (x := row) (by omega)
            have wf2 := wf_i64 (x := 5 - ((kr : Nat) : Int)) (by omega)
            have W4 := below_al1 wr (.cells #[.int .i64 row, .int .i64 (5 - ((kr : Nat) : Int))] PlT)
            have hlook := (HK.out.2.1.below W4 HK.out.2.1.lt).look wf1 wf2
            have B4 := Lib.hid (HK.out.1.trans (W4.mono HK.out.1.size))
            have M4 := Lib.hid (HK.out.2.1.below W4 HK.out.2.1.lt)
            have T4 := HK.out.2.2.below W4
            have W5 := below_al1 (wr.alloc (.cells #[.int .i64 row, .int .i64 (5 - ((kr : Nat) : Int))] PlT)) (.cells #[.int .i64 row, .int .i64 (5 - ((kr : Nat) : Int))] PlT)
            have T5 := Lib.hid (T4.below W5)
            have B5 := Lib.hid (B4.out.trans (W5.mono B4.out.size))
            have M5 := Lib.hid (M4.out.below W5 M4.out.lt)
            have hsz4 : (wr.alloc (.cells #[.int .i64 row, .int .i64 (5 - ((kr : Nat) : Int))] PlT)).heap.size = wr.heap.size + 1 := by simp
            have NW := Lib.hid (hsz4 ▸ news1 (wr.alloc (.cells #[.int .i64 row, .int .i64 (5 - ((kr : Nat) : Int))] PlT)) row (5 - ((kr : Nat) : Int)))
            have T4H := Lib.hid T4
            have HC0 := Lib.hid T4.1.1
            have w1 := (wrp (x := ((kq : Nat) : Int)) (by omega)).2
            have w2 := (wrp (x := ((kr : Nat) : Int)) (by omega)).2
            have w3 := (wrp (x := 5 - ((kr : Nat) : Int)) (by omega)).2
            have w4 := (wrp (x := (n : Int) - 1 - ((kq : Nat) : Int)) (by omega)).2
            clear wf1 wf2 W4 W5 T4 hsz4 hrow hlen hk82 hk2 hk3 HK
            cases up with
            | true =>
              obtain rfl : row = (n : Int) - 1 - ((kq : Nat) : Int) := HROW.out
              cases ht : tak n ((n : Int) - 1 - ((kq : Nat) : Int)) (5 - ((kr : Nat) : Int)) with
              | true =>
                rw [ht] at hlook
                have HST := Lib.hid (show cntC n true 5 (k + 1) = cntC n true 5 k from by rw [HSTEP.out, ht]; rfl)
                clear ht
                go_wp2_with fail
                clear w1 w2 w3 w4
                go_roundw
                case rel => first | exact ⟨k + 1, M, by omega, by go_num, Lib.hid (by rw [HST.out]; exact HM2.out), Lib.hid ⟨B4.out, M4.out, T4H.out⟩⟩ | exact ⟨k + 1, by omega, by simp, M, Lib.hid (by rw [HST.out]; exact HM2.out), Lib.hid ⟨B4.out, M4.out, T4H.out⟩⟩
                case measure => simp [intOf]; omega
              | false =>
                rw [ht] at hlook
                have HST := Lib.hid (show cntC n true 5 (k + 1) = cntC n true 5 k + 1 from by rw [HSTEP.out, ht]; rfl)
                clear ht
                go_wp2_with (at_builtin; refine appendP rfl _ _ _ rfl Tryz.underlying203 [((n : Int) - 1 - ((kq : Nat) : Int), 5 - ((kr : Nat) : Int))] ⟨wr.heap.size + 1, 0, none⟩ 1 1 T5.out rfl rfl rfl NW.out hll ?_; intro v7 w7 hT7 hb7; have H7 := Lib.hid (And.intro hT7 hb7); clear hT7 hb7)
                go_wp2_with fail
                clear w1 w2 w3 w4
                go_roundw
                case rel => first | exact ⟨k + 1, M ++ [((n : Int) - 1 - ((kq : Nat) : Int), 5 - ((kr : Nat) : Int))], by omega, by go_num, Lib.hid (by rw [HST.out, List.length_append, HM2.out]; rfl), Lib.hid ⟨B5.out.trans (H7.out.2.mono (Nat.le_of_lt HM.out)), M5.out.below H7.out.2 HM.out, H7.out.1⟩⟩ | exact ⟨k + 1, by omega, by simp, M ++ [((n : Int) - 1 - ((kq : Nat) : Int), 5 - ((kr : Nat) : Int))], Lib.hid (by rw [HST.out, List.length_append, HM2.out]; rfl), Lib.hid ⟨B5.out.trans (H7.out.2.mono (Nat.le_of_lt HM.out)), M5.out.below H7.out.2 HM.out, H7.out.1⟩⟩
                case measure => simp [intOf]; omega
            | false =>
              obtain rfl : row = ((kq : Nat) : Int) := HROW.out
              cases ht : tak n (((kq : Nat) : Int)) (5 - ((kr : Nat) : Int)) with
              | true =>
                rw [ht] at hlook
                have HST := Lib.hid (show cntC n false 5 (k + 1) = cntC n false 5 k from by rw [HSTEP.out, ht]; rfl)
                clear ht
                go_wp2_with fail
                clear w1 w2 w3 w4
                go_roundw
                case rel => first | exact ⟨k + 1, M, by omega, by go_num, Lib.hid (by rw [HST.out]; exact HM2.out), Lib.hid ⟨B4.out, M4.out, T4H.out⟩⟩ | exact ⟨k + 1, by omega, by simp, M, Lib.hid (by rw [HST.out]; exact HM2.out), Lib.hid ⟨B4.out, M4.out, T4H.out⟩⟩
                case measure => simp [intOf]; omega
              | false =>
                rw [ht] at hlook
                have HST := Lib.hid (show cntC n false 5 (k + 1) = cntC n false 5 k + 1 from by rw [HSTEP.out, ht]; rfl)
                clear ht
                go_wp2_with (at_builtin; refine appendP rfl _ _ _ rfl Tryz.underlying203 [(((kq : Nat) : Int), 5 - ((kr : Nat) : Int))] ⟨wr.heap.size + 1, 0, none⟩ 1 1 T5.out rfl rfl rfl NW.out hll ?_; intro v7 w7 hT7 hb7; have H7 := Lib.hid (And.intro hT7 hb7); clear hT7 hb7)
                go_wp2_with fail
                clear w1 w2 w3 w4
                go_roundw
                case rel => first | exact ⟨k + 1, M ++ [(((kq : Nat) : Int), 5 - ((kr : Nat) : Int))], by omega, by go_num, Lib.hid (by rw [HST.out, List.length_append, HM2.out]; rfl), Lib.hid ⟨B5.out.trans (H7.out.2.mono (Nat.le_of_lt HM.out)), M5.out.below H7.out.2 HM.out, H7.out.1⟩⟩ | exact ⟨k + 1, by omega, by simp, M ++ [(((kq : Nat) : Int), 5 - ((kr : Nat) : Int))], Lib.hid (by rw [HST.out, List.length_append, HM2.out]; rfl), Lib.hid ⟨B5.out.trans (H7.out.2.mono (Nat.le_of_lt HM.out)), M5.out.below H7.out.2 HM.out, H7.out.1⟩⟩
                case measure => simp [intOf]; omega
          · obtain rfl : k = 2 * n := by omega
            have hne : ¬ ((2 * n : Nat) : Int) < 2 * (n : Int) := by omega
            obtain ⟨f', rfl⟩ : ∃ f', f = f' + 1 := ⟨f - 1, by omega⟩
            have hcl := cntC_le n up 5 (2 * n)
            have HE := Lib.hid (show restC n (f' + 1) 6 up = cntC n up 5 (2 * n) + restC n f' (5 - 2) (!up) from by
              show (if 6 ≤ 0 then 0 else _) = _
              rw [if_neg (by omega)]; simp [rgt, h6])
            have HT2 := Lib.hid (show M.length + restC n f' (5 - 2) (!up) = cntP n by have h1 := HT.out; have h2 := HE.out; have h3 := HM2.out; omega)
            have HS2 := Lib.hid (show M.length + (if 0 < (5 : Int) - 2 then 100 * ((5 : Int) - 2).toNat else 0) ≤ 5000 by have h1 := HS.out; have h3 := HM2.out; have h4 := HN.out; split at h1 <;> split <;> omega)
            have w2 := (wrp (x := 5 - 2) (by omega)).2
            clear hcl
            go_wp2_with fail
            clear w2
            go_roundw
            case rel => exact ⟨f', 5 - 2, !up, M, by omega, by omega, by omega, rfl, rfl, HT2, HS2, HK⟩
            case measure => simp [intOf] <;> omega
      · have hb6 : (right == 6) = false := by simp [h6]
        go_wp2_with fail
        go_step3
        go_wp2_with fail
        go_step3
        go_wp2_with fail
        have hwr0 := HN.out
        go_loopw [4, 7] (fun v t ws => ∃ (k : Nat) (M : List (Int × Int)), k ≤ 2 * n ∧ t = .int .i64 (k : Int) ∧ Hid (M.length = L.length + cntC n up right k) ∧ Hid (Below w.heap.size w ws ∧ TkM ws w.heap.size k0 (tak n) ∧ Two ws C0 v M (.slice none 0 0) [])) (fun _ t _ => 2 * n - (intOf t).toNat)
        case atStart => exact ⟨0, L, by omega, rfl, Lib.hid rfl, HK⟩
        case round =>
          clear HK
          obtain ⟨k, M, hk, rfl, HM2, HK⟩ := hrel
          by_cases hlk : k < 2 * n
          · have hlk2 : (k : Int) < 2 * (n : Int) := by omega
            have hk82 : k ≤ 82 := by omega
            have hq : (k : Int).tdiv 2 = ((k / 2 : Nat) : Int) := nat_tdiv k 2
            have hr : (k : Int).tmod 2 = ((k % 2 : Nat) : Int) := nat_tmod k 2
            have hk2 : k / 2 ≤ 41 := by omega
            have hk3 : k % 2 ≤ 1 := by omega
            have HSTEP := Lib.hid (show cntC n up right (k + 1) = cntC n up right k + (if tak n (rowU n up k) (right - ((k % 2 : Nat) : Int)) then 0 else 1) from rfl)
            have hlen := cntC_le n up right k
            have hll : M.length + 1 ≤ 1000000 := by have h1 := HS.out; have h2 := HM2.out; split at h1 <;> omega
            have hrow : -1000 ≤ rowU n up k ∧ rowU n up k ≤ 1000 := by unfold rowU; split <;> omega
            have HROW := Lib.hid (show rowU n up k = if up then (n : Int) - 1 - ((k / 2 : Nat) : Int) else ((k / 2 : Nat) : Int) from rfl)
            generalize k / 2 = kq at *
            generalize k % 2 = kr at *
            generalize rowU n up k = row at *
            have wf1 := wf_i64 (x := row) (by omega)
            have wf2 := wf_i64 (x := right - ((kr : Nat) : Int)) (by omega)
            have W4 := below_al1 wr (.cells #[.int .i64 row, .int .i64 (right - ((kr : Nat) : Int))] PlT)
            have hlook := (HK.out.2.1.below W4 HK.out.2.1.lt).look wf1 wf2
            have B4 := Lib.hid (HK.out.1.trans (W4.mono HK.out.1.size))
            have M4 := Lib.hid (HK.out.2.1.below W4 HK.out.2.1.lt)
            have T4 := HK.out.2.2.below W4
            have W5 := below_al1 (wr.alloc (.cells #[.int .i64 row, .int .i64 (right - ((kr : Nat) : Int))] PlT)) (.cells #[.int .i64 row, .int .i64 (right - ((kr : Nat) : Int))] PlT)
            have T5 := Lib.hid (T4.below W5)
            have B5 := Lib.hid (B4.out.trans (W5.mono B4.out.size))
            have M5 := Lib.hid (M4.out.below W5 M4.out.lt)
            have hsz4 : (wr.alloc (.cells #[.int .i64 row, .int .i64 (right - ((kr : Nat) : Int))] PlT)).heap.size = wr.heap.size + 1 := by simp
            have NW := Lib.hid (hsz4 ▸ news1 (wr.alloc (.cells #[.int .i64 row, .int .i64 (right - ((kr : Nat) : Int))] PlT)) row (right - ((kr : Nat) : Int)))
            have T4H := Lib.hid T4
            have HC0 := Lib.hid T4.1.1
            have w1 := (wrp (x := ((kq : Nat) : Int)) (by omega)).2
            have w2 := (wrp (x := ((kr : Nat) : Int)) (by omega)).2
            have w3 := (wrp (x := right - ((kr : Nat) : Int)) (by omega)).2
            have w4 := (wrp (x := (n : Int) - 1 - ((kq : Nat) : Int)) (by omega)).2
            clear wf1 wf2 W4 W5 T4 hsz4 hrow hlen hk82 hk2 hk3 HK
            cases up with
            | true =>
              obtain rfl : row = (n : Int) - 1 - ((kq : Nat) : Int) := HROW.out
              cases ht : tak n ((n : Int) - 1 - ((kq : Nat) : Int)) (right - ((kr : Nat) : Int)) with
              | true =>
                rw [ht] at hlook
                have HST := Lib.hid (show cntC n true right (k + 1) = cntC n true right k from by rw [HSTEP.out, ht]; rfl)
                clear ht
                go_wp2_with fail
                clear w1 w2 w3 w4
                go_roundw
                case rel => first | exact ⟨k + 1, M, by omega, by go_num, Lib.hid (by rw [HST.out]; exact HM2.out), Lib.hid ⟨B4.out, M4.out, T4H.out⟩⟩ | exact ⟨k + 1, by omega, by simp, M, Lib.hid (by rw [HST.out]; exact HM2.out), Lib.hid ⟨B4.out, M4.out, T4H.out⟩⟩
                case measure => simp [intOf]; omega
              | false =>
                rw [ht] at hlook
                have HST := Lib.hid (show cntC n true right (k + 1) = cntC n true right k + 1 from by rw [HSTEP.out, ht]; rfl)
                clear ht
                go_wp2_with (at_builtin; refine appendP rfl _ _ _ rfl Tryz.underlying203 [((n : Int) - 1 - ((kq : Nat) : Int), right - ((kr : Nat) : Int))] ⟨wr.heap.size + 1, 0, none⟩ 1 1 T5.out rfl rfl rfl NW.out hll ?_; intro v7 w7 hT7 hb7; have H7 := Lib.hid (And.intro hT7 hb7); clear hT7 hb7)
                go_wp2_with fail
                clear w1 w2 w3 w4
                go_roundw
                case rel => first | exact ⟨k + 1, M ++ [((n : Int) - 1 - ((kq : Nat) : Int), right - ((kr : Nat) : Int))], by omega, by go_num, Lib.hid (by rw [HST.out, List.length_append, HM2.out]; rfl), Lib.hid ⟨B5.out.trans (H7.out.2.mono (Nat.le_of_lt HM.out)), M5.out.below H7.out.2 HM.out, H7.out.1⟩⟩ | exact ⟨k + 1, by omega, by simp, M ++ [((n : Int) - 1 - ((kq : Nat) : Int), right - ((kr : Nat) : Int))], Lib.hid (by rw [HST.out, List.length_append, HM2.out]; rfl), Lib.hid ⟨B5.out.trans (H7.out.2.mono (Nat.le_of_lt HM.out)), M5.out.below H7.out.2 HM.out, H7.out.1⟩⟩
                case measure => simp [intOf]; omega
            | false =>
              obtain rfl : row = ((kq : Nat) : Int) := HROW.out
              cases ht : tak n (((kq : Nat) : Int)) (right - ((kr : Nat) : Int)) with
              | true =>
                rw [ht] at hlook
                have HST := Lib.hid (show cntC n false right (k + 1) = cntC n false right k from by rw [HSTEP.out, ht]; rfl)
                clear ht
                go_wp2_with fail
                clear w1 w2 w3 w4
                go_roundw
                case rel => first | exact ⟨k + 1, M, by omega, by go_num, Lib.hid (by rw [HST.out]; exact HM2.out), Lib.hid ⟨B4.out, M4.out, T4H.out⟩⟩ | exact ⟨k + 1, by omega, by simp, M, Lib.hid (by rw [HST.out]; exact HM2.out), Lib.hid ⟨B4.out, M4.out, T4H.out⟩⟩
                case measure => simp [intOf]; omega
              | false =>
                rw [ht] at hlook
                have HST := Lib.hid (show cntC n false right (k + 1) = cntC n false right k + 1 from by rw [HSTEP.out, ht]; rfl)
                clear ht
                go_wp2_with (at_builtin; refine appendP rfl _ _ _ rfl Tryz.underlying203 [(((kq : Nat) : Int), right - ((kr : Nat) : Int))] ⟨wr.heap.size + 1, 0, none⟩ 1 1 T5.out rfl rfl rfl NW.out hll ?_; intro v7 w7 hT7 hb7; have H7 := Lib.hid (And.intro hT7 hb7); clear hT7 hb7)
                go_wp2_with fail
                clear w1 w2 w3 w4
                go_roundw
                case rel => first | exact ⟨k + 1, M ++ [(((kq : Nat) : Int), right - ((kr : Nat) : Int))], by omega, by go_num, Lib.hid (by rw [HST.out, List.length_append, HM2.out]; rfl), Lib.hid ⟨B5.out.trans (H7.out.2.mono (Nat.le_of_lt HM.out)), M5.out.below H7.out.2 HM.out, H7.out.1⟩⟩ | exact ⟨k + 1, by omega, by simp, M ++ [(((kq : Nat) : Int), right - ((kr : Nat) : Int))], Lib.hid (by rw [HST.out, List.length_append, HM2.out]; rfl), Lib.hid ⟨B5.out.trans (H7.out.2.mono (Nat.le_of_lt HM.out)), M5.out.below H7.out.2 HM.out, H7.out.1⟩⟩
                case measure => simp [intOf]; omega
          · obtain rfl : k = 2 * n := by omega
            have hne : ¬ ((2 * n : Nat) : Int) < 2 * (n : Int) := by omega
            obtain ⟨f', rfl⟩ : ∃ f', f = f' + 1 := ⟨f - 1, by omega⟩
            have hcl := cntC_le n up right (2 * n)
            have HE := Lib.hid (show restC n (f' + 1) right up = cntC n up right (2 * n) + restC n f' (right - 2) (!up) from by
              show (if right ≤ 0 then 0 else _) = _
              rw [if_neg (by omega)]; simp [rgt, h6])
            have HT2 := Lib.hid (show M.length + restC n f' (right - 2) (!up) = cntP n by have h1 := HT.out; have h2 := HE.out; have h3 := HM2.out; omega)
            have HS2 := Lib.hid (show M.length + (if 0 < (right : Int) - 2 then 100 * ((right : Int) - 2).toNat else 0) ≤ 5000 by have h1 := HS.out; have h3 := HM2.out; have h4 := HN.out; split at h1 <;> split <;> omega)
            have w2 := (wrp (x := right - 2) (by omega)).2
            clear hcl
            go_wp2_with fail
            clear w2
            go_roundw
            case rel => exact ⟨f', right - 2, !up, M, by omega, by omega, by omega, rfl, rfl, HT2, HS2, HK⟩
            case measure => simp [intOf] <;> omega
    · obtain ⟨a, cap, e4⟩ := HK.out.2.2.1.slice
      have HL := Lib.hid (show L.length = cntP n by have h1 := HT.out; rw [restC_end n f right up (by omega)] at h1; exact h1)
      subst e4
      go_wp2_with fail
      rw [HL.out]
      go_ret
      exact ⟨HK.out.1, a, cap, rfl⟩
end Go.Proofs.YtdcmebegnekkcaaGreat
