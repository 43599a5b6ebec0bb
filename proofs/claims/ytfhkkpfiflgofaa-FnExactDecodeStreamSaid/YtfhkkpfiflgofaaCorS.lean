/-
  The reference's correction.
-/
import Derived.Test.YtfhkkpfiflgofaaTwo
namespace Go.Proofs.Ytfhkkpfiflgofaa
open Go.RowKit
set_option linter.unusedVariables false

set_option maxHeartbeats 1000000 in
theorem l04SyndromesO_any (p pw g l c : Int) (hc0 : 0 ≤ c) (hc1 : c ≤ 64) (hv : validB p pw g = true) (w : World) {a : Option Addr} {n cap : Nat} {zs : List Int} (hr : RowAt w a n zs) (hel : ∀ z ∈ zs, (ffOf p pw g).el z) :
    Calls Try.prog 80 #[cV p pw g l c, .slice a n cap] w fun e w' => ∃ v, e = .returned v ∧ Below w.heap.size w w' ∧ OwnL w' w.heap.size v (syn (ffOf p pw g) zs c.toNat) := by
  obtain ⟨C, rfl⟩ : ∃ C : Nat, c = (C : Int) := ⟨c.toNat, by omega⟩
  have hok := Lib.hid (ffOf_ok hv)
  have HG := Lib.hid (fun W => l02Generator_any p pw g hv W)
  have HM := Lib.hid (fun W u x (h : (ffOf p pw g).el u) (hx : (ffOf p pw g).el x) => l02Mul_any p pw g hv u x h hx W)
  have HV := Lib.hid (fun W (h : RowAt W a n zs) x hx => l04Value_any p pw g l C hv (cap := cap) h hel x hx)
  have HR := Lib.hid hr
  have hsm := hr.small
  clear hr hel hv
  simp only [Int.toNat_natCast]
  generalize ffOf p pw g = F at *
  go_enter Try.func80, Try.ntmps80
  go_wp2_with fail
  have hb0 := Lib.hid (((below1 w (.cells #[.int .i64 p, .int .i64 pw, .int .i64 g, .int .i64 l, .int .i64 C] CT)).alloc (by simp) (.cells #[] 2)))
  have hx0 := Lib.hid ((boxC_new w p pw g l C CT).below ((Below.refl _ _).alloc (Nat.le_refl _) (.cells #[] 2)) (by simp))
  go_loopw [5, 6, 7] (fun o r t wr => ∃ k : Nat, k ≤ C ∧ t = .int .i64 k ∧ r = .int .i64 (F.exp k) ∧ OwnL wr (w.heap.size + 1) o (syn F zs k) ∧ Below w.heap.size w wr ∧ BoxC wr w.heap.size p pw g l C) (fun _ _ t _ => (C - intOf t).toNat)
  case atStart => exact ⟨0, by omega, rfl, rfl, OwnL.empty _ _ (by simp) _ (by simp), hb0.out, hx0.out⟩
  case round =>
    obtain ⟨k, hk, rfl, rfl, hown, hbel, hbox⟩ := hrel
    have HB := Lib.hid hbel
    have HBX := Lib.hid hbox
    have HOWN := Lib.hid hown
    have hbs := hbel.size
    obtain ⟨hlt, c0, c1, c2, c3, c4⟩ := hbox
    clear hown hbel
    by_cases h0 : k < C
    · have hstep := Lib.hid (syn_succ F zs k)
      have hll : (syn F zs k).length ≤ 16777216 := by rw [syn_length]; omega
      have hel1 := Lib.hid (FF.exp_el hok.out k)
      have hel2 := Lib.hid (FF.exp_el hok.out 1)
      have hel3 := Lib.hid (FF.exp_el hok.out (k + 1))
      have hme := Lib.hid (FF.mul_exp hok.out k 1)
      generalize syn F zs k = r at *
      go_wp2_with fail
      go_region_held3 (fun w' => w'.cell? ⟨w.heap.size, 0, none⟩ = some (.int .i64 p) ∧ w'.cell? ⟨w.heap.size, 1, none⟩ = some (.int .i64 pw) ∧ w'.cell? ⟨w.heap.size, 2, none⟩ = some (.int .i64 g))
        (first | go_keep | ((try (dsimp only)); go_split_ands; refine ⟨?_, ?_, ?_⟩; all_goals (first | go_keep | (rw [hb2.cell (by have h9 := hb1'.size; simp at h9 ⊢; omega)]; assumption) | (rw [hb1'.cell (by simp; omega)]; assumption))))
        (first | (go_at_call 128; refine (HG.out _).mono ?_; rintro e w1 ⟨rfl, hb1'⟩) | (go_at_call 126; refine (HM.out _ _ _ hel1.out hel2.out).mono ?_; rintro e w2 ⟨rfl, hb2⟩))
      all_goals
        have hb1 : Below wr.heap.size wr w1 := (Below.refl _ wr).drew.trans hb1'
        have hs1 := hb1.size
        have hbb : Below wr.heap.size wr w2 := hb1.trans (hb2.mono hs1)
        have hbs2 := hbb.size
        have hB2 := Lib.hid (HB.out.trans (hbb.mono (by omega)))
        have hO2 := Lib.hid (HOWN.out.below hbb)
        have hX2 := Lib.hid (HBX.out.below hbb hlt)
        obtain ⟨_, d0, d1, d2, d3, d4⟩ := hX2.out
        have hrow2 := Lib.hid (HR.out.below' hB2.out)
        rw [hme.out]
        clear hb1' hb2 hb1 hbb c0 c1 c2 c3 c4
        go_wp2_with fail
        refine (HV.out _ hrow2.out _ hel3.out).mono ?_
        rintro e w4 ⟨rfl, hb4⟩
        have hB4 := Lib.hid (hB2.out.trans (hb4.mono (by omega)))
        have hO4 := Lib.hid (hO2.out.below hb4)
        have hX4 := Lib.hid (hX2.out.below hb4 hX2.out.lt)
        clear hb4 d0 d1 d2 d3 d4
        go_wp2_with (at_builtin; refine append_one rfl _ _ _ rfl Try.underlying26 (svTo F zs (F.exp (k + 1)) zs.length) hO4.out rfl _ rfl rfl hll ?_; intro v' w5 hown5 hb5)
        have hB5 := Lib.hid (hB4.out.trans (hb5.mono (by omega)))
        have hX5 := Lib.hid (hX4.out.below hb5 (by omega))
        have hO5 := Lib.hid hown5
        clear hown5 hb5
        go_wp2_with fail
        exact ⟨⟨k + 1, by omega, by go_num, rfl, by rw [hstep.out]; exact hO5.out, hB5.out, hX5.out⟩, by simp [intOf]; omega⟩
    · obtain rfl : k = C := by omega
      have hfin := Lib.hid (show OwnL wr w.heap.size u5 (syn F zs k) from HOWN.out.lower (by omega))
      go_wp2_with fail
      go_ret
      exact ⟨_, rfl, HB.out, hfin.out⟩
/-- What the reference's correction comes to. -/
theorem ref_res {V : VF} {L c : Nat} (hL : (L : Int) < V.F.size) {word E zs pl OUT : List Int} (hw : VF.els V word) (hwl : word.length = L) (hE : RisTo 0 ((L : Int) - 1) E E.length) (hz : EucOk V L c (syn V.F word c) E zs)
    (hp : pl = plL L (rootTo V.F L zs L) E L) (ho : OUT = outTo V.F word (spread L pl (valsL V L c (syn V.F word c) pl)) L) :
    (fixB V L c word E = true → pl.length ≤ c ∧ OUT = fixO V L c word E ∧ E.length + 2 * (dmgTo word E OUT L).length ≤ c ∧ zeroB (syn V.F OUT c) = true) ∧
    (E.length + 2 * (dmgTo word E OUT L).length ≤ c → zeroB (syn V.F OUT c) = true → fixB V L c word E = true) := by
  refine ⟨fun h => ?_, fun h1 h2 => ?_⟩
  · have hd := fix_spec h
    obtain ⟨e1, e2, e3⟩ := ref_ok hL hw hwl hE hd hz
    rw [e1] at hp
    subst hp
    rw [e3] at ho
    subst ho
    exact ⟨e2, rfl, by rw [dmg_errs]; exact hd.dmg, syn_zero hd⟩
  · subst ho
    exact fix_of (ref_sound hw (spTo_els (valsL_els V _ _ _ _) _) h1 h2)
theorem plL_yes {L : Nat} {A E : List Int} {k : Nat} (h : memB A k = true ∨ memB E k = true) : plL L A E (k + 1) = plL L A E k ++ [(k : Int)] :=
  filtL_yes (by unfold memB at h; simp only [Bool.or_eq_true]; exact h)
theorem plL_no {L : Nat} {A E : List Int} {k : Nat} (h : memB A k = false) (h2 : memB E k = false) : plL L A E (k + 1) = plL L A E k :=
  filtL_no (by unfold memB at h h2; simp only [h, h2]; rfl)
theorem difL_yes {word o : List Int} {k : Nat} (h : (gi o k == gi word k) = false) : difL word o (k + 1) = difL word o k ++ [(k : Int)] := filtL_yes (by simp only [h]; rfl)
theorem difL_no {word o : List Int} {k : Nat} (h : (gi o k == gi word k) = true) : difL word o (k + 1) = difL word o k := filtL_no (by simp only [h]; rfl)
theorem dmg_yes {word E o : List Int} {k : Nat} (h : (gi o k == gi word k) = false) (h2 : memB E k = false) : (dmgTo word E o (k + 1)).length = (dmgTo word E o k).length + 1 := by
  unfold memB at h2
  unfold dmgTo
  rw [filtL_yes (by simp only [h, h2]; rfl), List.length_append]; rfl
theorem dmg_no {word E o : List Int} {k : Nat} (h : (gi o k == gi word k) = true ∨ memB E k = true) : (dmgTo word E o (k + 1)).length = (dmgTo word E o k).length := by
  unfold memB at h
  unfold dmgTo
  rw [filtL_no (by rcases h with h | h <;> simp only [h] <;> simp)]
set_option maxHeartbeats 16000000 in
set_option maxRecDepth 100000 in
theorem l05Correct_any {V : VF} {p pw g c : Int} {L : Nat} (hs : SC V p pw g L c) {w : World} {a : Option Addr} {n cap : Nat} {word : List Int} (hr : RowAt w a n word) (hcap : n ≤ cap) (hca : a = none → cap = 0) (hz : VF.els V word) (hn : n = L)
    {a' : Option Addr} {n' cap' : Nat} {E : List Int} (hr' : RowAt w a' n' E) (hcap' : n' ≤ cap') (hris : RisTo 0 ((L : Int) - 1) E n') :
    Calls Try.prog 144 #[cV p pw g L c, .slice a n cap, .slice a' n' cap'] w fun e w' => ∃ v v2, e = .returned (.tuple #[v, v2, .bool (fixB V L c.toNat word E)]) ∧ Below w.heap.size w w' ∧ ∃ zs zs2, Two w' w.heap.size v v2 zs zs2 ∧ (fixB V L c.toNat word E = true → zs = fixO V L c.toNat word E ∧ zs2 = difL word (fixO V L c.toNat word E) L) := by
  obtain ⟨_, hc1, hc2, hcl, hl1, hlz⟩ := validC_iff hs.valid
  obtain ⟨C, rfl⟩ : ∃ C : Nat, c = (C : Int) := ⟨c.toNat, by omega⟩
  simp only [Int.toNat_natCast]
  subst hn
  have HR := Lib.hid hr
  have HZ := Lib.hid hz
  have HR' := Lib.hid hr'
  have HRIS := Lib.hid hris
  have hlen := Lib.hid hr'.len
  have hWl := Lib.hid hr.len
  have hLV : (n : Int) < V.F.size := by rw [hs.sf.hV]; exact hlz
  have HRE := Lib.hid (show RisTo 0 ((n : Int) - 1) E E.length by rw [hlen.out]; exact hris)
  have HX1 := Lib.hid (boxC_new w p pw g n C CT)
  have HB1 := Lib.hid (below1 w (.cells #[.int .i64 p, .int .i64 pw, .int .i64 g, .int .i64 (n : Int), .int .i64 (C : Int)] CT))
  clear hr hr' hris hz
  go_enter Try.func144, Try.ntmps144
  by_cases hlim : n' ≤ C
  rotate_left
  · have hlim' : (C : Int) < (n' : Int) := by omega
    have hf := Lib.hid (show fixB V n C word E = false from by
      cases h : fixB V n C word E
      · rfl
      · have := (fix_spec h).dmg; rw [hlen.out] at this; omega)
    go_wp2_with fail
    go_ret3
    exact ⟨_, _, by rw [hf.out]; rfl, HB1.out, [], [], ⟨OwnL.nil _ _ HB1.out.size, OwnL.nil _ _ HB1.out.size, fun k h => by cases h⟩, fun h => by rw [hf.out] at h; cases h⟩
  have hlim' : ¬ (C : Int) < (n' : Int) := by omega
  obtain ⟨w1, hw1⟩ : ∃ w1, w.alloc (.cells #[.int .i64 p, .int .i64 pw, .int .i64 g, .int .i64 (n : Int), .int .i64 (C : Int)] CT) = w1 := ⟨_, rfl⟩
  have HSY := Lib.hid (l04SyndromesO_any p pw g n C (by omega) hc2 (SF.hv hs.sf) w1 (cap := cap) (HR.out.below' (by rw [← hw1]; exact HB1.out)) (by rw [← hs.sf.hV]; exact HZ.out))
  rw [← hs.sf.hV, Int.toNat_natCast] at HSY
  have HSYE := Lib.hid (show VF.els V (syn V.F word C) from fun z hz => by
    obtain ⟨j, hj, rfl⟩ := mem_gi hz
    rw [syn_length] at hj
    rw [syn_gi _ _ hj]
    exact svTo_el V.ok HZ.out _ _)
  have HSYL := Lib.hid (syn_length V.F word C)
  have HRR := Lib.hid (fun zs pl OUT (h : EucOk V n C (syn V.F word C) E zs) => ref_res (pl := pl) (OUT := OUT) hLV HZ.out hWl.out HRE.out h)
  rw [hw1] at HX1 HB1
  obtain ⟨_, c0, c1, c2, c3, c4⟩ := HX1.out
  generalize syn V.F word C = S at *
  go_wp2_with fail
  clear hw1 c0 c1 c2 c3 c4
  refine HSY.out.mono ?_
  rintro e w2 ⟨v2, rfl, hb2, ho2⟩
  obtain ⟨a2, cap2, rfl, hcp2, hca2, h2⟩ := ho2.cap
  rw [HSYL.out] at h2 hcp2 ⊢
  have HB2 := Lib.hid (HB1.out.trans (hb2.mono HB1.out.size))
  have HX2 := Lib.hid (HX1.out.below hb2 HX1.out.lt)
  have HO2 := Lib.hid ho2
  have HR2 := Lib.hid h2.row
  have HCA2 := Lib.hid hca2
  clear hb2 ho2 h2 hca2 HSY HX1
  have HEU := Lib.hid (fun W (hb : Below w2.heap.size w2 W) => l05Euclid_any hs (cap := cap2) (HR2.out.below' hb) hcp2 HCA2.out HSYE.out rfl (cap' := cap') ((HR'.out.below' HB2.out).below' hb) HRIS.out hlim)
  have HFI := Lib.hid (fun W (a5 : Option Addr) (n5 c5 : Nat) (zs : List Int) (h5 : RowAt W a5 n5 zs) (he : VF.els V zs) => l05Find_any (c := (C : Int)) hs.sf (by omega) hl1 (cap := c5) h5 he)
  simp only [Int.toNat_natCast] at HFI
  obtain ⟨_, c0, c1, c2, c3, c4⟩ := HX2.out
  go_wp2_with fail
  go_region_held3 (fun w' => w'.cell? ⟨w.heap.size, 0, none⟩ = some (.int .i64 p) ∧ w'.cell? ⟨w.heap.size, 1, none⟩ = some (.int .i64 pw) ∧ w'.cell? ⟨w.heap.size, 2, none⟩ = some (.int .i64 g) ∧ w'.cell? ⟨w.heap.size, 3, none⟩ = some (.int .i64 (n : Int)) ∧ w'.cell? ⟨w.heap.size, 4, none⟩ = some (.int .i64 (C : Int)))
    (first | go_keep | ((try (dsimp only)); go_split_ands; (repeat' apply And.intro); all_goals (first | go_keep | exact keep_cell hbF (by assumption) | exact keep_cell hbE (by assumption))))
    (first | (go_at_call 161; refine (HEU.out _ (Drew.below (drew1 w2) _)).mono ?_; rintro e w3 ⟨v3, rfl, hbE, zs, hoE, hEu⟩; have acc3 := Below.more (Drew.below (drew1 w2) w2.heap.size) (Nat.le_refl _) hbE; obtain ⟨a3, c3', rfl, -, h3⟩ := hoE.shape) | (go_at_call 160; refine (HFI.out w3 a3 _ c3' zs h3.row hEu.1.els).mono ?_; rintro e w4 ⟨v4, rfl, hbF, hoF⟩))
  have acc4 := Below.more acc3 (Nat.le_refl _) hbF
  have HB4 := Lib.hid (HB2.out.trans (acc4.mono HB2.out.size))
  have HX4 := Lib.hid (HX2.out.below acc4 HX2.out.lt)
  have HR24 := Lib.hid (HR2.out.below' acc4)
  have HRES := Lib.hid (fun pl OUT => HRR.out zs pl OUT hEu)
  obtain ⟨a4, c4', rfl, -, h4⟩ := hoF.shape
  generalize rootTo V.F n zs n = A at *
  obtain ⟨la4, hla4⟩ : ∃ la4, A.length = la4 := ⟨_, rfl⟩
  rw [hla4] at h4 ⊢
  have HR4 := Lib.hid h4.row
  clear hbE hbF hoE hoF h3 h4 acc3 acc4 hla4 hEu HEU HFI HRR c0 c1 c2 c3 c4 HX2 HR2
  have HP0 := Lib.hid (OwnL.empty w4 w4.heap.size (Nat.le_refl _) _ rfl)
  have HBE := Lib.hid (below1 w4 (.cells #[] 2))
  go_wp2_with fail
  go_loopw [11, 12] (fun o t wr => ∃ (k la ca : Nat) (aa : Option Addr), k ≤ n ∧ o = .slice aa la ca ∧ t = .int .i64 k ∧ Hid ((plL n A E k).length = la) ∧ Hid (OwnL wr w4.heap.size (.slice aa la ca) (plL n A E k)) ∧ Hid (Below w4.heap.size w4 wr)) (fun _ t _ => (n - intOf t).toNat)
  case atStart => exact ⟨0, 0, 0, _, by omega, rfl, rfl, Lib.hid rfl, HP0, HBE⟩
  case round =>
    obtain ⟨k, la, ca, aa, hk, rfl, rfl, hla, ho, hbx⟩ := hrel
    clear HP0 HBE
    have HXr := Lib.hid (HX4.out.below hbx.out HX4.out.lt)
    obtain ⟨_, c0, c1, c2, c3, c4⟩ := HXr.out
    by_cases hlt : k < n
    · have hlt' : (k : Int) < (n : Int) := by omega
      have HRA := Lib.hid (HR4.out.below' hbx.out)
      have HREr := Lib.hid ((HR'.out.below' HB4.out).below' (hbx.out.mono (Nat.le_refl _)))
      have HH1 := Lib.hid (l05Has_any wr (cap := c4') HRA.out (k : Int))
      have HH2 := Lib.hid (l05Has_any wr (cap := cap') HREr.out (k : Int))
      have hll : (plL n A E k).length ≤ 16777216 := by have h1 : (plL n A E k).length ≤ k := filtL_length _ _; omega
      have HY := Lib.hid (plL_yes (L := n) (A := A) (E := E) (k := k))
      have HN := Lib.hid (plL_no (L := n) (A := A) (E := E) (k := k))
      generalize memB A (k : Int) = m1 at *
      generalize memB E (k : Int) = m2 at *
      go_wp2_with fail
      refine HH1.out.mono ?_
      rintro e w5 ⟨rfl, rfl⟩
      cases m1 with
      | true =>
        have HY2 := Lib.hid (HY.out (by simp))
        go_wp2_with (at_builtin; refine append_one rfl _ _ _ rfl Try.underlying26 (k : Int) ho.out rfl _ rfl rfl hll ?_; intro v' w6 hown6 hb6)
        rw [← HY2.out] at hown6
        have HB6 := Lib.hid (hbx.out.trans hb6)
        obtain ⟨a6, c6, rfl, -, -⟩ := hown6.shape
        have HO6 := Lib.hid hown6
        clear hown6 hb6
        go_wp2_with fail
        exact ⟨⟨k + 1, _, _, _, by omega, rfl, by go_num, Lib.hid rfl, HO6, HB6⟩, by simp [intOf]; omega⟩
      | false =>
        go_wp2_with fail
        refine HH2.out.mono ?_
        rintro e w5 ⟨rfl, rfl⟩
        cases m2 with
        | true =>
          have HY2 := Lib.hid (HY.out (by simp))
          go_wp2_with (at_builtin; refine append_one rfl _ _ _ rfl Try.underlying26 (k : Int) ho.out rfl _ rfl rfl hll ?_; intro v' w6 hown6 hb6)
          rw [← HY2.out] at hown6
          have HB6 := Lib.hid (hbx.out.trans hb6)
          obtain ⟨a6, c6, rfl, -, -⟩ := hown6.shape
          have HO6 := Lib.hid hown6
          clear hown6 hb6
          go_wp2_with fail
          exact ⟨⟨k + 1, _, _, _, by omega, rfl, by go_num, Lib.hid rfl, HO6, HB6⟩, by simp [intOf]; omega⟩
        | false =>
          have HN2 := Lib.hid (HN.out (by first | rfl | trivial) (by first | rfl | trivial))
          have HOD := Lib.hid (show OwnL wr w4.heap.size (.slice aa la ca) (plL n A E (k + 1)) by rw [HN2.out]; exact ho.out)
          have HLA := Lib.hid (show (plL n A E (k + 1)).length = la by rw [HN2.out]; exact hla.out)
          go_wp2_with fail
          go_roundw
          case rel => exact ⟨k + 1, _, _, _, by omega, rfl, by go_num, HLA, HOD, hbx⟩
          case measure => simp [intOf]; omega
    · obtain rfl : k = n := by omega
      have hlt' : ¬ (k : Int) < (k : Int) := by omega
      have HPR := Lib.hid (plL_ris k A E)
      obtain ⟨pl, hpl⟩ : ∃ pl, plL k A E k = pl := ⟨_, rfl⟩
      have HRESP := Lib.hid (fun OUT => HRES.out pl OUT hpl.symm)
      rw [hpl] at hla ho HPR
      rw [hla.out] at HPR
      have HBr := Lib.hid (HB4.out.trans (hbx.out.mono HB4.out.size))
      clear HRES hpl HR4
      by_cases hpc : la ≤ C
      rotate_left
      · have hpc' : (C : Int) < (la : Int) := by omega
        have hf := Lib.hid (show fixB V k C word E = false from by
          cases h : fixB V k C word E
          · rfl
          · have := ((HRESP.out _ rfl).1 h).1; rw [hla.out] at this; omega)
        go_wp2_with fail
        go_ret3
        exact ⟨_, _, by rw [hf.out]; rfl, HBr.out, [], [], ⟨OwnL.nil _ _ HBr.out.size, OwnL.nil _ _ HBr.out.size, fun k h => by cases h⟩, fun h => by rw [hf.out] at h; cases h⟩
      have hpc' : ¬ (C : Int) < (la : Int) := by omega
      obtain ⟨_, _, ep, -, hrp⟩ := ho.out.shape
      simp only [Value.slice.injEq] at ep
      obtain ⟨rfl, -, -⟩ := ep
      rw [hla.out] at hrp
      have HRP := Lib.hid hrp.row
      have HRS := Lib.hid (HR24.out.below' hbx.out)
      clear hrp HR24
      have HVA := Lib.hid (fun W (hb : Below wr.heap.size wr W) => l05Values_any hs (cap := cap2) (HRS.out.below' hb) hcp2 HCA2.out HSYE.out rfl (cap' := ca) (HRP.out.below' hb) HPR.out)
      have HVL := Lib.hid (show (valsL V k C S pl).length = la by unfold valsL; rw [List.length_map, hla.out])
      have HVE := Lib.hid (valsL_els V k C S pl)
      generalize valsL V k C S pl = vl at *
      have HSP := Lib.hid (fun W (hb : Below wr.heap.size wr W) (a7 : Option Addr) (c7 : Nat) (h7 : RowAt W a7 la vl) => l05Spread_any p pw g C k (by omega) (cap := ca) (HRP.out.below' hb) (cap' := c7) h7 (Nat.le_refl _) HPR.out)
      have HSPL := Lib.hid (show (spread k pl vl).length = k from spTo_length _ _ _ _)
      have HCE := Lib.hid (show VF.els V (spread k pl vl) from spTo_els HVE.out _)
      generalize spread k pl vl = ch at *
      go_wp2_with fail
      go_region_held3 (fun w' => w'.cell? ⟨w.heap.size, 0, none⟩ = some (.int .i64 p) ∧ w'.cell? ⟨w.heap.size, 1, none⟩ = some (.int .i64 pw) ∧ w'.cell? ⟨w.heap.size, 2, none⟩ = some (.int .i64 g) ∧ w'.cell? ⟨w.heap.size, 3, none⟩ = some (.int .i64 (k : Int)) ∧ w'.cell? ⟨w.heap.size, 4, none⟩ = some (.int .i64 (C : Int)))
        (first | go_keep | ((try (dsimp only)); go_split_ands; (repeat' apply And.intro); all_goals (first | go_keep | exact keep_cell hbP (by assumption) | exact keep_cell hbV (by assumption))))
        (first | (go_at_call 86; refine (HVA.out _ (Drew.below (drew1 wr) _)).mono ?_; rintro e w5 ⟨v5, rfl, hbV, hoV⟩; have acc5 := Below.more (Drew.below (drew1 wr) wr.heap.size) (Nat.le_refl _) hbV; obtain ⟨a5, c5, rfl, -, h5⟩ := hoV.shape; rw [HVL.out] at h5 ⊢) | (go_at_call 81; refine (HSP.out w5 acc5 a5 c5 h5.row).mono ?_; rintro e w7 ⟨v7, rfl, hbP, hoP⟩))
      have acc7 := Below.more acc5 (Nat.le_refl _) hbP
      have HB7 := Lib.hid (HBr.out.trans (acc7.mono HBr.out.size))
      have HX7 := Lib.hid (HXr.out.below acc7 HXr.out.lt)
      obtain ⟨a7, c7, rfl, -, h7⟩ := hoP.shape
      rw [HSPL.out] at h7 ⊢
      have HR7 := Lib.hid h7.row
      clear hbV hbP hoV hoP h5 h7 acc5 acc7 HVA HSP HRS HRP ho hbx HX4 HB4 HXr c0 c1 c2 c3 c4 HB2 HO2
      obtain ⟨OUT, hOUT⟩ : ∃ OUT, outTo V.F word ch k = OUT := ⟨_, rfl⟩
      have HOT := Lib.hid hOUT
      have HRES2 := Lib.hid (HRESP.out OUT hOUT.symm)
      clear hOUT HRESP
      have HTW0 := Lib.hid (show Two ((w7.alloc (.cells #[] 2)).alloc (.cells #[] 2)) w7.heap.size (.slice (some ⟨w7.heap.size, 0, none⟩) 0 0) (.slice (some ⟨w7.heap.size + 1, 0, none⟩) 0 0) [] [] from
        ⟨(OwnL.empty w7 w7.heap.size (Nat.le_refl _) _ rfl).below (below1 _ _), OwnL.empty (w7.alloc (.cells #[] 2)) w7.heap.size (by simp) _ (by simp), fun q h1 h2 => by simp [Value.ownBlock] at h1 h2; omega⟩)
      have HBE := Lib.hid ((below1 w7 (.cells #[] 2)).alloc (by simp) (.cells #[] 2))
      go_wp2_with fail
      go_loopw [14, 15, 16, 17] (fun vo vd vg t wr => ∃ (j lo ld co cd dm : Nat) (ao ad : Option Addr), j ≤ k ∧ vo = .slice ao lo co ∧ vd = .slice ad ld cd ∧ vg = .int .i64 dm ∧ t = .int .i64 j ∧ Hid ((outTo V.F word ch j).length = lo) ∧ Hid ((difL word OUT j).length = ld) ∧ Hid (dm = n' + 2 * (dmgTo word E OUT j).length) ∧ Hid (Two wr w7.heap.size (.slice ao lo co) (.slice ad ld cd) (outTo V.F word ch j) (difL word OUT j)) ∧ Hid (Below w7.heap.size w7 wr)) (fun _ _ _ t _ => (k - intOf t).toNat)
      case atStart => exact ⟨0, 0, 0, _, _, n', _, _, by omega, rfl, rfl, rfl, rfl, Lib.hid rfl, Lib.hid rfl, Lib.hid rfl, HTW0, HBE⟩
      case round =>
        obtain ⟨j, lo, ld, co, cd, dm, ao, ad, hj, rfl, rfl, rfl, rfl, hlo, hld, hdm, htw, hbj⟩ := hrel
        clear HTW0 HBE
        have HXj := Lib.hid (HX7.out.below hbj.out HX7.out.lt)
        obtain ⟨_, c0, c1, c2, c3, c4⟩ := HXj.out
        have hdl : (dmgTo word E OUT j).length ≤ j := filtL_length _ _
        have hdmb : dm ≤ n' + 2 * j := by rw [hdm.out]; omega
        clear hdl
        by_cases hjl : j < k
        · have hjl' : (j : Int) < (k : Int) := by omega
          have HRWj := Lib.hid ((HR.out.below' HB7.out).below' (hbj.out.mono (Nat.le_refl _)))
          have HRC := Lib.hid (HR7.out.below' hbj.out)
          obtain ⟨b1, o1, e1, hb1, hcs1⟩ := HRWj.out.at' (by omega)
          obtain ⟨b2, o2, e2, hb2, hcs2⟩ := HRC.out.at' (by omega)
          subst e1 e2
          have hce1 := hcs1 j hjl
          have hce2 := hcs2 j hjl
          clear hcs1 hcs2
          have hwe : V.F.el (gi word j) := HZ.out.getD j
          have hce : V.F.el (gi ch j) := HCE.out.getD j
          have HN := Lib.hid (fun W => hs.sf.neg (gi ch j) hce W)
          have hne := FF.neg_el (F := V.F) hce
          have HA := Lib.hid (fun W => hs.sf.add (gi word j) (V.F.neg (gi ch j)) hwe hne W)
          have HX := Lib.hid (show V.F.add (gi word j) (V.F.neg (gi ch j)) = gi OUT j by rw [← HOT.out, outTo_gi _ _ _ hjl])
          rw [HX.out] at HA
          have HSU := Lib.hid (show outTo V.F word ch (j + 1) = outTo V.F word ch j ++ [gi OUT j] by rw [outTo_succ, HX.out])
          have hll : (outTo V.F word ch j).length ≤ 16777216 := by rw [outTo_length]; omega
          have hll2 : (difL word OUT j).length ≤ 16777216 := by have h1 : (difL word OUT j).length ≤ j := filtL_length _ _; omega
          have HDY := Lib.hid (difL_yes (word := word) (o := OUT) (k := j))
          have HDN := Lib.hid (difL_no (word := word) (o := OUT) (k := j))
          have HGY := Lib.hid (dmg_yes (word := word) (E := E) (o := OUT) (k := j))
          have HGN := Lib.hid (dmg_no (word := word) (E := E) (o := OUT) (k := j))
          generalize V.F.neg (gi ch j) = nc at *
          generalize gi ch j = cj at *
          generalize hxx : gi OUT j = x at *
          generalize hww : gi word j = wj at *
          have HWW := Lib.hid hww
          clear hwe hce hne HX hxx hww
          go_wp2_with fail
          go_region_held3 (fun w' => w'.cell? ⟨w.heap.size, 0, none⟩ = some (.int .i64 p) ∧ w'.cell? ⟨w.heap.size, 1, none⟩ = some (.int .i64 pw) ∧ w'.cell? ⟨w.heap.size, 2, none⟩ = some (.int .i64 g) ∧ w'.cell? ⟨b1, o1 + j, none⟩ = some (.int .i64 wj) ∧ w'.cell? ⟨b2, o2 + j, none⟩ = some (.int .i64 cj))
            (first | go_keep | ((try (dsimp only)); go_split_ands; (repeat' apply And.intro); all_goals (first | go_keep | exact keep_cell hbA (by assumption) | exact keep_cell hbN (by assumption))))
            (first | (go_at_call 71; refine (HN.out _).mono ?_; rintro e w8 ⟨rfl, hbN⟩) | (go_at_call 82; refine (HA.out _).mono ?_; rintro e w9 ⟨rfl, hbA⟩))
          have acc8 := Below.trans (Drew.below (drew1 wr) wr.heap.size) hbN
          have acc9 := Below.more acc8 (Nat.le_refl _) hbA
          have HT9 := Lib.hid (htw.out.below acc9)
          have HB9 := Lib.hid (hbj.out.trans (acc9.mono hbj.out.size))
          clear hbN hbA acc8 acc9 HXj hce1 hce2 c0 c1 c2 c3 c4 HN HA HRC
          have HCW := Lib.hid (fun W (hb : Below w7.heap.size w7 W) (hb1 : b1 < w7.heap.size) (h : w9.cell? ⟨b1, o1 + j, none⟩ = some (.int .i64 wj)) (h2 : Below w7.heap.size w9 W) => (h2.cell (p := ⟨b1, o1 + j, none⟩) hb1).trans h)
          have HLO := Lib.hid (show (outTo V.F word ch (j + 1)).length = lo + 1 by rw [HSU.out, List.length_append, hlo.out]; rfl)
          have hb1' : b1 < w7.heap.size := by
            have h1 := (HR.out.below' HB7.out).at' (by omega)
            obtain ⟨b1', o1', e, hlt1, _⟩ := h1
            simp only [Option.some.injEq, Addr.mk.injEq] at e
            omega
          have hcw9 : w9.cell? ⟨b1, o1 + j, none⟩ = some (.int .i64 wj) := by
            have := (((HR.out.below' HB7.out).below' HB9.out).at' (show 0 < k by omega))
            obtain ⟨b1', o1', e, hlt1, hc⟩ := this
            simp only [Option.some.injEq, Addr.mk.injEq] at e
            obtain ⟨e1, e2, -⟩ := e
            subst e1 e2
            rw [← HWW.out]
            exact hc j hjl
          cases hq : (x == wj) with
          | true =>
            have HDN2 := Lib.hid (HDN.out hq)
            have HGN2 := Lib.hid (HGN.out (.inl hq))
            go_wp2_with (at_builtin; refine append_one_two rfl _ _ _ rfl Try.underlying26 x HT9.out rfl _ rfl rfl hll ?_; intro vA wA hTA hbA; have hcw := HCW.out _ (HB9.out.trans hbA) hb1' hcw9 hbA)
            have HBA := Lib.hid (HB9.out.trans hbA)
            obtain ⟨aA, cA, rfl, -, -⟩ := hTA.one.shape
            rw [← HSU.out, ← HDN2.out] at hTA
            rw [← HSU.out] 
            rw [HLO.out] at hTA ⊢
            have HTA := Lib.hid hTA
            have HLD := Lib.hid (show (difL word OUT (j + 1)).length = ld by rw [HDN2.out]; exact hld.out)
            have HDM := Lib.hid (show dm = n' + 2 * (dmgTo word E OUT (j + 1)).length by rw [HGN2.out]; exact hdm.out)
            clear hTA hbA hcw hcw9
            go_wp2_with fail
            exact ⟨⟨j + 1, _, _, _, _, _, _, _, by omega, rfl, rfl, rfl, by go_num, HLO, HLD, HDM, HTA, HBA⟩, by simp [intOf]; omega⟩
          | false =>
            have HDY2 := Lib.hid (HDY.out hq)
            have HLD := Lib.hid (show (difL word OUT (j + 1)).length = ld + 1 by rw [HDY2.out, List.length_append, hld.out]; rfl)
            go_wp2_with (first | (at_builtin; refine append_one_two rfl _ _ _ rfl Try.underlying26 x HT9.out rfl _ rfl rfl hll ?_; intro vA wA hTA hbA; have hcw := HCW.out _ (HB9.out.trans hbA) hb1' hcw9 hbA) | (at_builtin; refine append_one_two rfl _ _ _ rfl Try.underlying26 (j : Int) hTA.symm rfl _ rfl rfl hll2 ?_; intro vB wB hTB hbB))
            have HBB := Lib.hid ((HB9.out.trans hbA).trans hbB)
            obtain ⟨aA, cA, rfl, -, -⟩ := hTB.two.shape
            obtain ⟨aB, cB, rfl, -, -⟩ := hTB.one.shape
            rw [← HSU.out, ← HDY2.out, HLO.out, HLD.out] at hTB
            rw [← HSU.out, ← HDY2.out, HLO.out, HLD.out]
            have HTB := Lib.hid hTB.symm
            have HHE := Lib.hid (l05Has_any wB (cap := cap') ((HR'.out.below' HB7.out).below' HBB.out) (j : Int))
            clear hTB hbB hTA hbA hcw hcw9 HT9 HB9
            cases hmm : memB E (j : Int) with
            | true =>
              have HGN2 := Lib.hid (HGN.out (.inr hmm))
              have HDM := Lib.hid (show dm = n' + 2 * (dmgTo word E OUT (j + 1)).length by rw [HGN2.out]; exact hdm.out)
              rw [hmm] at HHE
              go_wp2_with fail
              refine HHE.out.mono ?_
              rintro e wC ⟨rfl, rfl⟩
              go_wp2_with fail
              exact ⟨⟨j + 1, _, _, _, _, _, _, _, by omega, rfl, rfl, rfl, by go_num, HLO, HLD, HDM, HTB, HBB⟩, by simp [intOf]; omega⟩
            | false =>
              have HGY2 := Lib.hid (HGY.out hq hmm)
              have HDM := Lib.hid (show dm + 2 = n' + 2 * (dmgTo word E OUT (j + 1)).length by rw [HGY2.out, hdm.out]; omega)
              rw [hmm] at HHE
              go_wp2_with fail
              refine HHE.out.mono ?_
              rintro e wC ⟨rfl, rfl⟩
              go_wp2_with fail
              exact ⟨⟨j + 1, _, _, _, _, dm + 2, _, _, by omega, rfl, rfl, by go_num, by go_num, HLO, HLD, HDM, HTB, HBB⟩, by simp [intOf]; omega⟩
        · obtain rfl : j = k := by omega
          have hjl' : ¬ (j : Int) < (j : Int) := by omega
          have HBj := Lib.hid (HB7.out.trans (hbj.out.mono HB7.out.size))
          rw [HOT.out] at htw hlo
          have HTF := Lib.hid (show Two wr w.heap.size (.slice ao lo co) (.slice ad ld cd) OUT (difL word OUT j) from ⟨htw.out.one.lower HB7.out.size, htw.out.two.lower HB7.out.size, htw.out.dis⟩)
          have HOE := Lib.hid (show VF.els V OUT by rw [← HOT.out]; exact outTo_els HZ.out HCE.out _)
          obtain ⟨_, _, eo, -, hro⟩ := htw.out.one.shape
          simp only [Value.slice.injEq] at eo
          obtain ⟨rfl, -, -⟩ := eo
          rw [hlo.out] at hro
          have HRO := Lib.hid hro.row
          clear hro
          by_cases hdc : dm ≤ C
          · have hdc' : (dm : Int) ≤ (C : Int) := by omega
            have HFB := Lib.hid (show zeroB (syn V.F OUT C) = fixB V j C word E from by
              cases h : fixB V j C word E
              · cases hz : zeroB (syn V.F OUT C)
                · rfl
                · have := HRES2.out.2 (by rw [hlen.out]; have := hdm.out; omega) hz
                  rw [h] at this; cases this
              · exact (HRES2.out.1 h).2.2.2)
            have HEQ := Lib.hid (fun h => (HRES2.out.1 h).2.1)
            have HS := Lib.hid (l04Syndromes_any p pw g j C (by omega) hc2 (SF.hv hs.sf) wr (cap := co) HRO.out (by rw [← hs.sf.hV]; exact HOE.out))
            rw [← hs.sf.hV, Int.toNat_natCast] at HS
            go_wp2_with fail
            refine HS.out.mono ?_
            rintro e w8 ⟨v8, rfl, hb8, a8, c8, rfl, -, h8⟩
            have HZB := Lib.hid (l04Zero_any w8 (cap := c8) h8.row)
            rw [HFB.out] at HZB
            have HB8 := Lib.hid (HBj.out.trans (hb8.mono HBj.out.size))
            have HT8 := Lib.hid (HTF.out.below hb8)
            clear hb8 h8 HFB
            generalize hfb : fixB V j C word E = fb at *
            go_wp2_with fail
            refine HZB.out.mono ?_
            rintro e w9 ⟨rfl, rfl⟩
            go_wp2_with fail
            go_ret3
            exact ⟨_, _, by rw [hfb]; rfl, HB8.out, OUT, difL word OUT j, HT8.out, fun h => ⟨HEQ.out (by rw [← hfb]; exact h), by rw [← HEQ.out (by rw [← hfb]; exact h)]⟩⟩
          · have hdc' : ¬ (dm : Int) ≤ (C : Int) := by omega
            have hf := Lib.hid (show fixB V j C word E = false from by
              cases h : fixB V j C word E
              · rfl
              · have h1 := (HRES2.out.1 h).2.2.1
                have h2 := hdm.out
                rw [hlen.out] at h1; omega)
            go_wp2_with fail
            go_ret3
            exact ⟨_, _, by rw [hf.out]; rfl, HBj.out, OUT, difL word OUT j, HTF.out, fun h => by rw [hf.out] at h; cases h⟩
end Go.Proofs.Ytfhkkpfiflgofaa
