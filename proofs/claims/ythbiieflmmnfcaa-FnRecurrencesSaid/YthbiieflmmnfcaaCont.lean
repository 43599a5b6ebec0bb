/-
  The walks of the two ContinueSequence.
-/
import Derived.Test.YthbiieflmmnfcaaSeqLen
import Derived.Test.YthbiieflmmnfcaaSub
import Derived.Test.YthbiieflmmnfcaaSat
import Derived.Test.YthbiieflmmnfcaaFits
import Derived.Test.YthbiieflmmnfcaaPeel
namespace Go.Proofs.Ythbiieflmmnfcaa
open Go.RowKit
set_option linter.unusedVariables false

theorem smTo_sum (F : FF) (cs zs : List Int) (k i : Nat) : smTo F cs zs k i = sumTo F cs zs k i := by
  induction i with
  | zero => rfl
  | succ i ih => show F.add _ _ = F.add _ _; rw [ih]; rfl
noncomputable def contC (p pw g : Int) (zs : List Int) (c : Int) : Int := if seqC p pw g zs = 0 then (if inR c 0 64 = true then recC p pw g zs else 2) else seqC p pw g zs
open Classical in
/-- The elements that continue a sequence. -/
noncomputable def contR (p pw g : Int) (zs : List Int) (c : Int) : List Int := if contC p pw g zs c = 0 then (contTo (ffOf p pw g) (recR p pw g zs) zs c.toNat).drop zs.length else []
theorem contR_no {p pw g : Int} {zs : List Int} {c : Int} (h : ¬ contC p pw g zs c = 0) : contR p pw g zs c = [] := by unfold contR; rw [if_neg h]
theorem cont_bad {p pw g : Int} {zs : List Int} {c : Int} (h : ¬ seqC p pw g zs = 0) : contC p pw g zs c = seqC p pw g zs ∧ contR p pw g zs c = [] := by
  have : contC p pw g zs c = seqC p pw g zs := by unfold contC; rw [if_neg h]
  exact ⟨this, contR_no (by rw [this]; exact h)⟩
theorem cont_range {p pw g : Int} {zs : List Int} {c : Int} (h : seqC p pw g zs = 0) (h2 : inR c 0 64 = false) : contC p pw g zs c = 2 ∧ contR p pw g zs c = [] := by
  have : contC p pw g zs c = 2 := by unfold contC; rw [if_pos h, h2]; rfl
  exact ⟨this, contR_no (by omega)⟩
theorem cont_state {p pw g : Int} {zs : List Int} {c : Int} (h : seqC p pw g zs = 0) (h2 : inR c 0 64 = true) (h3 : ¬ recC p pw g zs = 0) : contC p pw g zs c = recC p pw g zs ∧ contR p pw g zs c = [] := by
  have : contC p pw g zs c = recC p pw g zs := by unfold contC; rw [if_pos h, if_pos h2]
  exact ⟨this, contR_no (by rw [this]; exact h3)⟩
theorem cont_ok {p pw g : Int} {zs : List Int} {c : Int} (h : seqC p pw g zs = 0) (h2 : inR c 0 64 = true) (h3 : recC p pw g zs = 0) : contC p pw g zs c = 0 ∧ contR p pw g zs c = (contTo (ffOf p pw g) (recR p pw g zs) zs c.toNat).drop zs.length := by
  have : contC p pw g zs c = 0 := by unfold contC; rw [if_pos h, if_pos h2, h3]
  exact ⟨this, by unfold contR; rw [if_pos this]⟩
theorem contR_len (p pw g : Int) (zs : List Int) (c : Int) : (contR p pw g zs c).length ≤ 1048576 := by
  by_cases h : seqC p pw g zs = 0
  · cases h2 : inR c 0 64
    · rw [(cont_range h h2).2]; simp
    · by_cases h3 : recC p pw g zs = 0
      · rw [(cont_ok h h2 h3).2, List.length_drop, contTo_length]
        have := inR_iff.1 h2; omega
      · rw [(cont_state h h2 h3).2]; simp
  · rw [(cont_bad h).2]; simp
/-- What is known where the code is 0. -/
structure RecV (V : VF) (p pw g : Int) (zs : List Int) : Prop where
  seq : SeqV V p pw g zs
  els : VF.els V (recR p pw g zs)
  pos : 0 < (recR p pw g zs).length
  len : (recR p pw g zs).length ≤ zs.length + 1
  F : V.F = ffOf p pw g
theorem recV {p pw g : Int} {zs : List Int} (h : seqC p pw g zs = 0) (h2 : recC p pw g zs = 0) : ∃ V : VF, RecV V p pw g zs := by
  obtain ⟨V, hv⟩ := seqV h
  have hb := bm_ok (V := V) (VF.ps V zs) zs.length
  have e := hv.rec' h2
  refine ⟨V, hv, ?_, ?_, ?_, hv.sf.hV⟩
  · rw [e]; exact (VF.lst_isP hb.now).els
  · rw [e]
    apply Classical.byContradiction; intro h0
    have h1 : VF.lst V (bm V (VF.ps V zs) zs.length).now = [] := List.eq_nil_of_length_eq_zero (by omega)
    have h3 := (VF.lst_nil hb.now).1 h1
    have h4 := hb.one
    rw [h3] at h4
    exact (Fld.one_ne (K := El V)) h4.symm
  · rw [e]
    have h3 := hb.nlen
    have h4 := hb.le
    omega
set_option maxHeartbeats 4000000 in
set_option maxRecDepth 20000 in
theorem implCont_any (p pw g c : Int) (w : World) {a : Option Addr} {n cap : Nat} {zs : List Int} (hr : RowAt w a n zs) (hca : a = none → cap = 0) :
    Calls Try.prog 38 #[fV p pw g, .slice a n cap, .int .i64 c] w fun e w' => ∃ v, e = .returned (.tuple #[v, .int .i64 (contC p pw g zs c)]) ∧ Below w.heap.size w w' ∧ ResL w w' v (contR p pw g zs c) := by
  have HR := Lib.hid hr
  have HCA := Lib.hid hca
  have hl := Lib.hid hr.len
  have HR1 := Lib.hid (hr.below' (below1 w (.cells #[.int .i64 p, .int .i64 pw, .int .i64 g] FT')))
  clear hr hca
  go_enter Try.func38, Try.ntmps38
  go_wp2_with fail
  refine (sequence_any p pw g _ HR1.out).mono ?_
  rintro e w1 ⟨v, rfl, hb1, hcal⟩
  have HCAL := Lib.hid hcal
  have HB1 := Lib.hid ((below1 _ _).trans (hb1.mono (by simp)))
  clear hb1 hcal
  by_cases hq : seqC p pw g zs = 0
  rotate_left
  · have hqn : (seqC p pw g zs != 0) = true := by simp [hq]
    have f := cont_bad (c := c) hq
    have hf0 := Lib.hid f.1
    have hf1 := Lib.hid f.2
    clear hq f
    go_wp2_with fail
    go_ret2
    exact ⟨_, by rw [hf0.out]; rfl, HB1.out, by rw [hf1.out]; exact ResL.none _ _⟩
  have hqn : (seqC p pw g zs != 0) = false := by simp [hq]
  have HQ := Lib.hid hq
  obtain ⟨b, rfl, hbb, hcal⟩ := HCAL.out hq
  obtain ⟨V, hv⟩ := seqV hq
  have HV := Lib.hid hv
  have hn := hv.len
  rw [hl.out] at hn
  have HC := Lib.hid (hv.cal _ _ hcal)
  clear hcal hq hv
  cases hin : inR c 0 64
  · have f := cont_range (c := c) HQ.out hin
    have hf0 := Lib.hid f.1
    have hf1 := Lib.hid f.2
    clear f
    go_wp2_with fail
    refine (inRange_any c 0 64 _).mono ?_
    rintro e w2 ⟨rfl, rfl⟩
    rw [hin]
    go_wp2_with fail
    go_ret2
    exact ⟨_, by rw [hf0.out]; rfl, HB1.out, by rw [hf1.out]; exact ResL.none _ _⟩
  have HIN := Lib.hid hin
  go_wp2_with fail
  refine (inRange_any c 0 64 _).mono ?_
  rintro e w2 ⟨rfl, rfl⟩
  rw [hin]
  obtain ⟨hc0, hc1⟩ := inR_iff.1 hin
  clear hin
  obtain ⟨C, rfl⟩ : ∃ C : Nat, c = (C : Int) := ⟨c.toNat, by omega⟩
  have hM := register_any (cap := cap) HC.out (HR.out.below' HB1.out) hn HV.out.els
  have hL := HV.out.L
  rw [hl.out] at hL
  have hL3 := (bm_ok (V := V) (VF.ps V zs) n).le
  obtain ⟨L, hLL⟩ : ∃ L, (bm V (VF.ps V zs) n).L = L := ⟨_, rfl⟩
  rw [hLL] at hM hL hL3
  have HL := Lib.hid hL
  have q1 : IntKind.i64.wrap (2 * (L : Int)) = 2 * (L : Int) := IntWalk.i64_in _ (by omega)
  clear hL hLL
  go_wp2_with fail
  refine hM.mono ?_
  rintro e w2 ⟨v, rfl, hb2, ho2⟩
  have HB2 := Lib.hid (HB1.out.trans (hb2.mono HB1.out.size))
  have HC2 := Lib.hid (HC.out.below hb2)
  have HO2 := Lib.hid ho2
  clear hb2 hM ho2
  by_cases h2 : 2 * (L : Int) > (n : Int)
  · have f := recC_long (p := p) (pw := pw) (g := g) (zs := zs) HQ.out (by rw [← HL.out, hl.out]; exact h2)
    have f2 := cont_state (c := (C : Int)) HQ.out HIN.out (by rw [f.1]; omega)
    have hf0 := Lib.hid (f2.1.trans f.1)
    have hf1 := Lib.hid f2.2
    have h2' : (n : Int) < 2 * (L : Int) := h2
    clear f f2 h2
    go_wp2_with fail
    go_ret2
    exact ⟨_, by rw [hf0.out]; rfl, HB2.out, by rw [hf1.out]; exact ResL.none _ _⟩
  have f := recC_ok (p := p) (pw := pw) (g := g) (zs := zs) HQ.out (by rw [← HL.out, hl.out]; exact h2)
  have f2 := cont_ok (c := (C : Int)) HQ.out HIN.out f
  have hf0 := Lib.hid f2.1
  have hf1 := Lib.hid f2.2
  have hre := HV.out.rec' f
  rw [hl.out] at hre
  rw [← hre] at HO2
  obtain ⟨V', hrv⟩ := recV HQ.out f
  have hF : V'.F = V.F := hrv.F.trans HV.out.sf.hV.symm
  have HEC := Lib.hid (show VF.els V (recR p pw g zs) from fun z hz => by rw [← hF]; exact hrv.els z hz)
  have hpos := hrv.pos
  have hlen := hrv.len
  rw [hl.out] at hlen
  have HF := Lib.hid HV.out.sf.hV
  have h2' : ¬ (n : Int) < 2 * (L : Int) := h2
  clear f f2 h2 hre hrv hF
  obtain ⟨ap, cp, rfl, -, hop⟩ := HO2.out.shape
  have HOP := Lib.hid hop
  rw [← HF.out] at hf1
  simp only [Int.toNat_natCast] at hf1
  clear hop
  generalize recR p pw g zs = cs at *
  obtain ⟨lp, hlp⟩ : ∃ lp, cs.length = lp + 1 := ⟨cs.length - 1, by omega⟩
  rw [hlp] at hlen HOP ⊢
  have HLP := Lib.hid hlp
  clear hpos hlp
  have HCO := Lib.hid (copyOf_any (HR.out.below' HB2.out) HCA.out (by omega))
  go_wp2_with fail
  refine HCO.out.mono ?_
  rintro e w3 ⟨v3, rfl, hb3, ho3⟩
  obtain ⟨a3, c3, rfl, hc3, -⟩ := ho3.shape
  have HO3 := Lib.hid ho3
  have HC3 := Lib.hid hc3
  have HB3 := Lib.hid hb3
  clear hb3 ho3 hc3
  rw [hl.out] at HO3 ⊢
  have hlz := hl.out
  go_wp2_with fail
  go_loopw [2, 12] (fun vc vo wr => ∃ (m la ca : Nat) (aa : Option Addr), m ≤ C ∧ vc = .int .i64 ((C : Int) - (m : Int)) ∧ vo = .slice aa la ca ∧ Hid (la = n + m) ∧ Hid (aa = none → ca = 0) ∧ Hid (OwnL wr w2.heap.size (.slice aa la ca) (contTo V.F cs zs m)) ∧ Hid (Below w2.heap.size w2 wr)) (fun vc _ _ => (intOf vc).toNat)
  case atStart => exact ⟨0, n, c3, a3, by omega, by simp, rfl, Lib.hid rfl, HC3, HO3, HB3⟩
  case round =>
    obtain ⟨m, la, ca, aa, hm, rfl, rfl, hlm, hna, hoa, hbel⟩ := hrel
    clear HO3 HC3 HB3
    have HOPW := Lib.hid (HOP.out.below hbel.out)
    by_cases hlt : m < C
    · have hgt : (0 : Int) < (C : Int) - (m : Int) := by omega
      obtain ⟨wo, rfl⟩ : ∃ wo : World, wo = wr := ⟨_, rfl⟩
      go_wp2_with fail
      go_loopw [13, 14] (fun vx vi wr => ∃ (i : Nat), 1 ≤ i ∧ i ≤ lp + 1 ∧ vi = .int .i64 i ∧ vx = .int .i64 (subTo V.F cs (contTo V.F cs zs m) (i - 1)) ∧ Hid (Drew wo wr)) (fun _ vi _ => (lp + 2 - intOf vi).toNat)
      case atStart => exact ⟨1, by omega, by omega, rfl, rfl, Lib.hid (Drew.refl _)⟩
      case round =>
        obtain ⟨i, hi1, hi, rfl, rfl, hd⟩ := hrel
        by_cases hi2 : i < lp + 1
        · obtain ⟨bp, op, rfl, _, hcs⟩ := (HOPW.out.row.below' (hd.out.below wo.heap.size)).at' (by omega)
          have hc1 := hcs i (by omega)
          have hlm' := hlm.out
          obtain ⟨_, _, ea, -, hra⟩ := hoa.out.shape
          simp only [Value.slice.injEq] at ea
          obtain ⟨rfl, -, -⟩ := ea
          rw [contTo_length, hl.out, ← hlm.out] at hra
          obtain ⟨ba, oa, rfl, _, hcs2⟩ := (hra.row.below' (hd.out.below wo.heap.size)).at' (by omega)
          have hc2 := hcs2 (la - i) (by omega)
          obtain ⟨J, hJ⟩ : ∃ J, la - i = J := ⟨_, rfl⟩
          have eJ : (la : Int) - (i : Int) = (J : Int) := by omega
          have q2 : (J : Int) < (la : Int) := by omega
          have q3 : IntKind.i64.wrap (J : Int) = (J : Int) := IntWalk.i64_in _ (by omega)
          rw [hJ] at hc2
          have hst := Lib.hid (show subTo V.F cs (contTo V.F cs zs m) (i + 1 - 1) = V.F.add (subTo V.F cs (contTo V.F cs zs m) (i - 1)) (V.F.neg (V.F.mul (gi cs i) (gi (contTo V.F cs zs m) J))) by
            obtain ⟨i', rfl⟩ : ∃ i', i = i' + 1 := ⟨i - 1, by omega⟩
            show V.F.add _ (V.F.neg (V.F.mul (gz cs (i' + 1)) (gz _ _))) = _
            rw [contTo_length, hl.out, ← hlm.out, hJ]; rfl)
          have he0 := subTo_el (V := V) cs (contTo V.F cs zs m) (i - 1)
          have he1 : V.F.el (gi cs i) := HEC.out.getD i
          have he2 : V.F.el (gi (contTo V.F cs zs m) J) := (contTo_els HV.out.els m).getD J
          have HCR := Lib.hid (hd.out.cal (HC2.out.below hbel.out))
          have hmm := FF.mul_el V.ok (gi cs i) (gi (contTo V.F cs zs m) J)
          have HM := Lib.hid (fun q => mul_any (HCR.out.drewN q) _ _ he1 he2)
          have HS := Lib.hid (fun q => sub_any (HCR.out.drewN q) _ _ he0 hmm)
          clear hcs hcs2 hra hJ hlm' he0 he1 he2 hmm
          generalize subTo V.F cs (contTo V.F cs zs m) (i - 1) = s0 at *
          generalize gi cs i = s1 at *
          generalize gi (contTo V.F cs zs m) J = s2 at *
          go_wp2_with fail
          go_quiet (first | (go_at_call 98; exact Calls.quiet_of (HM.out _)) | (go_at_call 97; exact Calls.quiet_of_same ((HS.out _).mono fun e w' h => ⟨h.1, h.2.symm⟩)))
          go_wp2_with fail
          go_roundw
          case rel => exact ⟨i + 1, by omega, by omega, by go_num, by rw [hst.out], Lib.hid (hd.out.more _)⟩
          case measure => simp [intOf]; omega
        · obtain rfl : i = lp + 1 := by omega
          have hnx := subTo_nx (V := V) (zs := contTo V.F cs zs m) HEC.out (contTo_els HV.out.els m) HLP.out (by rw [contTo_length, hl.out]; omega)
          have HNX := Lib.hid hnx
          rw [show lp + 1 - 1 = lp by omega, hnx]
          have HOD := Lib.hid (hoa.out.below (hd.out.below wo.heap.size))
          have hll : (contTo V.F cs zs m).length ≤ 16777216 := by rw [contTo_length, hl.out]; omega
          have HBD := Lib.hid (hbel.out.trans ((hd.out.below wo.heap.size).mono hbel.out.size))
          have hsz := HOD.out.1
          have HST := Lib.hid (show contTo V.F cs zs m ++ [nxI V.F cs (contTo V.F cs zs m)] = contTo V.F cs zs (m + 1) from rfl)
          have HLL := Lib.hid (show (contTo V.F cs zs (m + 1)).length = n + (m + 1) by rw [contTo_length, hl.out])
          generalize nxI V.F cs (contTo V.F cs zs m) = nx at *
          go_wp2_with (at_builtin; refine append_one rfl _ _ _ rfl Try.underlying26 nx HOD.out rfl _ rfl rfl hll ?_; intro v' w5 hown5 hb5)
          have HB5 := Lib.hid (HBD.out.trans hb5)
          rw [HST.out] at hown5
          obtain ⟨a5, c5, rfl, hc5, -⟩ := hown5.shape
          have HO5 := Lib.hid hown5
          have HC5 := Lib.hid hc5
          clear hown5 hb5 hc5
          rw [HLL.out] at HO5 ⊢
          go_wp2_with fail
          have e9 : (C : Int) - (m : Int) - 1 = (C : Int) - ((m + 1 : Nat) : Int) := by omega
          exact ⟨⟨m + 1, _, c5, a5, by omega, by go_num, rfl, Lib.hid rfl, HC5, HO5, HB5⟩, by simp [intOf]; omega⟩
    · obtain rfl : m = C := by omega
      have hla := hlm.out
      obtain ⟨_, _, ea, hcc, _, hra⟩ := hoa.out.cap
      simp only [Value.slice.injEq] at ea
      obtain ⟨rfl, -, rfl⟩ := ea
      rw [contTo_length, hl.out, ← hla] at hra hcc
      obtain ⟨hr6, hc6⟩ := part_row hra.row hna.out n la (by omega) (Nat.le_refl _) hcc
      have HFI := Lib.hid (show ((contTo V.F cs zs m).drop n).take (la - n) = contR p pw g zs (m : Int) by
        rw [hf1.out, hl.out]
        exact List.take_of_length_le (by rw [List.length_drop, contTo_length, hl.out]; omega))
      rw [HFI.out, show la - n = m by omega] at hr6
      have hngt : ¬ (0 : Int) < (m : Int) - (m : Int) := by omega
      have HBF := Lib.hid (HB2.out.trans (hbel.out.mono HB2.out.size))
      have HR6 := Lib.hid hr6
      have HC6 := Lib.hid hc6
      clear hra hcc hr6 hc6
      by_cases hcn : ca = n
      all_goals
        first | rw [if_pos hcn] at HR6 HC6 | rw [if_neg hcn] at HR6 HC6
        go_wp2_with fail
        refine (copyOf_any HR6.out (by first | exact HC6.out | (intro _; rfl)) (by omega)).mono ?_
        rintro e w6 ⟨v6, rfl, hb6, ho6⟩
        have HB6 := Lib.hid (HBF.out.trans (hb6.mono HBF.out.size))
        have HO6 := Lib.hid (ho6.res (w := w) HBF.out.size)
        clear hb6 ho6
        go_wp2_with fail
        go_ret2
        exact ⟨_, by rw [hf0.out]; rfl, HB6.out, HO6.out⟩
theorem set_last (l : List Int) (x y : Int) : (l ++ [x]).set l.length y = l ++ [y] := by
  rw [List.set_append_right _ _ (Nat.le_refl _), Nat.sub_self]; rfl
set_option maxHeartbeats 4000000 in
set_option maxRecDepth 20000 in
theorem specCont_any (p pw g c : Int) (w : World) {a : Option Addr} {n cap : Nat} {zs : List Int} (hr : RowAt w a n zs) (hca : a = none → cap = 0) :
    Calls Try.prog 39 #[fV p pw g, .slice a n cap, .int .i64 c] w fun e w' => ∃ v, e = .returned (.tuple #[v, .int .i64 (contC p pw g zs c)]) ∧ Below w.heap.size w w' ∧ ResL w w' v (contR p pw g zs c) := by
  have HR := Lib.hid hr
  have HCA := Lib.hid hca
  have hl := Lib.hid hr.len
  have HR1 := Lib.hid (hr.below' (below1 w (.cells #[.int .i64 p, .int .i64 pw, .int .i64 g] FT')))
  clear hr hca
  go_enter Try.func39, Try.ntmps39
  go_wp2_with fail
  refine (l06Code_any p pw g _ HR1.out).mono ?_
  rintro e w1 ⟨rfl, hb1⟩
  have HX1 := Lib.hid ((box_new w p pw g FT').below hb1 (by simp))
  have HB1 := Lib.hid ((below1 _ _).trans (hb1.mono (by simp)))
  clear hb1
  by_cases hq : seqC p pw g zs = 0
  rotate_left
  · have hqn : (seqC p pw g zs != 0) = true := by simp [hq]
    have hqe : (seqC p pw g zs == 0) = false := by simp [hq]
    have f := cont_bad (c := c) hq
    have hf0 := Lib.hid f.1
    have hf1 := Lib.hid f.2
    clear hq f
    go_wp2_with fail
    go_ret2
    exact ⟨_, by rw [hf0.out]; rfl, HB1.out, by rw [hf1.out]; exact ResL.none _ _⟩
  have HQ := Lib.hid hq
  rw [hq]
  obtain ⟨V, hv⟩ := seqV hq
  have HV := Lib.hid hv
  have hn := hv.len
  rw [hl.out] at hn
  clear hq hv
  cases hin : inR c 0 64
  · have f := cont_range (c := c) HQ.out hin
    have hf0 := Lib.hid f.1
    have hf1 := Lib.hid f.2
    clear f
    go_wp2_with fail
    refine (l01In_any c 0 64 _).mono ?_
    rintro e w2 ⟨rfl, rfl⟩
    rw [hin]
    go_wp2_with fail
    go_ret2
    exact ⟨_, by rw [hf0.out]; rfl, HB1.out, by rw [hf1.out]; exact ResL.none _ _⟩
  have HIN := Lib.hid hin
  go_wp2_with fail
  refine (l01In_any c 0 64 _).mono ?_
  rintro e w2 ⟨rfl, rfl⟩
  rw [hin]
  obtain ⟨hc0, hc1⟩ := inR_iff.1 hin
  clear hin
  obtain ⟨C, rfl⟩ : ∃ C : Nat, c = (C : Int) := ⟨c.toNat, by omega⟩
  obtain ⟨hlt1, c0, c1, c2⟩ := HX1.out
  have HREC := Lib.hid (specRecurrence_any p pw g w1 (cap := cap) (HR.out.below' HB1.out))
  go_wp2_with fail
  refine HREC.out.mono ?_
  rintro e w2 ⟨v2, rfl, hb2, ho2⟩
  have HB2 := Lib.hid (HB1.out.trans (hb2.mono HB1.out.size))
  have HX2 := Lib.hid (HX1.out.below hb2 hlt1)
  have HO2 := Lib.hid ho2
  clear hb2 ho2 c0 c1 c2
  by_cases h3 : recC p pw g zs = 0
  rotate_left
  · have f := cont_state (c := (C : Int)) HQ.out HIN.out h3
    have hf0 := Lib.hid f.1
    have hf1 := Lib.hid f.2
    have h3' : (recC p pw g zs != 0) = true := by simp [h3]
    clear f h3
    go_wp2_with fail
    go_ret2
    exact ⟨_, by rw [hf0.out]; rfl, HB2.out, by rw [hf1.out]; exact ResL.none _ _⟩
  rw [h3]
  have f2 := cont_ok (c := (C : Int)) HQ.out HIN.out h3
  have hf0 := Lib.hid f2.1
  have hf1 := Lib.hid f2.2
  obtain ⟨V', hrv⟩ := recV HQ.out h3
  have hF : V'.F = V.F := hrv.F.trans HV.out.sf.hV.symm
  have HEC := Lib.hid (show VF.els V (recR p pw g zs) from fun z hz => by rw [← hF]; exact hrv.els z hz)
  have hlen := hrv.len
  rw [hl.out] at hlen
  have HF := Lib.hid HV.out.sf.hV
  clear f2 h3 hrv hF
  obtain ⟨ap, cp, rfl, -, hop⟩ := HO2.out
  have HOP := Lib.hid hop.row
  rw [← HF.out] at hf1
  simp only [Int.toNat_natCast] at hf1
  clear hop HO2
  generalize recR p pw g zs = cs at *
  obtain ⟨lp, hlp⟩ : ∃ lp, cs.length = lp := ⟨_, rfl⟩
  rw [hlp] at hlen HOP ⊢
  have HLP := Lib.hid hlp
  clear hlp
  have HCO := Lib.hid (l01Own_any (HR.out.below' HB2.out) HCA.out (by omega))
  go_wp2_with fail
  refine HCO.out.mono ?_
  rintro e w3 ⟨v3, rfl, hb3, ho3⟩
  obtain ⟨a3, c3, rfl, hc3, -⟩ := ho3.shape
  have HO3 := Lib.hid ho3
  have HC3 := Lib.hid hc3
  have HB3 := Lib.hid hb3
  have HX3 := Lib.hid (HX2.out.below hb3 HX2.out.lt)
  clear hb3 ho3 hc3
  rw [hl.out] at HO3 ⊢
  have hlz := hl.out
  go_wp2_with fail
  go_loopw [11, 12] (fun vo vc wr => ∃ (m la ca : Nat) (aa : Option Addr), m ≤ C ∧ vc = .int .i64 m ∧ vo = .slice aa la ca ∧ Hid (la = n + m) ∧ Hid (aa = none → ca = 0) ∧ Hid (OwnL wr w2.heap.size (.slice aa la ca) (contTo V.F cs zs m)) ∧ Hid (Below w2.heap.size w2 wr) ∧ Hid (Box wr w.heap.size p pw g)) (fun _ vc _ => (C - intOf vc).toNat)
  case atStart => exact ⟨0, n, c3, a3, by omega, rfl, rfl, Lib.hid rfl, HC3, HO3, HB3, HX3⟩
  case round =>
    obtain ⟨m, la, ca, aa, hm, rfl, rfl, hlm, hna, hoa, hbel, hbox⟩ := hrel
    clear HO3 HC3 HB3 HX3
    by_cases hlt : m < C
    · have hll : (contTo V.F cs zs m).length ≤ 16777216 := by rw [contTo_length, hl.out]; omega
      have hlm' := hlm.out
      have HCE := Lib.hid (contTo_els (cs := cs) HV.out.els m)
      have HNX := Lib.hid (show nxI V.F cs (contTo V.F cs zs m) = V.F.neg (sumTo V.F cs (contTo V.F cs zs m ++ [0]) la (min lp (la + 1))) by
        unfold nxI; rw [smTo_sum, contTo_length, hl.out, HLP.out, hlm'])
      have HST := Lib.hid (show contTo V.F cs zs m ++ [nxI V.F cs (contTo V.F cs zs m)] = contTo V.F cs zs (m + 1) from rfl)
      have HLL := Lib.hid (show (contTo V.F cs zs m).length = la by rw [contTo_length, hl.out, hlm'])
      have HLL2 := Lib.hid (show (contTo V.F cs zs (m + 1)).length = la + 1 by rw [contTo_length, hl.out, hlm']; omega)
      have HXE := Lib.hid (smTo_el (V := V) cs (contTo V.F cs zs m ++ [0]) la (min lp (la + 1)))
      rw [smTo_sum] at HXE
      have hla2 : la ≤ 128 := by omega
      clear hlm'
      generalize contTo V.F cs zs m = l0 at *
      obtain ⟨l1, hl1⟩ : ∃ l1, contTo V.F cs zs (m + 1) = l1 := ⟨_, rfl⟩
      rw [hl1] at HST HLL2
      have HL1 := Lib.hid hl1
      clear hl1
      have hlen5 : (l0 ++ [0]).length = la + 1 := by rw [List.length_append, HLL.out]; rfl
      go_wp2_with (at_builtin; refine append_one rfl _ _ _ rfl Try.underlying26 0 hoa.out rfl _ rfl rfl hll ?_; intro v' w5 hown5 hb5; obtain ⟨ga, c5, cur, rfl, hga, hgl, -, hcc5, -⟩ := hown5.form (by rw [hlen5]; omega); rw [hlen5] at hown5 hcc5 ⊢)
      have HB5 := Lib.hid (hbel.out.trans hb5)
      have HX5 := Lib.hid (hbox.out.below hb5 (by have := hbox.out.lt; have := HX2.out.lt; omega))
      have HO5 := Lib.hid hown5
      clear hown5 hb5
      have HSM := Lib.hid (fun W (hb : Below w5.heap.size w5 W) => l06Sum_any p pw g (SF.hv HV.out.sf) (cap := c5) (cap' := cp) (hr := (show RowAt W (some ⟨ga, 0, none⟩) (la + 1) (l0 ++ [0]) from by
        obtain ⟨_, _, e9, -, h9⟩ := (HO5.out.below hb).shape
        simp only [Value.slice.injEq] at e9
        obtain ⟨rfl, -, -⟩ := e9
        rw [hlen5] at h9; exact h9.row)) (hr' := (HOP.out.below' HB5.out).below' hb) (by rw [← HF.out]; exact VF.els_append.2 ⟨HCE.out, fun z h => by simp at h; subst h; exact FF.zero_el V.ok⟩) (by rw [← HF.out]; exact HEC.out) la (by omega) (by omega) (min lp (la + 1)) rfl)
      rw [← HF.out] at HSM
      have HN := Lib.hid (fun W => HV.out.sf.neg (sumTo V.F cs (l0 ++ [0]) la (min lp (la + 1))) HXE.out W)
      rw [← HNX.out] at HN
      generalize sumTo V.F cs (l0 ++ [0]) la (min lp (la + 1)) = sm at *
      generalize nxI V.F cs l0 = nx at *
      have HPL := Lib.hid (show ∀ W, Below w5.heap.size w5 W → W.cell? ⟨ga, la, none⟩ = some (.int .i64 0) ∧ W.frozen? ⟨ga, la, none⟩ = false from fun W hb => by
        obtain ⟨_, _, e9, -, h9⟩ := (HO5.out.below hb).shape
        simp only [Value.slice.injEq] at e9
        obtain ⟨rfl, -, -⟩ := e9
        obtain ⟨hp, hfz, _⟩ := h9.place (i := la) (by rw [hlen5]; omega)
        refine ⟨?_, hfz⟩
        rw [hp]
        have : gi (l0 ++ [0]) la = 0 := by rw [← gz_gi, gz_snoc]; unfold gz; rw [List.getD_eq_getElem?_getD, List.getElem?_eq_none (by rw [HLL.out]; exact Nat.le_refl _)]; rfl
        rw [this])
      have hne1 : ¬ ga = w.heap.size := by have := HX2.out.lt; omega
      have hne2 : ¬ w.heap.size = ga := by omega
      obtain ⟨_, c0, c1, c2⟩ := HX5.out
      have qlt : (la : Int) < (la : Int) + 1 := by omega
      go_wp2_with fail
      refine wp_region_last (S := (fun w' => w'.cell? ⟨w.heap.size, 0, none⟩ = some (.int .i64 p) ∧ w'.cell? ⟨w.heap.size, 1, none⟩ = some (.int .i64 pw) ∧ w'.cell? ⟨w.heap.size, 2, none⟩ = some (.int .i64 g))) 10 (by kernel_rfl) rfl (by kernel_rfl) ?_ (fun hHeld => ?_)
      · (try dsimp only); exact ⟨c0, c1, c2⟩
      simp only [List.take_succ_cons, List.take_zero]
      refine wpAnyH_take (i := 0) (oi := _) (v := ?_) rfl (by kernel_rfl) (by kernel_rfl) (by kernel_rfl) (fun _ _ _ h => h) (Or.inl ⟨by rfl, ?_⟩) hHeld ?_
      rotate_left
      · intro w0 hSw; (try dsimp only at hSw); go_simp; (try with_reducible rfl)
      (try dsimp only [Act.put, List.setIfInBounds_toArray, List.set_cons_zero, List.set_cons_succ])
      refine wpAnyH_take (i := 1) (oi := _) (v := ?_) rfl (by kernel_rfl) (by kernel_rfl) (by kernel_rfl) (fun _ _ _ h => h) (Or.inl ⟨by rfl, ?_⟩) hHeld ?_
      rotate_left
      · intro w0 hSw; (try dsimp only at hSw); go_simp; (try with_reducible rfl)
      (try dsimp only [Act.put, List.setIfInBounds_toArray, List.set_cons_zero, List.set_cons_succ])
      refine wpAnyH_take (i := 2) (oi := _) (v := ?_) rfl (by kernel_rfl) (by kernel_rfl) (by kernel_rfl) (fun _ _ _ h => h) (Or.inl ⟨by rfl, ?_⟩) hHeld ?_
      rotate_left
      · intro w0 hSw; (try dsimp only at hSw); go_simp; (try with_reducible rfl)
      (try dsimp only [Act.put, List.setIfInBounds_toArray, List.set_cons_zero, List.set_cons_succ])
      refine wpAnyH_take (i := 3) (oi := _) (v := ?_) rfl (by kernel_rfl) (by kernel_rfl) (by kernel_rfl) (fun _ _ _ h => h) (Or.inl ⟨by rfl, ?_⟩) hHeld ?_
      rotate_left
      · intro w0 hSw; (try dsimp only at hSw); go_simp; (try with_reducible rfl)
      (try dsimp only [Act.put, List.setIfInBounds_toArray, List.set_cons_zero, List.set_cons_succ])
      refine wpAnyH_take (i := 4) (oi := _) (v := ?_) rfl (by kernel_rfl) (by kernel_rfl) (by kernel_rfl) (fun _ _ _ h => h) (Or.inl ⟨by rfl, ?_⟩) hHeld ?_
      rotate_left
      · intro w0 hSw; (try dsimp only at hSw); go_simp; (try with_reducible rfl)
      (try dsimp only [Act.put, List.setIfInBounds_toArray, List.set_cons_zero, List.set_cons_succ])
      refine wpAnyH_take (i := 5) (oi := _) (v := ?_) rfl (by kernel_rfl) (by kernel_rfl) (by kernel_rfl) (fun _ _ _ h => h) (Or.inl ⟨by rfl, ?_⟩) hHeld ?_
      rotate_left
      · intro w0 hSw; (try dsimp only at hSw); go_simp; (try with_reducible rfl)
      (try dsimp only [Act.put, List.setIfInBounds_toArray, List.set_cons_zero, List.set_cons_succ])
      refine wpAnyH_take (i := 6) (oi := _) (v := ?_) rfl (by kernel_rfl) (by kernel_rfl) (by kernel_rfl) (fun _ _ _ h => h) (Or.inl ⟨by rfl, ?_⟩) hHeld ?_
      rotate_left
      · intro w0 hSw; (try dsimp only at hSw); go_simp; (try with_reducible rfl)
      (try dsimp only [Act.put, List.setIfInBounds_toArray, List.set_cons_zero, List.set_cons_succ])
      refine wpAnyH_ready (rs := [7]) (by kernel_rfl) (by simp) ?_
      refine AllReadyH.cons (o := _) rfl (fun K hK => ?_) AllReadyH.nil
      go_simp
      refine (HSM.out _ (Drew.below (drew1 w5) _)).mono ?_
      rintro e w6 ⟨rfl, hbS⟩
      have hb6 := Below.trans (Drew.below (drew1 w5) w5.heap.size) hbS
      go_wp2_with fail
      refine hK.out _ _ ?_ (fun hHeld => ?_)
      · (try dsimp only); exact ⟨keep_cell hbS hHeld.1, keep_cell hbS hHeld.2.1, keep_cell hbS hHeld.2.2⟩
      clear hK K
      (try dsimp only [Act.put, List.setIfInBounds_toArray, List.set_cons_zero, List.set_cons_succ])
      refine wpAnyH_ready (rs := [8]) (by kernel_rfl) (by simp) ?_
      refine AllReadyH.cons (o := _) rfl (fun K hK => ?_) AllReadyH.nil
      go_simp
      refine (HN.out _).mono ?_
      rintro e w7 ⟨rfl, hbN⟩
      have hb7 := Below.more hb6 (Nat.le_refl _) hbN
      obtain ⟨hp7, hf7⟩ := HPL.out w7 hb7
      go_wp2_with fail
      refine hK.out _ _ ?_ (fun hHeld => ?_)
      · (try dsimp only); exact ⟨keep_cell hbN hHeld.1, keep_cell hbN hHeld.2.1, keep_cell hbN hHeld.2.2⟩
      clear hK K
      (try dsimp only [Act.put, List.setIfInBounds_toArray, List.set_cons_zero, List.set_cons_succ])
      refine wpAnyH_take (i := 9) (oi := _) (v := ?_) rfl (by kernel_rfl) (by kernel_rfl) (by kernel_rfl) (fun _ _ _ h => h) (Or.inl ⟨by rfl, ?_⟩) hHeld ?_
      rotate_left
      · intro w0 hSw; (try dsimp only at hSw); go_simp; (try with_reducible rfl)
      (try dsimp only [Act.put, List.setIfInBounds_toArray, List.set_cons_zero, List.set_cons_succ])
      refine wpAnyH_done (by kernel_rfl) (lastQ_normal ?_) _
      have HB7 := Lib.hid (HB5.out.trans (hb7.mono HB5.out.size))
      have HO7 := Lib.hid (show OwnL (w7.setCell ⟨ga, la, none⟩ (.int .i64 nx)) w2.heap.size (.slice (some ⟨ga, 0, none⟩) (la + 1) c5) l1 by
        have := (HO5.out.below hb7).set (k := la) (by rw [hlen5]; omega) nx
        have e := set_last l0 0 nx
        rw [HLL.out] at e
        rw [e, HST.out] at this
        exact this)
      have HB8 := Lib.hid (HB7.out.setCell (p := ⟨ga, la, none⟩) hga (.int .i64 nx))
      have HX8 := Lib.hid (show Box (w7.setCell ⟨ga, la, none⟩ (.int .i64 nx)) w.heap.size p pw g from (HX5.out.below hb7 HX5.out.lt).below (C := ga) ((Below.refl _ _).setCell (p := ⟨ga, la, none⟩) (Nat.le_refl _) (.int .i64 nx)) (by have := HX2.out.lt; omega))
      clear hbN hbS hb6 hb7 c0 c1 c2 hHeld
      go_wp2_with fail
      go_roundw
      case rel => exact ⟨m + 1, _, c5, _, by omega, by go_num, rfl, Lib.hid (by have := hlm.out; omega), Lib.hid (fun h => by cases h), Lib.hid (by rw [HL1.out]; exact HO7.out), HB8, HX8⟩
      case measure => simp [intOf]; omega
    · obtain rfl : m = C := by omega
      have hla := hlm.out
      obtain ⟨_, _, ea, hcc, _, hra⟩ := hoa.out.cap
      simp only [Value.slice.injEq] at ea
      obtain ⟨rfl, -, rfl⟩ := ea
      rw [contTo_length, hl.out, ← hla] at hra hcc
      obtain ⟨hr6, hc6⟩ := part_row hra.row hna.out n la (by omega) (Nat.le_refl _) hcc
      have HFI := Lib.hid (show ((contTo V.F cs zs m).drop n).take (la - n) = contR p pw g zs (m : Int) by
        rw [hf1.out, hl.out]
        exact List.take_of_length_le (by rw [List.length_drop, contTo_length, hl.out]; omega))
      rw [HFI.out, show la - n = m by omega] at hr6
      have HBF := Lib.hid (HB2.out.trans (hbel.out.mono HB2.out.size))
      have HR6 := Lib.hid hr6
      have HC6 := Lib.hid hc6
      clear hra hcc hr6 hc6
      by_cases hcn : ca = n
      all_goals
        first | rw [if_pos hcn] at HR6 HC6 | rw [if_neg hcn] at HR6 HC6
        go_wp2_with fail
        refine (l01Own_any HR6.out (by first | exact HC6.out | (intro _; rfl)) (by omega)).mono ?_
        rintro e w6 ⟨v6, rfl, hb6, ho6⟩
        have HB6 := Lib.hid (HBF.out.trans (hb6.mono HBF.out.size))
        have HO6 := Lib.hid (ho6.res (w := w) HBF.out.size)
        clear hb6 ho6
        go_wp2_with fail
        go_ret2
        exact ⟨_, by rw [hf0.out]; rfl, HB6.out, HO6.out⟩
end Go.Proofs.Ythbiieflmmnfcaa
