/-
  The parts Euc, Euc2.
-/
import Derived.Test.YtfhkkpfiflgofaaEucP
import Derived.Test.YtfhkkpfiflgofaaVals
import Derived.WalkMore
/-
  The walks of modified, euclid and l05Euclid.
-/
namespace Go.Proofs.Ytfhkkpfiflgofaa
open Go.RowKit
set_option linter.unusedVariables false

theorem RowAt.takeN {w : World} {a : Option Addr} {n : Nat} {zs : List Int} (h : RowAt w a n zs) {k : Nat} (hk : k ≤ n) : RowAt w a k (zs.take k) :=
  ⟨by rw [List.length_take, h.len]; omega, by have := h.small; omega, fun h0 => by
    obtain ⟨b, off, e, hb, hc⟩ := h.at' (by omega)
    exact ⟨b, off, e, hb, fun j hj => by rw [gi_take hj]; exact hc j (by omega)⟩⟩
theorem RowAt.trim {w : World} {a : Option Addr} {n : Nat} {zs : List Int} (h : RowAt w a n zs) : RowAt w a (VF.tlen zs n) (VF.trim zs) := by
  have := h.takeN (VF.tlen_le zs n)
  unfold VF.trim; rw [h.len]; exact this
set_option maxHeartbeats 2000000 in
theorem modified_any {V : VF} {p pw g c : Int} {L : Nat} (hs : SC V p pw g L c) {w : World} {b : Nat} (hcod : Cod w b p pw g L c) {a : Option Addr} {n cap : Nat} {S : List Int} (hr : RowAt w a n S) (hcap : n ≤ cap) (hz : VF.els V S) (hn : (n : Int) = c)
    {a' : Option Addr} {n' cap' : Nat} {E : List Int} (hr' : RowAt w a' n' E) (hris : RisTo 0 ((L : Int) - 1) E n') :
    Calls Try.prog 165 #[.pointer (some ⟨b, 0, none⟩), .slice a n cap, .slice a' n' cap'] w fun e w' => ∃ v, e = .returned v ∧ Below w.heap.size w w' ∧ OwnL w' w.heap.size v (omL V L n S E) := by
  obtain ⟨_, hc1, hc2, hcl, hl1, hlz⟩ := validC_iff hs.valid
  obtain rfl : c = (n : Int) := hn.symm
  have HCOD := Lib.hid hcod
  have HR := Lib.hid hr
  have HZ := Lib.hid hz
  have HR' := Lib.hid hr'
  have HRIS := Lib.hid hris
  have hlen := Lib.hid hr'.len
  have hSl := Lib.hid hr.len
  have hnl : (n' : Int) ≤ L := by
    have := hris
    rw [← hr'.len] at this
    have := ris_len this (by omega)
    have := hr'.len; omega
  clear hr hr' hris hz
  obtain ⟨bc, hc0, hcal⟩ := hcod.calV hs.sf
  have hck := hcod.chk
  have HCAL := Lib.hid hcal
  have HT := Lib.hid (fun W (hd : Drew w W) => trim_any (hd.row HR.out) hcap)
  have HLO := Lib.hid (fun W (hb : Below w.heap.size w W) => locatorPoly_any hs.sf (HCOD.out.below hb) hl1 (cap := cap') (HR'.out.below' hb) (by omega) HRIS.out)
  have HLE := Lib.hid (VF.lst_isP (locP_poly V (L : Int) E)).els
  have HLP := Lib.hid (VF.lst_eq (locP_poly V (L : Int) E))
  have hlp := locP_len V (L : Int) E
  rw [hlen.out] at hlp
  have HTE := Lib.hid (trim_els HZ.out)
  have htl : VF.tlen S n ≤ n := VF.tlen_le S n
  have hml := VF.lst_mul_len (V := V) (VF.trim S) (VF.lst V (locP V (L : Int) E))
  rw [VF.trim_length, hSl.out] at hml
  have HTM := Lib.hid (fun W (hb : Below w.heap.size w W) (a7 : Option Addr) (n7 c7 : Nat) (h7 : RowAt W a7 n7 (VF.lst V (locP V (L : Int) E))) (hn7 : n7 ≤ 4000) => times_any (V := V) (HCAL.out.below hb) (cap := cap) ((HR.out.trim).below' hb) (by omega) (cap' := c7) h7 (by omega) HTE.out HLE.out)
  rw [HLP.out] at HTM hml
  obtain ⟨ll, hll⟩ : ∃ ll, (VF.lst V (locP V (L : Int) E)).length = ll := ⟨_, rfl⟩
  rw [hll] at hlp hml
  have HLL := Lib.hid hll
  have HOM := Lib.hid (show omL V L n S E = VF.trim ((VF.lst V (VF.ps V (VF.trim S) * locP V (L : Int) E)).take n) from rfl)
  clear hcal hll hcod
  generalize VF.lst V (VF.ps V (VF.trim S) * locP V (L : Int) E) = pm at *
  generalize VF.tlen S n = tl at *
  go_enter Try.func165, Try.ntmps165
  go_wp2_with fail
  go_region_held3 (fun w' => w'.cell? ⟨b, 0, none⟩ = some (.pointer (some ⟨bc, 0, none⟩)))
    (first | go_keep | ((try (dsimp only)); (first | go_keep | exact keep_cell hbM (by assumption) | exact keep_cell hbL (by assumption))))
    (first | (go_at_call 114; refine (HT.out _ (drew1 w)).mono ?_; rintro e w3 ⟨rfl, rfl⟩) | (go_at_call 168; refine (HLO.out _ (Drew.below (drew1 w) _)).mono ?_; rintro e w4 ⟨v4, rfl, hbL, hoL⟩; have hb4 := Below.more (Drew.below (drew1 w) w.heap.size) (Nat.le_refl _) hbL; obtain ⟨a4, c4, rfl, -, h4⟩ := hoL.shape; rw [HLL.out] at h4 ⊢) | (go_at_call 154; refine (HTM.out _ hb4 a4 _ c4 h4.row ?_).mono ?_; (first | omega | skip); rintro e w5 ⟨v5, rfl, hbM, hoM⟩))
  all_goals
    have hb5 := Below.more hb4 (Nat.le_refl _) hbM
    have HB5 := Lib.hid hb5
    have hck5 := (HCOD.out.below hb5).chk
    obtain ⟨a5, c5, rfl, hcc5, hnc5, ho5⟩ := hoM.cap
    have HO5 := Lib.hid (hoM.lower (C := w.heap.size) hb4.size)
    obtain ⟨m5, hm5⟩ : ∃ m5, pm.length = m5 := ⟨_, rfl⟩
    rw [hm5] at ho5 hcc5 HO5 hml ⊢
    have HM5 := Lib.hid hm5
    have HR5 := Lib.hid ho5.row
    clear hbL hoL hbM hoM hb4 h4 hb5 hck hc0 hm5 ho5 HT HLO HTM
    by_cases hlong : n < m5
    · have hlong' : (n : Int) < (m5 : Int) := by omega
      have HTR := Lib.hid (trim_any (cap := c5) (HR5.out.takeN (show n ≤ m5 by omega)) (by omega))
      have HOF := Lib.hid (show OwnL w5 w.heap.size (.slice a5 (VF.tlen (pm.take n) n) c5) (omL V L n S E) by
        have h1 := HO5.out.takeN (k := n) (by omega)
        have h2 := h1.takeN (k := VF.tlen (pm.take n) n) (VF.tlen_le _ _)
        rw [HOM.out]
        unfold VF.trim
        rw [show (pm.take n).length = n by rw [List.length_take, HM5.out]; omega]
        exact h2)
      go_wp2_with fail
      refine HTR.out.mono ?_
      rintro e w6 ⟨rfl, rfl⟩
      go_wp2_with fail
      go_ret
      exact ⟨_, rfl, HB5.out, HOF.out⟩
    · have hlong' : ¬ (n : Int) < (m5 : Int) := by omega
      have HTR := Lib.hid (trim_any (cap := c5) HR5.out hcc5)
      have HOF := Lib.hid (show OwnL w5 w.heap.size (.slice a5 (VF.tlen pm m5) c5) (omL V L n S E) by
        have h2 := HO5.out.takeN (k := VF.tlen pm m5) (VF.tlen_le _ _)
        rw [HOM.out, List.take_of_length_le (by rw [HM5.out]; omega)]
        unfold VF.trim
        rw [HM5.out]
        exact h2)
      go_wp2_with fail
      refine HTR.out.mono ?_
      rintro e w6 ⟨rfl, rfl⟩
      go_wp2_with fail
      go_ret
      exact ⟨_, rfl, HB5.out, HOF.out⟩
theorem omL_isP {V : VF} (l : Int) (c : Nat) (S E : List Int) : VF.isP V (omL V l c S E) := VF.isP_trim ((VF.lst_isP ((VF.ps_poly _).mul (locP_poly V l E))).els.take _)
theorem omL_len (V : VF) (l : Int) (c : Nat) (S E : List Int) : (omL V l c S E).length ≤ c := by
  unfold omL; rw [VF.trim_length]
  exact Nat.le_trans (VF.tlen_le _ _) (by rw [List.length_take]; omega)
/-- x^c. -/
def xcL (c : Nat) : List Int := List.replicate c 0 ++ [1]
theorem xcL_length (c : Nat) : (xcL c).length = c + 1 := by unfold xcL; simp
theorem xcL_set (c : Nat) : (List.replicate (c + 1) (0 : Int)).set c 1 = xcL c := by
  unfold xcL
  rw [List.replicate_succ', List.set_append_right _ _ (by simp)]
  simp
theorem EI.start {V : VF} (c : Nat) {sl : List Int} (hs : VF.isP V sl) (hl : sl.length ≤ c) : EI V c (VF.ps V sl) (xcL c) sl (VF.ps V []) (VF.ps V [1]) := by
  have e1 : VF.ps V [1] = 1 := by rw [VF.ps_single, VF.of_one, PS.C_one]
  have e2 : VF.ps V (xcL c) = (PS.X : PS (El V)) ^ c := by unfold xcL; rw [VF.ps_shift, e1]; show (PS.X : PS (El V)) ^ c * 1 = _; grind
  rw [e1, VF.ps_nil]
  refine ⟨VF.isP_shift (one_isP V) (by simp) c, hs, by rw [xcL_length]; omega, by rw [xcL_length]; omega, PS.isPoly_zero, PS.isPoly_one, PS.dlt_zero _, by rw [xcL_length, show c + 2 - (c + 1) = 1 by omega]; exact PS.dlt_one, 1, 0, PS.isPoly_one, PS.isPoly_zero, by rw [e2]; grind, by grind, .inl (by grind)⟩
/-- What Euclid's algorithm hands back. -/
def EucOk (V : VF) (L c : Nat) (S E zs : List Int) : Prop := VF.isP V zs ∧ ∃ (a b : List Int) (u : PS (El V)), EI V c (VF.ps V (omL V L c S E)) a b u (VF.ps V zs) ∧ b.length ≤ (c + E.length + 1) / 2 ∧ (c + E.length + 1) / 2 < a.length
theorem euc_poly {V : VF} (q u v : List Int) : (VF.ps V u - VF.ps V q * VF.ps V v).IsPoly := (VF.ps_poly u).sub ((VF.ps_poly q).mul (VF.ps_poly v))
end Go.Proofs.Ytfhkkpfiflgofaa
/-
  The walk of the program's euclid.
-/
namespace Go.Proofs.Ytfhkkpfiflgofaa
open Go.RowKit
set_option linter.unusedVariables false

open Classical in
/-- A polynomial, scaled so that it starts with 1. -/
noncomputable def eucN (V : VF) (zs : List Int) : List Int := if zs = [] ∨ gi zs 0 = 0 then [] else VF.lst V (VF.xp V 0 * (PS.C (VF.of V (V.F.inv (gi zs 0))) * VF.ps V zs))
theorem eucN_no {V : VF} {zs : List Int} (h : zs = [] ∨ gi zs 0 = 0) : eucN V zs = [] := by unfold eucN; rw [if_pos h]
theorem eucN_yes {V : VF} {zs : List Int} (h : ¬ (zs = [] ∨ gi zs 0 = 0)) : eucN V zs = VF.lst V (VF.xp V 0 * (PS.C (VF.of V (V.F.inv (gi zs 0))) * VF.ps V zs)) := by unfold eucN; rw [if_neg h]
theorem xpmul_dlt2 {V : VF} {f : PS (El V)} {m : Nat} (h : f.dlt m) (s : Nat) : PS.dlt (VF.xp V s * f) (s + m) := fun i hi => by
  unfold VF.xp
  rw [VF.X_pow_mul_c, if_pos (by omega)]
  exact h _ (by omega)
theorem euc_next2 {V : VF} (q u v : List Int) :
    VF.lst V (VF.ps V u + VF.ps V (VF.lst V (VF.xp V 0 * (PS.C (VF.of V (V.F.neg 1)) * VF.ps V (VF.lst V (VF.ps V q * VF.ps V v)))))) = VF.lst V (VF.ps V u - VF.ps V q * VF.ps V v) := by
  have e1 := VF.lst_eq (V := V) (VF.mulL (p := q) (q := v))
  have e2 : VF.of V (V.F.neg 1) = -1 := by rw [VF.of_neg (FF.one_el V.ok), VF.of_one]
  have hp : (VF.xp V 0 * (PS.C (-1) * (VF.ps V q * VF.ps V v))).IsPoly := (xp_poly 0).mul ((PS.isPoly_C _).mul VF.mulL)
  rw [e1, e2, VF.lst_eq hp, xp_zero, PS.C_neg, PS.C_one]
  congr 1
  grind
set_option maxHeartbeats 8000000 in
set_option maxRecDepth 100000 in
theorem euclid_any {V : VF} {p pw g c : Int} {L : Nat} (hs : SC V p pw g L c) {w : World} {b : Nat} (hcod : Cod w b p pw g L c) {a : Option Addr} {n cap : Nat} {S : List Int} (hr : RowAt w a n S) (hcap : n ≤ cap) (hz : VF.els V S) (hn : (n : Int) = c)
    {a' : Option Addr} {n' cap' : Nat} {E : List Int} (hr' : RowAt w a' n' E) (hris : RisTo 0 ((L : Int) - 1) E n') (hen : n' ≤ n) :
    Calls Try.prog 147 #[.pointer (some ⟨b, 0, none⟩), .slice a n cap, .slice a' n' cap'] w fun e w' => ∃ v, e = .returned v ∧ Below w.heap.size w w' ∧ ∃ zs, OwnL w' w.heap.size v (eucN V zs) ∧ EucOk V L n S E zs := by
  obtain ⟨_, hc1, hc2, hcl, hl1, hlz⟩ := validC_iff hs.valid
  obtain rfl : c = (n : Int) := hn.symm
  have HCOD := Lib.hid hcod
  have HR := Lib.hid hr
  have HZ := Lib.hid hz
  have HR' := Lib.hid hr'
  have HRIS := Lib.hid hris
  have hlen := Lib.hid hr'.len
  have hSl := Lib.hid hr.len
  clear hr hr' hris hz
  have hmk := fun w => run_make_ints w 100 Try.underlying100 ((n : Int) + 1) (by omega) (by omega)
  rw [show ((n : Int) + 1).toNat = n + 1 by omega] at hmk
  obtain ⟨hp0, hp1, hp2⟩ := (own_zeros w (n + 1) (by omega)).place (i := n) (by omega)
  rw [gi_replicate] at hp0
  have hnn : (n : Int) < (n : Int) + 1 := by omega
  have hck0 := hcod.chk
  have hck1 := (hcod.below (below1 w (.cells (madeCells #[.int .i64 0] (n + 1)) 2))).chk
  have HOA := Lib.hid (show OwnL (w.alloc (.cells ((madeCells #[.int .i64 0] (n + 1)).setIfInBounds n (.int .i64 1)) 2)) w.heap.size (.slice (some ⟨w.heap.size, 0, none⟩) (n + 1) (n + 1)) (xcL n) by
    have h1 := (OwnL.zeros w w.heap.size (Nat.le_refl _) (n + 1) (by omega)).set (k := n) (by simp) 1
    rw [xcL_set, World.setCell_alloc_at _ _ _ _ _ rfl] at h1
    exact h1)
  have HB2 := Lib.hid (below1 w (.cells ((madeCells #[.int .i64 0] (n + 1)).setIfInBounds n (.int .i64 1)) 2))
  clear hcod
  go_enter Try.func147, Try.ntmps147
  go_wp2_with fail
  go_step3
  go_wp2_with fail
  obtain ⟨w2, hw2⟩ : ∃ w2, (w.alloc (.cells ((madeCells #[.int .i64 0] (n + 1)).setIfInBounds n (.int .i64 1)) 2)) = w2 := ⟨_, rfl⟩
  rw [hw2] at HOA HB2 ⊢
  clear hw2 hp0 hp1 hp2 hmk hck0 hck1
  refine (modified_any hs (HCOD.out.below HB2.out) (cap := cap) (HR.out.below' HB2.out) hcap HZ.out rfl (cap' := cap') (HR'.out.below' HB2.out) HRIS.out).mono ?_
  rintro e w6 ⟨v6, rfl, hb6, ho6⟩
  have HB6 := Lib.hid (HB2.out.trans (hb6.mono HB2.out.size))
  have HOA6 := Lib.hid (HOA.out.below hb6)
  have HOB6 := Lib.hid (ho6.lower (C := w.heap.size) HB2.out.size)
  obtain ⟨a6, c6, rfl, -, -⟩ := ho6.shape
  have homl := omL_len V L n S E
  have HEI0 := Lib.hid (EI.start n (omL_isP (V := V) L n S E) homl)
  obtain ⟨lb, hlb⟩ : ∃ lb, (omL V L n S E).length = lb := ⟨_, rfl⟩
  rw [hlb] at HOB6 homl ⊢
  have HLB := Lib.hid hlb
  clear hb6 ho6 hlb HOA
  have HOU0 := Lib.hid ((OwnL.empty w6 w.heap.size HB6.out.size _ rfl).below (below1 _ (.cells #[.int .i64 1] 2)))
  have HOV0 := Lib.hid (OwnL.lit1 (w6.alloc (.cells #[] 2)) w.heap.size (by have := HB6.out.size; simp; omega) (w6.heap.size + 1) (by simp) 2 rfl)
  have HBN := Lib.hid ((below1 w6 (.cells #[] 2)).alloc (by simp) (.cells #[.int .i64 1] 2))
  have HOA7 := Lib.hid (HOA6.out.below HBN.out)
  have HOB7 := Lib.hid (HOB6.out.below HBN.out)
  have HB7 := Lib.hid (HB6.out.trans (HBN.out.mono HB6.out.size))
  have hck7 := (HCOD.out.below HB7.out).chk
  obtain ⟨hf, hhf⟩ : ∃ hf : Nat, (n + n') / 2 = hf := ⟨_, rfl⟩
  obtain ⟨md, hmd⟩ : ∃ md : Nat, (n + n') % 2 = md := ⟨_, rfl⟩
  have ht1 : ((n : Int) + (n' : Int)).tdiv 2 = (hf : Int) := by rw [Int.tdiv_eq_ediv_of_nonneg (by omega)]; omega
  have ht2 : ((n : Int) + (n' : Int)).tmod 2 = (md : Int) := by rw [Int.tmod_eq_emod_of_nonneg (by omega)]; omega
  have ht3 : (n : Int) + (n' : Int) < 1000000 := by omega
  have HHM := Lib.hid (show (n + n' + 1) / 2 = hf + md by omega)
  have hhm : hf + md ≤ 64 := by omega
  clear hhf hmd
  go_wp2_with fail
  go_step3
  go_wp2_with fail
  go_loopw [7, 8, 9, 10] (fun va vb vu vv wr => ∃ (la lb lu lv ca cb cu cv : Nat) (aa ab au av : Option Addr) (za zb zu zv : List Int), va = .slice aa la ca ∧ vb = .slice ab lb cb ∧ vu = .slice au lu cu ∧ vv = .slice av lv cv ∧ Hid (za.length = la) ∧ Hid (zb.length = lb) ∧ Hid (zu.length = lu) ∧ Hid (zv.length = lv) ∧
    Hid (OwnL wr w.heap.size (.slice aa la ca) za) ∧ Hid (OwnL wr w.heap.size (.slice ab lb cb) zb) ∧ Hid (OwnL wr w.heap.size (.slice au lu cu) zu) ∧ Hid (OwnL wr w.heap.size (.slice av lv cv) zv) ∧
    Hid (EI V n (VF.ps V (omL V L n S E)) za zb (VF.ps V zu) (VF.ps V zv)) ∧ Hid (VF.isP V zu) ∧ Hid (VF.isP V zv) ∧ Hid ((n + n' + 1) / 2 < za.length) ∧ Hid (Below w.heap.size w wr)) (fun _ vb _ _ _ => match vb with | .slice _ l _ => l | _ => 0)
  case atStart => exact ⟨_, _, _, _, _, _, _, _, _, _, _, _, xcL n, omL V L n S E, [], [1], rfl, rfl, rfl, rfl, Lib.hid (xcL_length n), HLB, Lib.hid rfl, Lib.hid rfl, HOA7, HOB7, HOU0, HOV0, HEI0, Lib.hid VF.isP_nil, Lib.hid (one_isP V), Lib.hid (by rw [xcL_length]; omega), HB7⟩
  case round =>
    obtain ⟨la, lb, lu, lv, ca, cb, cu, cv, aa, ab, au, av, za, zb, zu, zv, rfl, rfl, rfl, rfl, hla, hlb, hlu, hlv, hoa, hob, hou, hov, hei, hup, hvp, hBa, hbel⟩ := hrel
    clear HOU0 HOV0 HBN HOA6 HOB6 HOA7 HOB7 HB7 HEI0 HLB HB6 hck7
    have HCODr := Lib.hid (HCOD.out.below hbel.out)
    have hckr := HCODr.out.chk
    obtain ⟨bc, hc0r, hcalr⟩ := HCODr.out.calV hs.sf
    have HCALR := Lib.hid hcalr
    clear hcalr
    have hlam := hei.out.la
    have hltm := hei.out.lt
    rw [hla.out] at hlam hltm
    rw [hlb.out] at hltm
    have hlum := hup.out.len_le hei.out.du
    have hlvm := hvp.out.len_le hei.out.dv
    rw [hla.out] at hlum hlvm
    rw [hlu.out] at hlum
    rw [hlv.out] at hlvm
    by_cases hlong : lb ≤ hf + md
    · have hlong' : (lb : Int) ≤ (hf : Int) + (md : Int) := by omega
      have HFIN := Lib.hid (show EucOk V L n S E zv from ⟨hvp.out, za, zb, VF.ps V zu, hei.out, by rw [hlb.out, hlen.out, HHM.out]; exact hlong, by rw [hlen.out]; exact hBa.out⟩)
      obtain ⟨_, _, ev, -, hrv⟩ := hov.out.shape
      simp only [Value.slice.injEq] at ev
      obtain ⟨rfl, -, -⟩ := ev
      rw [hlv.out] at hrv
      have HRV := Lib.hid hrv.row
      clear hrv
      rcases Nat.eq_zero_or_pos lv with h0 | h0
      · subst h0
        have HZV := Lib.hid (List.length_eq_zero_iff.1 hlv.out)
        go_wp2_with fail
        simp only [Exit.noGoto_ret]
        go_ret
        exact ⟨_, rfl, hbel.out, zv, by rw [eucN_no (.inl HZV.out)]; exact OwnL.nil _ _ hbel.out.size, HFIN.out⟩
      · have h0' : ((lv : Int) == 0) = false := by simp; omega
        obtain ⟨bv, ov, rfl, hbv, hcv⟩ := HRV.out.at' h0
        have hcv0 := hcv 0 h0
        rw [Nat.add_zero] at hcv0
        obtain ⟨z0, hz0⟩ : ∃ z0, gi zv 0 = z0 := ⟨_, rfl⟩
        rw [hz0] at hcv0
        have HZ0 := Lib.hid hz0
        clear hcv hz0
        have hz0e : V.F.el z0 := by rw [← HZ0.out]; exact hvp.out.els.getD 0
        have HI := Lib.hid (fun W (hd : Drew wr W) (hz : z0 ≠ 0) => inv_any (hd.cal HCALR.out) z0 hz0e hz)
        have HSC := Lib.hid (fun W (hd : Drew wr W) => scaled_any (V := V) (hd.cal HCALR.out) (cap := cv) (hd.row HRV.out) (by omega) hvp.out (V.F.inv z0) (FF.inv_el V.ok z0) 0 (by omega))
        rw [show ((0 : Nat) : Int) = 0 from rfl] at HSC
        have HEN := Lib.hid (fun h => eucN_yes (V := V) (zs := zv) h)
        rw [HZ0.out] at HEN
        have HNE := Lib.hid (show ¬ zv = [] from fun h => by have := hlv.out; rw [h] at this; simp at this; omega)
        generalize V.F.inv z0 = zi at *
        by_cases hz : z0 = 0
        · have hzb : (z0 == 0) = true := by simp [hz]
          have HZZ := Lib.hid hz
          clear hz
          go_wp2_with fail
          simp only [Exit.noGoto_ret]
          go_ret
          exact ⟨_, rfl, hbel.out, zv, by rw [eucN_no (.inr (HZ0.out.trans HZZ.out))]; exact OwnL.nil _ _ hbel.out.size, HFIN.out⟩
        · have hzb : (z0 == 0) = false := by simp [hz]
          go_wp2_with fail
          go_region_held3 (fun w' => w'.cell? ⟨b, 0, none⟩ = some (.pointer (some ⟨bc, 0, none⟩)) ∧ w'.cell? ⟨bv, ov, none⟩ = some (.int .i64 z0))
            (first | go_keep | ((try (dsimp only)); go_split_ands; (repeat' apply And.intro); all_goals (first | go_keep | exact keep_cell hbI (by assumption) | exact keep_cell hbS (by assumption))))
            (first | (go_at_call 121; refine (HI.out _ (drew1 _) hz).mono ?_; rintro e wa ⟨rfl, hdI⟩; have hbI := Drew.below hdI wr.heap.size) | (go_at_call 123; refine (HSC.out _ ((drew1 wr).trans hdI)).mono ?_; rintro e wb ⟨vs, rfl, hbS, hoS⟩))
          have acc := Below.more (((drew1 wr).trans hdI).below wr.heap.size) (Nat.le_refl _) hbS
          have HON := Lib.hid (hoS.lower (C := w.heap.size) (by have h1 := (((drew1 wr).trans hdI).below wr.heap.size).size; have h2 := hbel.out.size; omega))
          have HBF := Lib.hid (hbel.out.trans (acc.mono hbel.out.size))
          clear hbS hoS acc
          go_wp2_with fail
          simp only [Exit.noGoto_ret]
          go_ret
          exact ⟨_, rfl, HBF.out, zv, by rw [HEN.out (fun h => h.elim HNE.out (fun h => hz h))]; exact HON.out, HFIN.out⟩
    · have hlong' : ¬ (lb : Int) ≤ (hf : Int) + (md : Int) := by omega
      have hne : zb ≠ [] := fun h => by have := hlb.out; rw [h] at this; simp at this; omega
      obtain ⟨_, _, ea, hna, hra⟩ := hoa.out.shape
      obtain ⟨_, _, eb, -, hrb⟩ := hob.out.shape
      simp only [Value.slice.injEq] at ea eb
      obtain ⟨rfl, -, rfl⟩ := ea
      obtain ⟨rfl, -, -⟩ := eb
      rw [hla.out] at hra
      rw [hlb.out] at hrb
      have HD := Lib.hid (over_any (V := V) HCALR.out (cap := ca) hra.row hna (by omega) (cap' := cb) hrb.row (by omega) hei.out.ha hei.out.hb (by omega))
      have HST := Lib.hid (fun q r h => hei.out.step (q := q) (r := r) hne h)
      have HQL := Lib.hid (fun q r (h : VF.DivOf V za zb q r) (h0 : q ≠ []) => DivOf.qlen hei.out.hb h h0)
      have HBB := Lib.hid (show (n + n' + 1) / 2 < zb.length by rw [hlb.out, HHM.out]; omega)
      clear hra hrb hna hne
      go_wp2_with fail
      refine HD.out.mono ?_
      rintro e w5 ⟨vq, vr, q, r, rfl, hb5, htwo, hdv⟩
      obtain ⟨mid, hoq, hor, hmid, -⟩ := htwo
      obtain ⟨aq, cq, rfl, -, hq5⟩ := hoq.shape
      obtain ⟨ar, cr, rfl, -, hr5⟩ := hor.shape
      have HOB5 := Lib.hid (hob.out.below hb5)
      have HOU5 := Lib.hid (hou.out.below hb5)
      have HOV5 := Lib.hid (hov.out.below hb5)
      have HOR5 := Lib.hid (hor.lower (C := w.heap.size) hbel.out.size)
      have HB5 := Lib.hid (hbel.out.trans (hb5.mono hbel.out.size))
      have HCAL5 := Lib.hid (HCALR.out.below hb5)
      have hc05 := (HCODr.out.below hb5).cal
      have hc05 := keep_cell hb5 hc0r
      have HST5 := Lib.hid (HST.out _ _ hdv)
      have hql : q.length ≤ 66 := by
        by_cases h0 : q = []
        · rw [h0]; simp
        · have := HQL.out _ _ hdv h0; rw [hla.out] at this; omega
      have HLT := Lib.hid (show r.length < lb by have := hdv.len; rw [hlb.out] at this; exact this)
      have HQE := Lib.hid hdv.hq.els
      have HRQ := Lib.hid hq5.row
      obtain ⟨lq, hlq⟩ : ∃ lq, q.length = lq := ⟨_, rfl⟩
      obtain ⟨lr, hlr⟩ : ∃ lr, r.length = lr := ⟨_, rfl⟩
      rw [hlq] at hql HRQ ⊢
      rw [hlr] at HOR5 HLT ⊢
      have HLQ := Lib.hid hlq
      have HLR := Lib.hid hlr
      clear hb5 hoq hor hdv hq5 hr5 hlq hlr HD HST HQL hc0r hckr hmid
      obtain ⟨_, _, eu, hnu, hru⟩ := HOU5.out.shape
      obtain ⟨_, _, ev, -, hrv⟩ := HOV5.out.shape
      simp only [Value.slice.injEq] at eu ev
      obtain ⟨rfl, -, rfl⟩ := eu
      obtain ⟨rfl, -, -⟩ := ev
      rw [hlu.out] at hru
      rw [hlv.out] at hrv
      have HRU := Lib.hid hru.row
      have HRV := Lib.hid hrv.row
      have HNU := Lib.hid hnu
      have HVE := Lib.hid hvp.out.els
      have HUE := Lib.hid hup.out.els
      have HT := Lib.hid (fun W (hd : Drew w5 W) => times_any (V := V) (hd.cal HCAL5.out) (cap := cq) (hd.row HRQ.out) (by omega) (cap' := cv) (hd.row HRV.out) (by omega) HQE.out HVE.out)
      have hml := VF.lst_mul_len (V := V) q zv
      rw [HLQ.out, hlv.out] at hml
      have HTP := Lib.hid (VF.lst_isP (V := V) (VF.mulL (p := q) (q := zv)))
      have HN := Lib.hid (fun W (hb : Below w5.heap.size w5 W) => neg_any (HCAL5.out.below hb) 1 (FF.one_el V.ok))
      have hne1 := FF.neg_el (F := V.F) (FF.one_el V.ok)
      have HNX := Lib.hid (euc_next2 (V := V) q zu zv)
      have HPO := Lib.hid (euc_poly (V := V) q zu zv)
      have HN1 := Lib.hid hne1
      generalize V.F.neg 1 = n1 at *
      obtain ⟨tv, htv⟩ : ∃ tv, VF.lst V (VF.ps V q * VF.ps V zv) = tv := ⟨_, rfl⟩
      rw [htv] at HT hml HTP HNX
      obtain ⟨lt, hlt⟩ : ∃ lt, tv.length = lt := ⟨_, rfl⟩
      rw [hlt] at hml
      have HLTV := Lib.hid hlt
      have HSC := Lib.hid (fun W (hb : Below w5.heap.size w5 W) (a7 : Option Addr) (c7 : Nat) (h7 : RowAt W a7 lt tv) => scaled_any (V := V) (HCAL5.out.below hb) (cap := c7) h7 (by omega) HTP.out n1 HN1.out 0 (by omega))
      rw [show ((0 : Nat) : Int) = 0 from rfl] at HSC
      have hsl : (VF.lst V (VF.xp V 0 * (PS.C (VF.of V n1) * VF.ps V tv))).length ≤ 4096 := by
        refine Nat.le_trans (VF.lst_len (n := 0 + tv.length) (xpmul_dlt2 (PS.dlt_C_mul _ (VF.ps_dlt tv)) 0)) (by rw [hlt]; omega)
      have HSE := Lib.hid (VF.lst_isP (V := V) (f := VF.xp V 0 * (PS.C (VF.of V n1) * VF.ps V tv)) ((xp_poly _).mul ((PS.isPoly_C _).mul (VF.ps_poly _)))).els
      generalize VF.lst V (VF.xp V 0 * (PS.C (VF.of V n1) * VF.ps V tv)) = ts at *
      have HPL := Lib.hid (fun W (hb : Below w5.heap.size w5 W) (a8 : Option Addr) (c8 : Nat) (h8 : RowAt W a8 ts.length ts) => plus_any (V := V) (cap := cu) (capA := 1) ((HCAL5.out.below hb).below (below1 W (.cells #[.slice a8 ts.length c8] 100))) ((HRU.out.below' hb).below' (below1 W (.cells #[.slice a8 ts.length c8] 100))) HNU.out (by omega) (rows_one W 100 a8 ts.length c8 ts h8 _ rfl) hsl HUE.out HSE.out)
      rw [HNX.out] at HPL
      clear hru hrv hnu htv hlt hne1 hsl
      go_wp2_with fail
      go_region_held3 (fun w' => w'.cell? ⟨b, 0, none⟩ = some (.pointer (some ⟨bc, 0, none⟩)))
        (first | go_keep | ((try (dsimp only)); (first | go_keep | exact keep_cell hbT (by assumption) | exact keep_cell hbS (by assumption) | exact keep_cell hbP (by assumption))))
        (first | (go_at_call 154; refine (HT.out _ (drew1 w5)).mono ?_; rintro e w6 ⟨v6, rfl, hbT, hoT⟩; have acc6 := Below.more (Drew.below (drew1 w5) w5.heap.size) (Nat.le_refl _) hbT; obtain ⟨a6, c6, rfl, -, h6⟩ := hoT.shape; rw [HLTV.out] at h6 ⊢) | (go_at_call 117; refine (HN.out _ acc6).mono ?_; rintro e w6n ⟨rfl, rfl⟩) | (go_at_call 123; refine (HSC.out _ acc6 a6 c6 h6.row).mono ?_; rintro e w7 ⟨v7, rfl, hbS, hoS⟩; have acc7 := Below.more acc6 (Nat.le_refl _) hbS; obtain ⟨a7, c7, rfl, -, h7⟩ := hoS.shape) | (go_at_call 122; refine (HPL.out _ acc7 a7 c7 h7.row).mono ?_; rintro e w8 ⟨v8, rfl, hbP, hoP⟩))
      have acc7b := acc7.trans ((below1 w7 (.cells #[.slice a7 ts.length c7] 100)).mono acc7.size)
      have acc8 := Below.more acc7b (Nat.le_refl _) hbP
      have HB9 := Lib.hid (HB5.out.trans (acc8.mono HB5.out.size))
      have HOB9 := Lib.hid (HOB5.out.below acc8)
      have HOR9 := Lib.hid (HOR5.out.below acc8)
      have HOV9 := Lib.hid (HOV5.out.below acc8)
      have HON9 := Lib.hid (hoP.lower (C := w.heap.size) (by have h1 := acc7b.size; have h3 := HB5.out.size; omega))
      obtain ⟨an, cn, rfl, -, -⟩ := hoP.shape
      have HPN := Lib.hid (VF.lst_isP HPO.out)
      have HEN := Lib.hid (show EI V n (VF.ps V (omL V L n S E)) zb r (VF.ps V zv) (VF.ps V (VF.lst V (VF.ps V zu - VF.ps V q * VF.ps V zv))) by
        rw [VF.lst_eq HPO.out]; exact HST5.out)
      clear hbP hbT hbS hoT hoS hoP acc6 acc7 acc7b acc8 h6 h7 hc05 HT HN HSC HPL
      generalize VF.lst V (VF.ps V zu - VF.ps V q * VF.ps V zv) = nx at *
      go_wp2_with fail
      go_roundw
      case rel => exact ⟨_, _, _, _, _, _, _, _, _, _, _, _, zb, r, zv, nx, rfl, rfl, rfl, rfl, hlb, HLR, hlv, Lib.hid rfl, HOB9, HOR9, HOV9, HON9, HEN, hvp, HPN, HBB, HB9⟩
      case measure => exact HLT.out
end Go.Proofs.Ytfhkkpfiflgofaa
