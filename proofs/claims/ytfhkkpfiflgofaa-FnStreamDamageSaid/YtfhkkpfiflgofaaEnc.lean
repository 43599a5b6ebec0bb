/-
  Encoding: the walks of encode and l04Encode.
-/
import Derived.Test.YtfhkkpfiflgofaaOwn
import Derived.Test.YtfhkkpfiflgofaaFits
namespace Go.Proofs.Ytfhkkpfiflgofaa
open Go.RowKit
set_option linter.unusedVariables false

/-- The message as the high coefficients of a polynomial, after k numbers. -/
noncomputable def hiF (V : VF) (L : Nat) (msg : List Int) : Nat → PS (El V)
  | 0 => 0
  | k + 1 => hiF V L msg k + VF.xp V (L - 1 - k) * PS.C (VF.of V (gi msg k))
theorem hiF_low (V : VF) (L : Nat) (msg : List Int) (k j : Nat) (hk : k ≤ L) (hj : j + k < L) : (hiF V L msg k).c j = 0 := by
  induction k with
  | zero => rfl
  | succ k ih =>
    show (hiF V L msg k + _).c j = 0
    rw [PS.add_c, ih (by omega) (by omega), xpC_c, if_neg (by omega)]; grind
theorem hiF_dlt (V : VF) (L : Nat) (msg : List Int) (k : Nat) (hk : k ≤ L) : (hiF V L msg k).dlt L := by
  induction k with
  | zero => exact PS.dlt_zero _
  | succ k ih =>
    refine PS.dlt_add (ih (by omega)) (fun i hi => ?_)
    rw [xpC_c, if_neg (by omega)]
theorem hiF_poly (V : VF) (L : Nat) (msg : List Int) (k : Nat) (hk : k ≤ L) : (hiF V L msg k).IsPoly := ⟨_, hiF_dlt V L msg k hk⟩
theorem genF_top (V : VF) (n : Nat) : (genF V n).c n = 1 := by
  induction n with
  | zero => show (1 : PS (El V)).c 0 = 1; rw [PS.one_c]; rfl
  | succ n ih =>
    show (genF V n * (PS.X - PS.C _)).c (n + 1) = 1
    have hd : (PS.X - PS.C (VF.of V (V.F.exp (n + 1))) : PS (El V)).dlt (1 + 1) := PS.dlt_sub PS.dlt_X ((PS.dlt_C _).mono (by omega))
    rw [PS.mul_top hd n (genF V n) (genF_dlt V n), ih, PS.sub_c, PS.C_c_succ]
    show (1 : El V) * ((if 1 = 1 then (1 : El V) else 0) - 0) = 1
    simp only [if_true]; grind
theorem genF_length (V : VF) (n : Nat) : (VF.lst V (genF V n)).length = n + 1 :=
  (VF.lst_isP (genF_poly V n)).len_eq (by rw [VF.lst_eq (genF_poly V n)]; exact genF_dlt V n) (by rw [VF.lst_eq (genF_poly V n), genF_top]; exact Fld.one_ne)
/-- The remainder of the message's polynomial by the generator. -/
noncomputable def encR (V : VF) (L c : Nat) (msg : List Int) : List Int := (VF.dqr V (VF.lst V (hiF V L msg msg.length)) (VF.lst V (genF V c))).2
/-- The first k check elements. -/
def chkTo (F : FF) (r : List Int) (c k : Nat) : List Int := (List.range k).map fun j => F.neg (gi r (c - 1 - j))
theorem chkTo_length (F : FF) (r : List Int) (c k : Nat) : (chkTo F r c k).length = k := by unfold chkTo; simp
theorem chkTo_succ (F : FF) (r : List Int) (c k : Nat) : chkTo F r c (k + 1) = chkTo F r c k ++ [F.neg (gi r (c - 1 - k))] := by unfold chkTo; rw [List.range_succ, List.map_append]; rfl
/-- The encoded word. -/
noncomputable def encL (V : VF) (L c : Nat) (msg : List Int) : List Int := msg ++ chkTo V.F (encR V L c msg) c c
theorem neg_zero' (F : FF) : F.neg 0 = 0 := by unfold FF.neg; simp
theorem gi_none {l : List Int} {k : Nat} (h : l.length ≤ k) : gi l k = 0 := by unfold gi; rw [List.getD_eq_getElem?_getD, List.getElem?_eq_none h]; rfl
set_option maxHeartbeats 4000000 in
set_option maxRecDepth 20000 in
theorem encode_any {V : VF} {p pw g l c : Int} (hs : SC V p pw g l c) {w : World} {b : Nat} (hcod : Cod w b p pw g l c) {a : Option Addr} {n cap : Nat} {zs : List Int} (hr : RowAt w a n zs) (hca : a = none → cap = 0) (hz : VF.els V zs) (hn : (n : Int) = l - c) :
    Calls Try.prog 55 #[.pointer (some ⟨b, 0, none⟩), .slice a n cap] w fun e w' => ∃ v, e = .returned v ∧ Below w.heap.size w w' ∧ OwnL w' w.heap.size v (encL V l.toNat c.toNat zs) := by
  obtain ⟨_, hc1, hc2, hcl, hl1, _⟩ := validC_iff hs.valid
  obtain ⟨L, rfl⟩ : ∃ L : Nat, l = (L : Int) := ⟨l.toNat, by omega⟩
  obtain ⟨C, rfl⟩ : ∃ C : Nat, c = (C : Int) := ⟨c.toNat, by omega⟩
  simp only [Int.toNat_natCast]
  have HN := Lib.hid (show n + C = L by omega)
  clear hn
  have hnL : n ≤ L := by have := HN.out; omega
  have HCOD := Lib.hid hcod
  have HR := Lib.hid hr
  have HCA := Lib.hid hca
  have HZ := Lib.hid hz
  have hlen := Lib.hid hr.len
  clear hr hca hz
  have hmk := fun w => run_make_ints w 100 Try.underlying100 (L : Int) (by omega) (by omega)
  simp only [Int.toNat_natCast] at hmk
  have hcl2 := hcod.len
  clear hcod
  go_enter Try.func55, Try.ntmps55
  go_wp2_with fail
  clear hmk hcl2
  have HO0 := Lib.hid (OutAt.zeros (V := V) w w.heap.size (Nat.le_refl _) L (by omega))
  go_loopw [20] (fun t wr => ∃ k : Nat, k ≤ n ∧ t = .int .i64 k ∧ Hid (OutAt V wr w.heap.size w.heap.size L (hiF V L zs k)) ∧ Hid (Below w.heap.size w wr)) (fun t _ => (n - intOf t).toNat)
  case atStart => exact ⟨0, by omega, rfl, HO0, Lib.hid (below1 _ _)⟩
  case round =>
    obtain ⟨k, hk, rfl, hout, hbel⟩ := hrel
    clear HO0
    have hcod := HCOD.out.below hbel.out
    by_cases hlt : k < n
    · obtain ⟨b1, o1, rfl, hb1, hcs⟩ := (HR.out.below' hbel.out).at' (by omega)
      have hcell := hcs k hlt
      have hcl2 := hcod.len
      obtain ⟨J, hJ⟩ : ∃ J, L - 1 - k = J := ⟨_, rfl⟩
      have hJ2 : J < L := by omega
      obtain ⟨x, hx, hfx, hpl⟩ := hout.out.place hJ2
      have hx0 : VF.of V x = 0 := by rw [← hfx]; exact hiF_low V L zs k J (by omega) (by omega)
      have hP := hpl wr (Below.refl _ _)
      have hze : V.F.el (gi zs k) := HZ.out.getD k
      have HP2 := Lib.hid (show OutAt V (wr.setCell ⟨w.heap.size, J, none⟩ (.int .i64 (gi zs k))) w.heap.size w.heap.size L (hiF V L zs (k + 1)) by
        have := hP.put0 hx0 hze
        show OutAt V _ _ _ _ (hiF V L zs k + VF.xp V (L - 1 - k) * PS.C (VF.of V (gi zs k)))
        rw [hJ]; exact this)
      have HB2 := Lib.hid (hbel.out.setCell (p := ⟨w.heap.size, J, none⟩) (Nat.le_refl _) (.int .i64 (gi zs k)))
      have hpc := hP.cell
      have hpf := hP.frozen
      have e1 : (L : Int) - 1 - (k : Int) = (J : Int) := by omega
      have q1 : IntKind.i64.wrap (J : Int) = (J : Int) := IntWalk.i64_in _ (by omega)
      have q2 : (J : Int) < (L : Int) := by omega
      clear hcs hcod hJ hP hpl hfx hx0 hx hze
      go_wp2_with fail
      go_roundw
      case rel => exact ⟨k + 1, by omega, by go_num, HP2, HB2⟩
      case measure => simp [intOf]; omega
    · obtain rfl : k = n := by omega
      obtain ⟨zt, hrt, -, hot, -⟩ := hout.out.trimmed
      have HPL := Lib.hid (VF.lst_isP (V := V) (hiF_poly V L zs k (by omega)))
      have HPN := Lib.hid (VF.lst_len (V := V) (hiF_dlt V L zs k (by omega)))
      have HGP := Lib.hid (VF.lst_isP (V := V) (genF_poly V C))
      have HGN := Lib.hid (genF_length V C)
      have HER := Lib.hid (fun q r (h : VF.DivOf V (VF.lst V (hiF V L zs k)) (VF.lst V (genF V C)) q r) => show encR V L C zs = r by unfold encR; rw [hlen.out, VF.dqr_of HGP.out h])
      have htl : VF.tlen zt L ≤ L := VF.tlen_le zt L
      have HTR := Lib.hid (fun W (hb : Below wr.heap.size wr W) => trim_any (cap := L) (hrt.below' hb) (Nat.le_refl _))
      have HGE := Lib.hid (fun W (hb : Below wr.heap.size wr W) => generator_any hs (hcod.below hb))
      simp only [Int.toNat_natCast] at HGE
      obtain ⟨bc, hc0, hcal⟩ := hcod.calV hs.sf
      obtain ⟨_, _, ea, hca', hra⟩ := hot.shape
      simp only [Value.slice.injEq] at ea
      obtain ⟨rfl, htle, -⟩ := ea
      rw [← htle] at hra
      have HOV := Lib.hid (fun W (hb : Below wr.heap.size wr W) (a7 : Option Addr) (c7 : Nat) (h7 : RowAt W a7 (C + 1) (VF.lst V (genF V C))) => over_any (V := V) (cap := L) (cap' := c7) (hcal.below hb) (hra.row.below' hb) (fun h => by cases h) (by omega) h7 (by omega) HPL.out HGP.out (by omega))
      clear hrt hot hcod hcal hca' htle hra
      generalize VF.lst V (hiF V L zs k) = pl at *
      generalize VF.tlen zt L = tl at *
      generalize VF.lst V (genF V C) = gl at *
      go_wp2_with fail
      go_region_held3 (fun w' => w'.cell? ⟨b, 0, none⟩ = some (.pointer (some ⟨bc, 0, none⟩)))
        (first | go_keep | ((try (dsimp only)); (first | go_keep | exact keep_cell hbO (by assumption) | exact keep_cell hbG (by assumption))))
        (first | (go_at_call 114; refine (HTR.out _ ?_).mono ?_; (first | exact Drew.below (drew1 wr) _ | exact hbg); rintro e w3 ⟨rfl, rfl⟩) | (go_at_call 116; refine (HGE.out _ (Drew.below (drew1 wr) _)).mono ?_; rintro e w4 ⟨v4, rfl, hbG, hoG⟩; have hbg := Below.trans (Drew.below (drew1 wr) wr.heap.size) hbG; obtain ⟨a4, c4, rfl, -, h4⟩ := hoG.shape; rw [HGN.out] at h4 ⊢) | (go_at_call 115; refine (HOV.out _ hbg a4 c4 h4.row).mono ?_; rintro e w5 ⟨v5, v6, q, r, rfl, hbO, hoO, hdv⟩))
      have hb5 := Below.more hbg (Nat.le_refl _) hbO
      have HB5 := Lib.hid (hbel.out.trans (hb5.mono hbel.out.size))
      obtain ⟨mid, _, h6, _, _⟩ := hoO
      obtain ⟨ar, cr, rfl, -, h6'⟩ := h6.shape
      have HRR := Lib.hid h6'.row
      have HEQ := Lib.hid (HER.out q r hdv)
      have hrl : r.length ≤ C := by have := hdv.len; rw [HGN.out] at this; omega
      have HRE := Lib.hid hdv.hr.els
      have HCD5 := Lib.hid (HCOD.out.below HB5.out)
      have hcl5 := HCD5.out.len
      have hck5 := HCD5.out.chk
      have hmk := fun w => run_make_ints2 w 26 Try.underlying26 (0 : Int) (L : Int) (by omega) (by omega) (by omega)
      simp only [Int.toNat_natCast] at hmk
      rw [show (0 : Int).toNat = 0 from rfl] at hmk
      obtain ⟨rl, hrl2⟩ : ∃ rl, r.length = rl := ⟨_, rfl⟩
      rw [hrl2] at hrl HRR ⊢
      have HRL := Lib.hid hrl2
      clear hbO hoG h4 hbG hbg hdv h6 h6' hb5 hc0 hrl2 HOV HGE HTR HER
      go_wp2_with (at_builtin; refine append_row rfl _ _ _ rfl Try.underlying26 (OwnL.made w5 w5.heap.size (Nat.le_refl _) L (by omega) _ rfl) rfl _ ((HR.out.below' HB5.out).below' (below1 w5 _)) rfl HCA.out (by simp; omega) ?_; intro v7 w7 hown7 hb7; have hck7 := (HCOD.out.below (HB5.out.trans (((below1 w5 _).trans hb7).mono HB5.out.size))).chk)
      simp only [List.nil_append] at hown7
      have HB7 := Lib.hid ((below1 w5 _).trans hb7)
      have HO7 := Lib.hid (show OwnL w7 w5.heap.size v7 (zs ++ chkTo V.F r C 0) by show OwnL _ _ _ (zs ++ []); rw [List.append_nil]; exact hown7)
      clear hown7 hb7 hcl5 hck5 hmk hck7
      go_loopw [10, 11] (fun vo t wr => ∃ j : Nat, j ≤ C ∧ t = .int .i64 ((C : Int) - 1 - (j : Int)) ∧ Hid (OwnL wr w5.heap.size vo (zs ++ chkTo V.F r C j)) ∧ Hid (Below w5.heap.size w5 wr)) (fun _ t _ => (intOf t + 1).toNat)
      case atStart => exact ⟨0, by omega, by simp, HO7, HB7⟩
      case round =>
        obtain ⟨j, hj, rfl, ho, hb2⟩ := hrel
        clear HO7 HB7
        have HBW := Lib.hid (HB5.out.trans (hb2.out.mono HB5.out.size))
        by_cases hj2 : j < C
        · obtain ⟨i, hi⟩ : ∃ i : Nat, C - 1 - j = i := ⟨_, rfl⟩
          have ei : (C : Int) - 1 - (j : Int) = (i : Int) := by omega
          have hge : (0 : Int) ≤ (i : Int) := by omega
          have hll : (zs ++ chkTo V.F r C j).length ≤ 16777216 := by rw [List.length_append, chkTo_length, hlen.out]; omega
          have HST := Lib.hid (show (zs ++ chkTo V.F r C j) ++ [V.F.neg (gi r i)] = zs ++ chkTo V.F r C (j + 1) by rw [chkTo_succ, hi, List.append_assoc])
          have e9 : (C : Int) - 1 - ((j + 1 : Nat) : Int) = (i : Int) - 1 := by omega
          have E9 := Lib.hid e9
          have hib : i < C := by omega
          rw [ei]
          clear ei e9 hi
          by_cases hir : i < rl
          · have hir' : (i : Int) < (rl : Int) := by omega
            obtain ⟨b2, o2, rfl, _, hcs⟩ := (HRR.out.below' hb2.out).at' (by omega)
            have hcell := hcs i hir
            obtain ⟨bc2, hc0, hcal⟩ := (HCD5.out.below hb2.out).calV hs.sf
            have hre : V.F.el (gi r i) := HRE.out.getD i
            have HNG := Lib.hid (fun q => neg_any (hcal.drewN q) (gi r i) hre)
            clear hcs hcal hre
            generalize zs ++ chkTo V.F r C j = lj at *
            generalize V.F.neg (gi r i) = ng at *
            go_wp2_with fail
            go_quiet (first | (go_at_call 117; exact Calls.quiet_of_same ((HNG.out _).mono fun e w' h => ⟨h.1, h.2.symm⟩)))
            have HOD := Lib.hid (fun q => (show OwnL (wr.drewN q) w5.heap.size u10 lj from ho.out.below (Drew.below (drew4 wr q) _)))
            go_wp2_with (at_builtin; refine append_one rfl _ _ _ rfl Try.underlying26 ng (HOD.out _) rfl _ rfl rfl hll ?_; intro v' w8 hown8 hb8)
            rw [HST.out] at hown8
            have HB8 := Lib.hid (hb2.out.trans ((Drew.below (drew4 wr _) w5.heap.size).trans hb8))
            have HO8 := Lib.hid hown8
            clear hown8 hb8 hc0 hcell
            go_wp2_with fail
            exact ⟨⟨j + 1, by omega, by rw [E9.out], HO8, HB8⟩, by simp [intOf]⟩
          · have hir' : ¬ (i : Int) < (rl : Int) := by omega
            have hg0 : V.F.neg (gi r i) = 0 := by rw [gi_none (by rw [HRL.out]; omega)]; exact neg_zero' _
            rw [hg0] at HST
            clear hg0
            generalize zs ++ chkTo V.F r C j = lj at *
            go_wp2_with (at_builtin; refine append_one rfl _ _ _ rfl Try.underlying26 0 ho.out rfl _ rfl rfl hll ?_; intro v' w8 hown8 hb8)
            rw [HST.out] at hown8
            have HB8 := Lib.hid (hb2.out.trans hb8)
            have HO8 := Lib.hid hown8
            clear hown8 hb8
            go_wp2_with fail
            exact ⟨⟨j + 1, by omega, by rw [E9.out], HO8, HB8⟩, by simp [intOf]⟩
        · obtain rfl : j = C := by omega
          have hge : ¬ (0 : Int) ≤ (j : Int) - 1 - (j : Int) := by omega
          have HFI := Lib.hid (show zs ++ chkTo V.F r j j = encL V L j zs by unfold encL; rw [HEQ.out])
          rw [HFI.out] at ho
          go_wp2_with fail
          go_ret
          exact ⟨_, rfl, HBW.out, ho.out.lower HB5.out.size⟩
set_option maxHeartbeats 4000000 in
set_option maxRecDepth 20000 in
theorem l04Encode_any {V : VF} {p pw g l c : Int} (hs : SC V p pw g l c) {w : World} {a : Option Addr} {n cap : Nat} {zs : List Int} (hr : RowAt w a n zs) (hca : a = none → cap = 0) (hz : VF.els V zs) (hn : (n : Int) = l - c) :
    Calls Try.prog 108 #[cV p pw g l c, .slice a n cap] w fun e w' => ∃ v, e = .returned v ∧ Below w.heap.size w w' ∧ OwnL w' w.heap.size v (encL V l.toNat c.toNat zs) := by
  obtain ⟨_, hc1, hc2, hcl, hl1, _⟩ := validC_iff hs.valid
  obtain ⟨L, rfl⟩ : ∃ L : Nat, l = (L : Int) := ⟨l.toNat, by omega⟩
  obtain ⟨C, rfl⟩ : ∃ C : Nat, c = (C : Int) := ⟨c.toNat, by omega⟩
  simp only [Int.toNat_natCast]
  have HN := Lib.hid (show n + C = L by omega)
  clear hn
  have hnL : n ≤ L := by have := HN.out; omega
  have HR := Lib.hid hr
  have HCA := Lib.hid hca
  have HZ := Lib.hid hz
  have hlen := Lib.hid hr.len
  clear hr hca hz
  have hmk := fun w => run_make_ints w 26 Try.underlying26 (L : Int) (by omega) (by omega)
  simp only [Int.toNat_natCast] at hmk
  go_enter Try.func108, Try.ntmps108
  go_wp2_with fail
  clear hmk
  have HO0 := Lib.hid (show OutAt V ((w.alloc (.cells #[.int .i64 p, .int .i64 pw, .int .i64 g, .int .i64 (L : Int), .int .i64 (C : Int)] CT)).alloc (.cells (madeCells #[.int .i64 0] L) 2)) w.heap.size (w.heap.size + 1) L (hiF V L zs 0) by
    have := OutAt.zeros (V := V) (w.alloc (.cells #[.int .i64 p, .int .i64 pw, .int .i64 g, .int .i64 (L : Int), .int .i64 (C : Int)] CT)) w.heap.size (by simp) L (by omega)
    rw [show (w.alloc (.cells #[.int .i64 p, .int .i64 pw, .int .i64 g, .int .i64 (L : Int), .int .i64 (C : Int)] CT)).heap.size = w.heap.size + 1 by simp] at this
    exact this)
  have HB0 := Lib.hid ((below1 w (.cells #[.int .i64 p, .int .i64 pw, .int .i64 g, .int .i64 (L : Int), .int .i64 (C : Int)] CT)).alloc (by simp) (.cells (madeCells #[.int .i64 0] L) 2))
  have HX0 := Lib.hid ((boxC_new w p pw g L C CT).below (below1 _ (.cells (madeCells #[.int .i64 0] L) 2)) (by simp))
  go_loopw [6] (fun t wr => ∃ k : Nat, k ≤ n ∧ t = .int .i64 k ∧ Hid (OutAt V wr w.heap.size (w.heap.size + 1) L (hiF V L zs k)) ∧ Hid (Below w.heap.size w wr) ∧ Hid (BoxC wr w.heap.size p pw g L C)) (fun t _ => (n - intOf t).toNat)
  case atStart => exact ⟨0, by omega, rfl, HO0, HB0, HX0⟩
  case round =>
    obtain ⟨k, hk, rfl, hout, hbel, hbox⟩ := hrel
    clear HO0 HB0 HX0
    obtain ⟨hlx, c0, c1, c2, c3, c4⟩ := hbox.out
    by_cases hlt : k < n
    · obtain ⟨b1, o1, rfl, hb1, hcs⟩ := (HR.out.below' hbel.out).at' (by omega)
      have hcell := hcs k hlt
      obtain ⟨J, hJ⟩ : ∃ J, L - 1 - k = J := ⟨_, rfl⟩
      have hJ2 : J < L := by omega
      obtain ⟨x, hx, hfx, hpl⟩ := hout.out.place hJ2
      have hx0 : VF.of V x = 0 := by rw [← hfx]; exact hiF_low V L zs k J (by omega) (by omega)
      have hP := hpl wr (Below.refl _ _)
      have hze : V.F.el (gi zs k) := HZ.out.getD k
      have HP2 := Lib.hid (fun W (hb : Below wr.heap.size wr W) => (show OutAt V (W.setCell ⟨w.heap.size + 1, J, none⟩ (.int .i64 (gi zs k))) w.heap.size (w.heap.size + 1) L (hiF V L zs (k + 1)) by
        have := (hpl W hb).put0 hx0 hze
        show OutAt V _ _ _ _ (hiF V L zs k + VF.xp V (L - 1 - k) * PS.C (VF.of V (gi zs k)))
        rw [hJ]; exact this))
      have HB2 := Lib.hid (fun W (hb : Below wr.heap.size wr W) => (hbel.out.trans (hb.mono hbel.out.size)).setCell (p := ⟨w.heap.size + 1, J, none⟩) (by simp) (.int .i64 (gi zs k)))
      have HX2 := Lib.hid (fun W (hb : Below wr.heap.size wr W) => (hbox.out.below hb hlx).below (C := w.heap.size + 1) ((Below.refl _ W).setCell (p := ⟨w.heap.size + 1, J, none⟩) (Nat.le_refl _) (.int .i64 (gi zs k))) (by omega))
      have hpc := hP.cell
      have hpf := hP.frozen
      have e1 : (L : Int) - 1 - (k : Int) = (J : Int) := by omega
      have q1 : IntKind.i64.wrap (J : Int) = (J : Int) := IntWalk.i64_in _ (by omega)
      have q2 : (J : Int) < (L : Int) := by omega
      clear hcs hJ hP hpl hfx hx0 hx hze
      go_wp2_with fail
      go_region
      go_wp2_with fail
      go_roundw
      case rel => exact ⟨k + 1, by omega, by go_num, Lib.hid ((HP2.out wr (Below.refl _ _)).below (Drew.below (drew1 _) _)), Lib.hid ((HB2.out wr (Below.refl _ _)).trans (Drew.below (drew1 _) _)), Lib.hid ((HX2.out wr (Below.refl _ _)).below (Drew.below (drew1 _) _) (HX2.out wr (Below.refl _ _)).lt)⟩
      case measure => simp [intOf]; omega
    · obtain rfl : k = n := by omega
      obtain ⟨zt, hrt, hmc, hot, htr⟩ := hout.out.trimmed
      have HPL := Lib.hid (VF.lst_isP (V := V) (hiF_poly V L zs k (by omega)))
      have HPN := Lib.hid (VF.lst_len (V := V) (hiF_dlt V L zs k (by omega)))
      have HGP := Lib.hid (VF.lst_isP (V := V) (genF_poly V C))
      have HGN := Lib.hid (genF_length V C)
      have HER := Lib.hid (fun q r (h : VF.DivOf V (VF.lst V (hiF V L zs k)) (VF.lst V (genF V C)) q r) => show encR V L C zs = r by unfold encR; rw [hlen.out, VF.dqr_of HGP.out h])
      have HTR := Lib.hid (fun W (hb : Below wr.heap.size wr W) => l03Trim_any (cap := L) (hrt.below' hb) (Nat.le_refl _) (fun h => by cases h) (by omega))
      rw [htr] at HTR
      have HGE := Lib.hid (fun W => l04Generator_any hs W)
      simp only [Int.toNat_natCast] at HGE
      have HOV := Lib.hid (fun W (a6 : Option Addr) (n6 c6 : Nat) (hc6 : a6 = none → c6 = 0) (h6 : RowAt W a6 n6 (VF.lst V (hiF V L zs k))) (hn6 : n6 ≤ 4096) (a7 : Option Addr) (c7 : Nat) (h7 : RowAt W a7 (C + 1) (VF.lst V (genF V C))) => hs.sf.ldiv (cap := c6) (cap' := c7) h6 hc6 hn6 h7 (by omega) HPL.out HGP.out (by omega))
      clear hrt hot hmc htr
      generalize VF.lst V (hiF V L zs k) = pl at *
      generalize VF.lst V (genF V C) = gl at *
      go_wp2_with fail
      go_region_held3 (fun w' => w'.cell? ⟨w.heap.size, 0, none⟩ = some (.int .i64 p) ∧ w'.cell? ⟨w.heap.size, 1, none⟩ = some (.int .i64 pw) ∧ w'.cell? ⟨w.heap.size, 2, none⟩ = some (.int .i64 g) ∧ w'.cell? ⟨w.heap.size, 3, none⟩ = some (.int .i64 (L : Int)) ∧ w'.cell? ⟨w.heap.size, 4, none⟩ = some (.int .i64 (C : Int)))
        (first | go_keep | ((try (dsimp only)); go_split_ands; (repeat' apply And.intro); all_goals (first | go_keep | exact keep_cell hbO (by assumption) | exact keep_cell hbG (by assumption) | exact keep_cell hbT (by assumption))))
        (first
          | (go_at_call 135; refine (HTR.out _ ?_).mono ?_; (first | exact Drew.below (drew1 wr) _ | exact hbg); rintro e w3 ⟨v3, rfl, hbT, hoT⟩; obtain ⟨a3, c3', rfl, hc3', h3⟩ := hoT.shape)
          | (go_at_call 151; refine (HGE.out _).mono ?_; rintro e w4 ⟨v4, rfl, hbG, hoG⟩; obtain ⟨a4, c4', rfl, -, h4⟩ := hoG.shape; rw [HGN.out] at h4 ⊢)
          | (go_at_call 150; refine (HOV.out _ a3 _ c3' hc3' (by first | exact h3.row | exact h3.row.below' hbG) (by have := HPN.out; omega) a4 c4' (by first | exact h4.row | exact h4.row.below' hbT)).mono ?_; rintro e w5 ⟨v5, v6, q, r, rfl, hbO, _, hoO, hdv⟩))
      have hb5 := Below.more (Below.more (Below.trans (Drew.below (drew1 wr) wr.heap.size) hbT) (Nat.le_refl _) hbG) (Nat.le_refl _) hbO
      have HB5 := Lib.hid (hbel.out.trans (hb5.mono hbel.out.size))
      have HX5 := Lib.hid (hbox.out.below hb5 hlx)
      obtain ⟨ar, cr, rfl, -, h6'⟩ := hoO.shape
      have HRR := Lib.hid h6'.row
      have HEQ := Lib.hid (HER.out q r hdv)
      have hrl : r.length ≤ C := by have := hdv.len; rw [HGN.out] at this; omega
      have HRE := Lib.hid hdv.hr.els
      have HOW := Lib.hid (l01Own_any (cap := cap) (HR.out.below' HB5.out) HCA.out (by omega))
      obtain ⟨rl, hrl2⟩ : ∃ rl, r.length = rl := ⟨_, rfl⟩
      rw [hrl2] at hrl HRR ⊢
      clear hbO hoO hbG hbT hoT hoG h3 h4 hdv h6' hb5 c0 c1 c2 c3 c4 HOV HGE HTR HER
      go_wp2_with fail
      refine HOW.out.mono ?_
      rintro e w7 ⟨v7, rfl, hb7, ho7⟩
      have HB7 := Lib.hid hb7
      have HX7 := Lib.hid (HX5.out.below hb7 HX5.out.lt)
      have HO7 := Lib.hid (show OwnL w7 w5.heap.size v7 (zs ++ chkTo V.F r C 0) by show OwnL _ _ _ (zs ++ []); rw [List.append_nil]; exact ho7)
      obtain ⟨_, c0, c1, c2, c3, c4⟩ := HX7.out
      clear hb7 ho7 HOW
      go_wp2_with fail
      clear c0 c1 c2 c3 c4
      go_loopw [9, 10] (fun vo t wr => ∃ j : Nat, j ≤ C ∧ t = .int .i64 ((C : Int) - 1 - (j : Int)) ∧ Hid (OwnL wr w5.heap.size vo (zs ++ chkTo V.F r C j)) ∧ Hid (Below w5.heap.size w5 wr)) (fun _ t _ => (intOf t + 1).toNat)
      case atStart => exact ⟨0, by omega, by simp, HO7, HB7⟩
      case round =>
        obtain ⟨j, hj, rfl, ho, hb2⟩ := hrel
        clear HO7 HB7
        have HBW := Lib.hid (HB5.out.trans (hb2.out.mono HB5.out.size))
        by_cases hj2 : j < C
        · obtain ⟨i, hi⟩ : ∃ i : Nat, C - 1 - j = i := ⟨_, rfl⟩
          have ei : (C : Int) - 1 - (j : Int) = (i : Int) := by omega
          have hge : (0 : Int) ≤ (i : Int) := by omega
          have hll : (zs ++ chkTo V.F r C j).length ≤ 16777216 := by rw [List.length_append, chkTo_length, hlen.out]; omega
          have HST := Lib.hid (show (zs ++ chkTo V.F r C j) ++ [V.F.neg (gi r i)] = zs ++ chkTo V.F r C (j + 1) by rw [chkTo_succ, hi, List.append_assoc])
          have e9 : (C : Int) - 1 - ((j + 1 : Nat) : Int) = (i : Int) - 1 := by omega
          have E9 := Lib.hid e9
          have hib : i < C := by omega
          have hre : V.F.el (gi r i) := HRE.out.getD i
          have HNG := Lib.hid (fun W => hs.sf.neg (gi r i) hre W)
          have HAT := Lib.hid (fun W (hb : Below wr.heap.size wr W) => l03At_any (cap := cr) ((HRR.out.below' hb2.out).below' hb) i (by omega))
          obtain ⟨hlx5, c0, c1, c2, c3, c4⟩ := HX5.out.below hb2.out HX5.out.lt
          rw [ei]
          clear ei e9 hi hre
          generalize zs ++ chkTo V.F r C j = lj at *
          generalize V.F.neg (gi r i) = ng at *
          generalize gi r i = g1 at *
          go_wp2_with fail
          go_region_held3 (fun w' => w'.cell? ⟨w.heap.size, 0, none⟩ = some (.int .i64 p) ∧ w'.cell? ⟨w.heap.size, 1, none⟩ = some (.int .i64 pw) ∧ w'.cell? ⟨w.heap.size, 2, none⟩ = some (.int .i64 g))
            (first | go_keep | ((try (dsimp only)); go_split_ands; (repeat' apply And.intro); all_goals (first | go_keep | exact keep_cell hbN (by assumption) | (rw [hb8.cell (by have := HX5.out.lt; simp; omega)]; first | assumption | exact keep_cell hbN (by assumption)))))
            (first | (go_at_call 152; refine (HAT.out _ (Drew.below (drew1 wr) _)).mono ?_; rintro e w6 ⟨rfl, rfl⟩) | (go_at_call 71; refine (HNG.out _).mono ?_; rintro e w6 ⟨rfl, hbN⟩) | (have hbNx := hbN; refine step_one rfl _ _ _ rfl Try.underlying26 ng (ho.out.below ((Drew.below (drew1 wr) _).trans hbN)) rfl _ rfl rfl hll ?_; intro v' w8 hown8 hb8))
          all_goals
            rw [HST.out] at hown8
            have HB8 := Lib.hid (hb2.out.trans (((Drew.below (drew1 wr) w5.heap.size).trans (hbN.mono hb2.out.size)).trans hb8))
            have HO8 := Lib.hid hown8
            clear hown8 hb8 hbN
            go_wp2_with fail
            go_roundw
            case rel => exact ⟨j + 1, by omega, by rw [E9.out], HO8, HB8⟩
            case measure => simp [intOf]
        · obtain rfl : j = C := by omega
          have hge : ¬ (0 : Int) ≤ (j : Int) - 1 - (j : Int) := by omega
          have HFI := Lib.hid (show zs ++ chkTo V.F r j j = encL V L j zs by unfold encL; rw [HEQ.out])
          rw [HFI.out] at ho
          go_wp2_with fail
          go_ret
          exact ⟨_, rfl, HBW.out, ho.out.lower HB5.out.size⟩
end Go.Proofs.Ytfhkkpfiflgofaa
