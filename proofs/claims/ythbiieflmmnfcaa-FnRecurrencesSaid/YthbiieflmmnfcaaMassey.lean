/-
  The walk of the reference's search for the shortest recurrence.
-/
import Derived.Test.YthbiieflmmnfcaaRegs
namespace Go.Proofs.Ythbiieflmmnfcaa
open Go.RowKit
set_option linter.unusedVariables false

def shL (s : Nat) (zs : List Int) : List Int := if zs = [] then [] else List.replicate s 0 ++ zs
theorem l06Shift_any {w : World} {a : Option Addr} {n cap : Nat} {zs : List Int} (hr : RowAt w a n zs) (hca : a = none → cap = 0) (hn : n ≤ 4096) (s : Nat) (hs : s ≤ 4096) :
    Calls Try.prog 186 #[.slice a n cap, .int .i64 s] w fun e w' => ∃ v, e = .returned v ∧ Below w.heap.size w w' ∧ OwnL w' w.heap.size v (shL s zs) := by
  have HR := Lib.hid hr
  have hl := Lib.hid hr.len
  have HCA := Lib.hid hca
  clear hr hca
  by_cases h0 : n = 0
  · subst h0
    have hz : zs = [] := List.eq_nil_of_length_eq_zero hl.out
    have hf := Lib.hid (show shL s zs = [] by unfold shL; rw [if_pos hz])
    have hd : (((0 : Nat) : Int) == 0) = true := rfl
    clear hz
    go_enter Try.func186, Try.ntmps186
    go_wp2_with fail
    go_ret
    exact ⟨_, rfl, below1 _ _, by rw [hf.out]; exact OwnL.empty w _ (Nat.le_refl _) _ rfl⟩
  · have hd : ((n : Int) == 0) = false := by simp; omega
    have hz : zs ≠ [] := fun h => h0 (by have := hl.out; rw [h] at this; simpa using this.symm)
    have hf := Lib.hid (show shL s zs = List.replicate s 0 ++ zs by unfold shL; rw [if_neg hz])
    have hmk := fun w => run_make_ints w 26 Try.underlying26 (s : Int) (by omega) (by omega)
    simp only [Int.toNat_natCast] at hmk
    clear hz h0
    go_enter Try.func186, Try.ntmps186
    go_wp2_with (at_builtin; refine append_row rfl _ _ _ rfl Try.underlying26 (OwnL.zeros w _ (Nat.le_refl _) s (by omega)) rfl _ (HR.out.below' (below1 _ _)) rfl HCA.out (by simp; omega) ?_; intro v1 w1 hown1 hb1)
    go_ret
    exact ⟨_, rfl, Below.trans (below1 _ _) hb1, by rw [hf.out]; exact hown1⟩
theorem shift_lst {V : VF} {zs : List Int} (h : VF.isP V zs) (s : Nat) : shL s zs = VF.lst V (VF.xp V s * VF.ps V zs) := by
  unfold shL
  by_cases hz : zs = []
  · rw [if_pos hz, hz, VF.ps_nil, show VF.xp V s * (0 : PS (El V)) = 0 by grind]; exact ((VF.lst_nil PS.isPoly_zero).2 rfl).symm
  · rw [if_neg hz]; exact (VF.lst_of (VF.isP_shift h hz s) (VF.ps_shift zs s)).symm
theorem shL_len (s : Nat) (zs : List Int) : (shL s zs).length ≤ s + zs.length := by
  unfold shL; split
  · simp
  · simp
theorem bmNext_shift {V : VF} {zs : List Int} {k : Nat} (hok : BmOk V (VF.ps V zs) k) {m by' : Int} (hm : V.F.el m) (hq : VF.of V m = ((bm V (VF.ps V zs) k).now * VF.ps V zs).c k) (hb : V.F.neg (V.F.mul m (V.F.inv (bm V (VF.ps V zs) k).last.val)) = by') :
    VF.lst V (VF.ps V (VF.lst V (bm V (VF.ps V zs) k).now) + VF.ps V (VF.lst V (VF.ps V [by'] * VF.ps V (shL (bm V (VF.ps V zs) k).shift (VF.lst V (bm V (VF.ps V zs) k).before))))) = VF.lst V (bmNext V (VF.ps V zs) k) := by
  have hi := FF.inv_el V.ok (bm V (VF.ps V zs) k).last.val
  have e : VF.of V by' = -(((bm V (VF.ps V zs) k).now * VF.ps V zs).c k * VF.of V (V.F.inv (bm V (VF.ps V zs) k).last.val)) := by
    rw [← hb, VF.of_neg (FF.mul_el V.ok _ _), VF.of_mul hm hi, hq]
  rw [shift_lst (VF.lst_isP hok.before), VF.ps_single, VF.lst_eq hok.now, VF.lst_eq hok.before, VF.lst_eq ((xp_poly _).mul hok.before), e]
  rw [VF.lst_eq ((PS.isPoly_C _).mul ((xp_poly _).mul hok.before))]
  rfl
theorem Miss.zero {V : VF} (S : PS (El V)) (k : Nat) : Miss V S k 0 0 := ⟨FF.zero_el V.ok, VF.of_zero⟩
theorem Miss.full' {V : VF} {zs : List Int} {k i : Nat} {m : Int} (h : Miss V (VF.ps V zs) k i m) (hok : BmOk V (VF.ps V zs) k) (hi : (VF.lst V (bm V (VF.ps V zs) k).now).length ≤ i ∨ i = k + 1) (hk : i ≤ k + 1) :
    VF.of V m = ((bm V (VF.ps V zs) k).now * VF.ps V zs).c k := by
  rw [h.eq]
  have hd : (bm V (VF.ps V zs) k).now.dlt (VF.lst V (bm V (VF.ps V zs) k).now).length := by
    have := VF.ps_dlt (V := V) (VF.lst V (bm V (VF.ps V zs) k).now)
    rw [VF.lst_eq hok.now] at this; exact this
  exact PS.ms_full hd hi hk
set_option maxRecDepth 100000 in
set_option maxHeartbeats 16000000 in
theorem l06Massey_any {V : VF} {p pw g : Int} (hs : SF V p pw g) {w : World} {a : Option Addr} {n cap : Nat} {zs : List Int} (hr : RowAt w a n zs) (hn : n ≤ 64) (hz : VF.els V zs) :
    Calls Try.prog 162 #[fV p pw g, .slice a n cap] w fun e w' => ∃ v, e = .returned (.tuple #[v, .int .i64 ((bm V (VF.ps V zs) n).L : Int)]) ∧ Below w.heap.size w w' ∧ OwnL w' w.heap.size v (VF.lst V (bm V (VF.ps V zs) n).now) := by
  have HR := Lib.hid hr
  have HZ := Lib.hid hz
  clear hr hz
  have HB0 := Lib.hid (((below1 w (.cells #[.int .i64 p, .int .i64 pw, .int .i64 g] FTa)).alloc (by simp) (.cells #[.int .i64 1] 2)).alloc (by simp; omega) (.cells #[.int .i64 1] 2))
  have HX0 := Lib.hid (((box_new w p pw g FTa).below (below1 _ (.cells #[.int .i64 1] 2)) (by simp)).below (below1 _ (.cells #[.int .i64 1] 2)) (by simp; omega))
  have HOA0 := Lib.hid ((OwnL.lit1 (w.alloc (.cells #[.int .i64 p, .int .i64 pw, .int .i64 g] FTa)) w.heap.size (by simp) (w.heap.size + 1) (by simp) 2 rfl).below (below1 _ (.cells #[.int .i64 1] 2)))
  have HOB0 := Lib.hid (OwnL.lit1 ((w.alloc (.cells #[.int .i64 p, .int .i64 pw, .int .i64 g] FTa)).alloc (.cells #[.int .i64 1] 2)) w.heap.size (by simp; omega) (w.heap.size + 1 + 1) (by simp) 2 rfl)
  have eone := Lib.hid (show VF.lst V (bm V (VF.ps V zs) 0).now = [1] from lst_one V)
  have eone' := Lib.hid (show VF.lst V (bm V (VF.ps V zs) 0).before = [1] from lst_one V)
  have eL := Lib.hid (show (.int .i64 ((bm V (VF.ps V zs) 0).last.val) : Value) = .int .i64 1 by rw [show (bm V (VF.ps V zs) 0).last.val = 1 from VF.one_val V])
  go_enter Try.func162, Try.ntmps162
  go_wp2_with fail
  go_loopw [6, 7, 8, 9, 10, 11] (fun vc vb vl vg vt t wr => ∃ (k ln cn lb cb L sh : Nat) (an ab : Option Addr) (la : Int), k ≤ n ∧ t = .int .i64 k ∧ vc = .slice an ln cn ∧ vb = .slice ab lb cb ∧ vl = .int .i64 L ∧ vg = .int .i64 sh ∧ vt = .int .i64 la ∧ Hid ((bm V (VF.ps V zs) k).L = L) ∧ Hid ((bm V (VF.ps V zs) k).shift = sh) ∧ Hid ((bm V (VF.ps V zs) k).last.val = la) ∧
    Hid ((VF.lst V (bm V (VF.ps V zs) k).now).length = ln) ∧ Hid ((VF.lst V (bm V (VF.ps V zs) k).before).length = lb) ∧ Hid (ab = none → cb = 0) ∧ Hid (OwnL wr w.heap.size (.slice an ln cn) (VF.lst V (bm V (VF.ps V zs) k).now)) ∧ Hid (OwnL wr w.heap.size (.slice ab lb cb) (VF.lst V (bm V (VF.ps V zs) k).before)) ∧ Hid (Below w.heap.size w wr) ∧ Hid (Box wr w.heap.size p pw g)) (fun _ _ _ _ _ t _ => (n - intOf t).toNat)
  case atStart => exact ⟨0, 1, 1, 1, 1, 0, 1, _, _, 1, by omega, rfl, rfl, rfl, rfl, rfl, rfl, Lib.hid rfl, Lib.hid rfl, Lib.hid (VF.one_val V), Lib.hid (by rw [eone.out]; rfl), Lib.hid (by rw [eone'.out]; rfl), Lib.hid (fun h => by cases h), Lib.hid (by rw [eone.out]; exact HOA0.out), Lib.hid (by rw [eone'.out]; exact HOB0.out), HB0, HX0⟩
  case round =>
    obtain ⟨k, ln, cn, lb, cb, L, sh, an, ab, la, hk, rfl, rfl, rfl, rfl, rfl, rfl, hL, hsh, hla, hln, hlb, hcb, hoa, hob, hbel, hbox⟩ := hrel
    clear HB0 HX0 HOA0 HOB0
    by_cases hlt : k < n
    · have hok := bm_ok (V := V) (VF.ps V zs) k
      have HOK := Lib.hid hok
      have hb1 := hok.nlen
      rw [hln.out, hL.out] at hb1
      have hb2 := hok.blen
      rw [hlb.out] at hb2
      have hb3 := hok.le
      rw [hL.out] at hb3
      have hb4 := hok.shift
      rw [hsh.out] at hb4
      clear hok
      obtain ⟨wo, rfl⟩ : ∃ wo : World, wo = wr := ⟨_, rfl⟩
      go_wp2_with fail
      go_loopw [12, 13] (fun ms t wr => ∃ (i : Nat) (m : Int), i ≤ ln ∧ t = .int .i64 i ∧ ms = .int .i64 m ∧ Hid (Miss V (VF.ps V zs) k i m) ∧ Hid (Below wo.heap.size wo wr)) (fun _ t _ => (ln - intOf t).toNat)
      case atStart => exact ⟨0, 0, by omega, rfl, rfl, Lib.hid (Miss.zero _ _), Lib.hid (Below.refl _ _)⟩
      case round =>
        obtain ⟨i, m, hi1, rfl, rfl, hm, hbw⟩ := hrel
        have HX := Lib.hid (hbox.out.below hbw.out hbox.out.lt)
        have HA := Lib.hid (hoa.out.below hbw.out)
        have HB := Lib.hid (hob.out.below hbw.out)
        have HBEL := Lib.hid (hbel.out.trans (hbw.out.mono hbel.out.size))
        by_cases hin : i < ln ∧ i ≤ k
        · obtain ⟨hi2, hi3⟩ := hin
          obtain ⟨_, _, e5, -, hra⟩ := HA.out.shape
          simp only [Value.slice.injEq] at e5
          obtain ⟨rfl, -, -⟩ := e5
          rw [hln.out] at hra
          obtain ⟨b2, o2, rfl, hb2', hcs⟩ := hra.row.at' (by omega)
          have hcn := hcs i hi2
          obtain ⟨b3, o3, rfl, hb3', hcs3⟩ := (HR.out.below' HBEL.out).at' (by omega)
          obtain ⟨J, hJ⟩ : ∃ J, k - i = J := ⟨_, rfl⟩
          have hcz := hcs3 J (by omega)
          have HNX := Lib.hid (hm.out.next HZ.out HOK.out)
          rw [hJ] at HNX
          have he1 : V.F.el (gi (VF.lst V (bm V (VF.ps V zs) k).now) i) := (VF.lst_isP HOK.out.now).els.getD i
          have he2 : V.F.el (gi zs J) := HZ.out.getD J
          have hmm := FF.mul_el V.ok (gi (VF.lst V (bm V (VF.ps V zs) k).now) i) (gi zs J)
          have HM := Lib.hid (fun W => hs.mul _ _ he1 he2 W)
          have HAD := Lib.hid (fun W => hs.add m _ hm.out.el hmm W)
          have eJ : (k : Int) - (i : Int) = (J : Int) := by omega
          have q1 : IntKind.i64.wrap (J : Int) = (J : Int) := IntWalk.i64_in _ (by omega)
          have q2 : (J : Int) < (n : Int) := by omega
          obtain ⟨hlx, c0, c1, c2⟩ := HX.out
          clear hcs hcs3 hra hJ he1 he2 hmm
          generalize V.F.mul (gi (VF.lst V (bm V (VF.ps V zs) k).now) i) (gi zs J) = y at *
          generalize gi (VF.lst V (bm V (VF.ps V zs) k).now) i = y1 at *
          generalize gi zs J = y2 at *
          go_wp2_with fail
          go_region_held3 (fun w' => w'.cell? ⟨b2, o2 + i, none⟩ = some (.int .i64 y1) ∧ w'.cell? ⟨b3, o3 + J, none⟩ = some (.int .i64 y2) ∧ w'.cell? ⟨w.heap.size, 0, none⟩ = some (.int .i64 p) ∧ w'.cell? ⟨w.heap.size, 1, none⟩ = some (.int .i64 pw) ∧ w'.cell? ⟨w.heap.size, 2, none⟩ = some (.int .i64 g))
            (first | go_keep | ((try (dsimp only)); go_split_ands; (repeat' apply And.intro); all_goals (first | go_keep | exact keep_cell hbA (by assumption) | exact keep_cell hbM (by assumption))))
            (first | (go_at_call 163; refine (HM.out _).mono ?_; rintro e w5 ⟨rfl, hbM⟩) | (go_at_call 117; refine (HAD.out _).mono ?_; rintro e w6 ⟨rfl, hbA⟩))
          have hbb := Below.more (Below.trans (Drew.below (drew1 wr) wr.heap.size) hbM) (Nat.le_refl _) hbA
          have HBB := Lib.hid (hbw.out.trans (hbb.mono hbw.out.size))
          clear hbM hbA hbb
          go_wp2_with fail
          go_roundw
          case rel => exact ⟨i + 1, _, by omega, by go_num, rfl, HNX, HBB⟩
          case measure => simp [intOf]; omega
        · obtain rfl : i = ln := by omega
          have hfull := hm.out.full' HOK.out (.inl (Nat.le_of_eq hln.out)) (by omega)
          by_cases h0 : m = 0
          · subst h0
            have hz0 : ((bm V (VF.ps V zs) k).now * VF.ps V zs).c k = 0 := by rw [← hfull]; exact VF.of_zero
            have EN := Lib.hid (bm_zero (VF.ps V zs) hz0)
            have hs1 : (bm V (VF.ps V zs) (k + 1)).shift = sh + 1 := by rw [EN.out, ← hsh.out]
            have HS1 := Lib.hid hs1
            have HL1 := Lib.hid (show (bm V (VF.ps V zs) (k + 1)).L = L by rw [EN.out]; exact hL.out)
            have HLA1 := Lib.hid (show (bm V (VF.ps V zs) (k + 1)).last.val = la by rw [EN.out]; exact hla.out)
            have EC := Lib.hid (show (bm V (VF.ps V zs) (k + 1)).now = (bm V (VF.ps V zs) k).now by rw [EN.out])
            have EB := Lib.hid (show (bm V (VF.ps V zs) (k + 1)).before = (bm V (VF.ps V zs) k).before by rw [EN.out])
            clear hz0 hs1 hfull
            go_wp2_with fail
            go_roundw
            case rel => exact ⟨k + 1, i, cn, lb, cb, L, sh + 1, an, ab, la, by omega, by go_num, rfl, rfl, rfl, by go_num, rfl, HL1, HS1, HLA1, Lib.hid (by rw [EC.out]; exact hln.out), Lib.hid (by rw [EB.out]; exact hlb.out), hcb, Lib.hid (by rw [EC.out]; exact HA.out), Lib.hid (by rw [EB.out]; exact HB.out), HBEL, HX⟩
            case measure => simp [intOf]; omega
          · obtain ⟨_, _, e5, hcn, hra⟩ := HA.out.shape
            simp only [Value.slice.injEq] at e5
            obtain ⟨rfl, -, rfl⟩ := e5
            rw [hln.out] at hra
            have HRA := Lib.hid hra.row
            have HCN := Lib.hid hcn
            obtain ⟨_, _, e6, -, hrb⟩ := HB.out.shape
            simp only [Value.slice.injEq] at e6
            obtain ⟨rfl, -, -⟩ := e6
            rw [hlb.out] at hrb
            have HRB := Lib.hid hrb.row
            clear hcn hra hrb
            have hel : V.F.el la := by rw [← hla.out]; exact (bm V (VF.ps V zs) k).last.el
            have hne : la ≠ 0 := by rw [← hla.out]; exact HOK.out.last
            have hi' := FF.inv_el V.ok la
            have hmm := FF.mul_el V.ok m (V.F.inv la)
            have HI := Lib.hid (fun W => hs.inv la hel hne W)
            have HM := Lib.hid (fun W => hs.mul m (V.F.inv la) hm.out.el hi' W)
            have HN := Lib.hid (fun W => hs.neg (V.F.mul m (V.F.inv la)) hmm W)
            have hne' : ((m : Int) == 0) = false := by simpa using h0
            obtain ⟨y3, hy3⟩ : ∃ y3, V.F.neg (V.F.mul m (V.F.inv la)) = y3 := ⟨_, rfl⟩
            have HY3 := Lib.hid hy3
            rw [hy3] at HN
            clear hy3
            have HF := Lib.hid hfull
            obtain ⟨hlx, c0, c1, c2⟩ := HX.out
            clear hfull hel hne hi' hmm
            generalize hz2 : V.F.mul m (V.F.inv la) = y2 at HM HN
            clear hz2
            generalize hz1 : V.F.inv la = y1 at HM HI
            clear hz1
            go_wp2_with fail
            go_region_held3 (fun w' => w'.cell? ⟨w.heap.size, 0, none⟩ = some (.int .i64 p) ∧ w'.cell? ⟨w.heap.size, 1, none⟩ = some (.int .i64 pw) ∧ w'.cell? ⟨w.heap.size, 2, none⟩ = some (.int .i64 g))
              (first | go_keep | ((try (dsimp only)); go_split_ands; (repeat' apply And.intro); all_goals (first | go_keep | exact keep_cell hbN (by assumption) | exact keep_cell hbM (by assumption) | exact keep_cell hbI (by assumption))))
              (first | (go_at_call 171; refine (HI.out _).mono ?_; rintro e w3 ⟨rfl, hbI⟩) | (go_at_call 163; refine (HM.out _).mono ?_; rintro e w4 ⟨rfl, hbM⟩) | (go_at_call 102; refine (HN.out _).mono ?_; rintro e w5 ⟨rfl, hbN⟩))
            have hb5 := Below.more (Below.more (Below.trans (Drew.below (drew1 wr) wr.heap.size) hbI) (Nat.le_refl _) hbM) (Nat.le_refl _) hbN
            have HX5 := Lib.hid (HX.out.below hb5 HX.out.lt)
            have HA5 := Lib.hid (HA.out.below hb5)
            have HB5 := Lib.hid (HB.out.below hb5)
            have HBEL5 := Lib.hid (HBEL.out.trans (hb5.mono HBEL.out.size))
            have HRA5 := Lib.hid (HRA.out.below' hb5)
            have HRB5 := Lib.hid (HRB.out.below' hb5)
            clear hbI hbM hbN hb5 hlx c0 c1 c2 HRA HRB
            have HBN := Lib.hid (bmNext_shift (by' := y3) HOK.out hm.out.el HF.out (by rw [hla.out]; exact HY3.out))
            rw [hsh.out] at HBN
            have HSLEN := Lib.hid (shL_len sh (VF.lst V (bm V (VF.ps V zs) k).before))
            rw [hlb.out] at HSLEN
            have HSE := Lib.hid (show VF.els V (shL sh (VF.lst V (bm V (VF.ps V zs) k).before)) by rw [shift_lst (VF.lst_isP HOK.out.before)]; exact (VF.lst_isP ((xp_poly _).mul (by rw [VF.lst_eq HOK.out.before]; exact HOK.out.before))).els)
            have HNE := Lib.hid (VF.lst_isP HOK.out.now).els
            have HYE := Lib.hid (show VF.els V [y3] from fun z hz => by simp at hz; subst hz; rw [← HY3.out]; exact FF.neg_el (FF.mul_el V.ok _ _))
            have HSH := Lib.hid (fun W (hb : Below w5.heap.size w5 W) => l06Shift_any (cap := cb) (HRB5.out.below' hb) hcb.out (by omega) sh (by omega))
            generalize shL sh (VF.lst V (bm V (VF.ps V zs) k).before) = zt at *
            have HMU := Lib.hid (fun W (bx : Nat) (hb : RowAt W (some ⟨bx, 0, none⟩) 1 [y3]) (a7 : Option Addr) (c7 : Nat) (hr7 : RowAt W a7 zt.length zt) => hs.lmul (cap := 1) (cap' := c7) hb (by omega) hr7 (by have := HSLEN.out; omega) HYE.out HSE.out)
            have HML := Lib.hid (VF.lst_mul_len (V := V) [y3] zt)
            have HME := Lib.hid (VF.lst_isP (V := V) (PS.IsPoly.mul ⟨_, VF.ps_dlt (V := V) [y3]⟩ ⟨_, VF.ps_dlt zt⟩)).els
            generalize VF.lst V (VF.ps V [y3] * VF.ps V zt) = zu at *
            have HAD := Lib.hid (fun W (hb : Below w5.heap.size w5 W) (a8 : Option Addr) (c8 : Nat) (hr8 : RowAt W a8 zu.length zu) => hs.ladd (cap := cn) (cap' := c8) (HRA5.out.below' hb) (by omega) hr8 (by have := HSLEN.out; have := HML.out; simp at this; omega) HNE.out HME.out)
            rw [HBN.out] at HAD
            obtain ⟨hlx, c0, c1, c2⟩ := HX5.out
            have HDW := Lib.hid (show Below w5.heap.size w5 (w5.alloc (.cells #[.int .i64 y3] 2)).drew from (below1 w5 (.cells #[.int .i64 y3] 2)).trans (Drew.below (drew1 _) _))
            have HRW := Lib.hid (show RowAt (w5.alloc (.cells #[.int .i64 y3] 2)).drew (some ⟨w5.heap.size, 0, none⟩) 1 [y3] from (row_one w5 y3 2 _ rfl).below' (Drew.below (drew1 _) _))
            go_wp2_with fail
            go_region_held3 (fun w' => w'.cell? ⟨w.heap.size, 0, none⟩ = some (.int .i64 p) ∧ w'.cell? ⟨w.heap.size, 1, none⟩ = some (.int .i64 pw) ∧ w'.cell? ⟨w.heap.size, 2, none⟩ = some (.int .i64 g))
              (first | go_keep | ((try (dsimp only)); go_split_ands; (repeat' apply And.intro); all_goals (first | go_keep | exact keep_cell hbA (by assumption) | exact keep_cell hbM (by assumption) | exact keep_cell hbS (by assumption))))
              (first | (go_at_call 186; refine (HSH.out _ ?_).mono ?_; (first | exact HDW.out | exact Drew.below (drew1 w5) _); rintro e w6 ⟨v6, rfl, hbS, hoS⟩; obtain ⟨a6, c6, rfl, -, hr6⟩ := hoS.shape; have hb6 : Below w5.heap.size w5 w6 := (by first | exact Below.more HDW.out (Nat.le_refl _) hbS | exact Below.more (Drew.below (drew1 w5) _) (Nat.le_refl _) hbS)) | (go_at_call 166; refine (HMU.out w6 _ (HRW.out.below' hbS) a6 c6 hr6.row).mono ?_; rintro e w7 ⟨v7, rfl, hbM, hoM⟩; obtain ⟨a7, c7, rfl, -, hr7⟩ := hoM.shape; have hb7 := Below.more hb6 (Nat.le_refl _) hbM) | (go_at_call 166; refine (HMU.out (w6.alloc (.cells #[.int .i64 y3] 2)) _ (row_one w6 y3 2 _ rfl) a6 c6 (hr6.row.below' (below1 w6 _))).mono ?_; rintro e w7 ⟨v7, rfl, hbM, hoM⟩; obtain ⟨a7, c7, rfl, -, hr7⟩ := hoM.shape; have hb7 := Below.more (Below.more hb6 (Nat.le_refl _) (below1 w6 (.cells #[.int .i64 y3] 2))) (Nat.le_refl _) hbM) | (go_at_call 185; refine (HAD.out w7 hb7 a7 c7 hr7.row).mono ?_; rintro e w8 ⟨v8, rfl, hbA, hoA⟩))
            all_goals
              have hb8 := Below.more hb7 (Nat.le_refl _) hbA
              obtain ⟨a8, c8, rfl, hc8, -⟩ := hoA.shape
              have HO8 := Lib.hid (hoA.lower (C := w.heap.size) (by have := hb7.size; have := HBEL5.out.size; omega))
              have HX8 := Lib.hid (HX5.out.below hb8 hlx)
              have HA8 := Lib.hid (HA5.out.below hb8)
              have HB8 := Lib.hid (HB5.out.below hb8)
              have HBEL8 := Lib.hid (HBEL5.out.trans (hb8.mono HBEL5.out.size))
              have HC8 := Lib.hid hc8
              have hnz : ¬ ((bm V (VF.ps V zs) k).now * VF.ps V zs).c k = 0 := fun e => h0 (by have := congrArg El.val (HF.out.trans e); rw [VF.of_val hm.out.el] at this; exact this)
              have HVAL := Lib.hid (show (((bm V (VF.ps V zs) k).now * VF.ps V zs).c k).val = m by rw [← HF.out]; exact VF.of_val hm.out.el)
              clear hb8 hb7 hbA hoA hbM hbS hoS hoM hr6 hr7 hb6 hc8 c0 c1 c2 hlx HDW HRW HSH HMU HAD HI HM HN
              have q1 : IntKind.i64.wrap (2 * (L : Int)) = 2 * (L : Int) := IntWalk.i64_in _ (by omega)
              by_cases hlong : 2 * L ≤ k
              · have hlong' : 2 * (L : Int) ≤ (k : Int) := by omega
                have EN := Lib.hid (bm_long (VF.ps V zs) hnz (by rw [hL.out]; exact hlong))
                have HL1 := Lib.hid (show (bm V (VF.ps V zs) (k + 1)).L = k + 1 - L by rw [EN.out, ← hL.out])
                have HS1 := Lib.hid (show (bm V (VF.ps V zs) (k + 1)).shift = 1 by rw [EN.out])
                have HLA1 := Lib.hid (show (bm V (VF.ps V zs) (k + 1)).last.val = m by rw [EN.out]; exact HVAL.out)
                have EC := Lib.hid (show (bm V (VF.ps V zs) (k + 1)).now = bmNext V (VF.ps V zs) k by rw [EN.out])
                have EB := Lib.hid (show (bm V (VF.ps V zs) (k + 1)).before = (bm V (VF.ps V zs) k).now by rw [EN.out])
                have eL : (k : Int) + 1 - (L : Int) = ((k + 1 - L : Nat) : Int) := by omega
                go_wp2_with fail
                go_roundw
                case rel => exact ⟨k + 1, _, c8, i, cn, k + 1 - L, 1, a8, an, m, by omega, by go_num, rfl, rfl, (by first | (rw [← eL]; go_num) | (rw [← eL]) | go_num), rfl, rfl, HL1, HS1, HLA1, Lib.hid (by rw [EC.out]), Lib.hid (by rw [EB.out]; exact hln.out), HCN, Lib.hid (by rw [EC.out]; exact HO8.out), Lib.hid (by rw [EB.out]; exact HA8.out), HBEL8, HX8⟩
                case measure => simp [intOf]; omega
              · have hlong' : ¬ 2 * (L : Int) ≤ (k : Int) := by omega
                have EN := Lib.hid (bm_short (VF.ps V zs) hnz (by rw [hL.out]; exact hlong))
                have HL1 := Lib.hid (show (bm V (VF.ps V zs) (k + 1)).L = L by rw [EN.out]; exact hL.out)
                have HS1 := Lib.hid (show (bm V (VF.ps V zs) (k + 1)).shift = sh + 1 by rw [EN.out, ← hsh.out])
                have HLA1 := Lib.hid (show (bm V (VF.ps V zs) (k + 1)).last.val = la by rw [EN.out]; exact hla.out)
                have EC := Lib.hid (show (bm V (VF.ps V zs) (k + 1)).now = bmNext V (VF.ps V zs) k by rw [EN.out])
                have EB := Lib.hid (show (bm V (VF.ps V zs) (k + 1)).before = (bm V (VF.ps V zs) k).before by rw [EN.out])
                go_wp2_with fail
                go_roundw
                case rel => exact ⟨k + 1, _, c8, lb, cb, L, sh + 1, a8, ab, la, by omega, by go_num, rfl, rfl, rfl, by go_num, rfl, HL1, HS1, HLA1, Lib.hid (by rw [EC.out]), Lib.hid (by rw [EB.out]; exact hlb.out), hcb, Lib.hid (by rw [EC.out]; exact HO8.out), Lib.hid (by rw [EB.out]; exact HB8.out), HBEL8, HX8⟩
                case measure => simp [intOf]; omega
    · obtain rfl : k = n := by omega
      go_wp2_with fail
      go_ret2
      exact ⟨_, by rw [hL.out]; rfl, hbel.out, hoa.out⟩
end Go.Proofs.Ythbiieflmmnfcaa
