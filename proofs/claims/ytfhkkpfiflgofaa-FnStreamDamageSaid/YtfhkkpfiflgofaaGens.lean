/-
  The parts OnP, Synd, Generator, GenOf.
-/
import Derived.Test.YtfhkkpfiflgofaaCodes
import Derived.Test.YtfhkkpfiflgofaaOwn
import Derived.Test.YtfhkkpfiflgofaaQuo
import Derived.Test.YtfhkkpfiflgofaaLanes
import Derived.Test.YtfhkkpfiflgofaaMathG
/-
  What the functions on polynomials answer.
-/
namespace Go.Proofs.Ytfhkkpfiflgofaa
open Go.RowKit
set_option linter.unusedVariables false

/-- The field of three valid numbers. -/
def vfOf (p pw g : Int) (h : validB p pw g = true) : VF := ⟨ffOf p pw g, ffOf_ok h⟩
open Classical in
noncomputable def onP (p pw g : Int) (L : List (List Int)) (f : VF → List Int) : List Int := if h : codeP p pw g L = 0 then f (vfOf p pw g (codeP_zero h).1) else []
theorem SF.vf {p pw g : Int} (h : validB p pw g = true) : SF (vfOf p pw g h) p pw g := ⟨h, rfl⟩
noncomputable def addR (p pw g : Int) (x y : List Int) : List Int := onP p pw g [x, y] fun V => VF.lst V (VF.ps V x + VF.ps V y)
end Go.Proofs.Ytfhkkpfiflgofaa
/-
  The walks of the syndromes of a word.
-/
namespace Go.Proofs.Ytfhkkpfiflgofaa
open Go.RowKit
set_option linter.unusedVariables false

/-- The value of the polynomial of a word: the first k elements. -/
def svTo (F : FF) (zs : List Int) (x : Int) : Nat → Int
  | 0 => 0
  | k + 1 => F.add (F.mul (svTo F zs x k) x) (gi zs k)
theorem svTo_el {F : FF} (h : F.ok) {zs : List Int} (hz : ∀ z ∈ zs, F.el z) (x : Int) (k : Nat) : F.el (svTo F zs x k) := by
  cases k with
  | zero => exact FF.zero_el h
  | succ k => exact FF.add_el h (FF.mul_el h _ _) (el_gi h hz k)
/-- The syndromes of a word, as many as c. -/
def syn (F : FF) (zs : List Int) (c : Nat) : List Int := (List.range c).map fun j => svTo F zs (F.exp (j + 1)) zs.length
theorem syn_length (F : FF) (zs : List Int) (c : Nat) : (syn F zs c).length = c := by unfold syn; simp
theorem syn_gi (F : FF) (zs : List Int) {c j : Nat} (h : j < c) : gi (syn F zs c) j = svTo F zs (F.exp (j + 1)) zs.length := by
  unfold syn gi; rw [List.getD_eq_getElem?_getD]; simp [h]
/-- Whether all numbers are 0. -/
def zeroB (zs : List Int) : Bool := zs.all (· == 0)
theorem zeroB_not {zs : List Int} {k : Nat} (hk : k < zs.length) (h : gi zs k ≠ 0) : zeroB zs = false := by
  unfold zeroB
  cases h2 : zs.all (· == 0)
  · rfl
  · rw [List.all_eq_true] at h2
    have := h2 (zs[k]) (List.getElem_mem hk)
    unfold gi at h
    rw [List.getD_eq_getElem?_getD, List.getElem?_eq_getElem hk] at h
    simp at this h
    exact absurd this h
theorem zeroB_yes {zs : List Int} (h : ∀ k, k < zs.length → gi zs k = 0) : zeroB zs = true := by
  unfold zeroB
  rw [List.all_eq_true]
  intro z hz
  obtain ⟨k, hk, rfl⟩ := List.getElem_of_mem hz
  have := h k hk
  unfold gi at this
  rw [List.getD_eq_getElem?_getD, List.getElem?_eq_getElem hk] at this
  simpa using this
theorem implSyndromes_any (p pw g l c : Int) (hc0 : 0 ≤ c) (hc1 : c ≤ 64) (hv : validB p pw g = true) {w : World} {b : Nat} (hcod : Cod w b p pw g l c) {a : Option Addr} {n cap : Nat} {zs : List Int} (hr : RowAt w a n zs) (hel : ∀ z ∈ zs, (ffOf p pw g).el z) :
    Calls Try.prog 88 #[.pointer (some ⟨b, 0, none⟩), .slice a n cap] w fun e w' => ∃ v, e = .returned v ∧ Below w.heap.size w w' ∧ ResL w w' v (syn (ffOf p pw g) zs c.toNat) := by
  obtain ⟨C, rfl⟩ : ∃ C : Nat, c = (C : Int) := ⟨c.toNat, by omega⟩
  have hok := Lib.hid (ffOf_ok hv)
  have HR := Lib.hid hr
  have HE := Lib.hid hel
  have HCOD := Lib.hid hcod
  have hl := Lib.hid hr.len
  have hsm := hr.small
  obtain ⟨_, ⟨bc, e0, hcal⟩, e1, e2⟩ := hcod
  have hmk := fun w => run_make_ints w 26 Try.underlying26 (C : Int) (by omega) (by omega)
  simp only [Int.toNat_natCast] at hmk
  clear hr hel hv hcal
  simp only [Int.toNat_natCast]
  go_enter Try.func88, Try.ntmps88
  go_wp2_with fail
  clear hmk e0 e1 e2
  have ho0 := own_zeros w C (by omega)
  rw [show List.replicate C 0 = copyTo (syn (ffOf p pw g) zs C) 0 by unfold copyTo; simp [syn_length]] at ho0
  go_loopw [18] (fun t wr => ∃ k : Nat, k ≤ C ∧ t = .int .i64 k ∧ Hid (Below w.heap.size w wr) ∧ Hid (OwnAt wr w.heap.size (some ⟨w.heap.size, 0, none⟩) C (copyTo (syn (ffOf p pw g) zs C) k)) ∧ w.heap.size < wr.heap.size) (fun t _ => (C - intOf t).toNat)
  case atStart => exact ⟨0, by omega, rfl, below1 _ _, ho0, by simp⟩
  case round =>
    obtain ⟨k, hk, rfl, hbel, hown, hsz⟩ := hrel
    clear ho0
    by_cases hlt : k < C
    · obtain ⟨_, ⟨bc, e0, hcal⟩, e1, e2⟩ := HCOD.out.below hbel.out
      have HP := Lib.hid (power_any hcal ((k : Int) + 1) (by omega))
      have ht : ((k : Int) + 1).toNat = k + 1 := by omega
      rw [ht] at HP
      clear hcal ht
      go_wp2_with fail
      refine HP.out.mono ?_
      rintro e w1 ⟨rfl, q, rfl⟩
      go_wp2_with fail
      have hX := Lib.hid (FF.exp_el hok.out (k + 1))
      have hsyn := Lib.hid (syn_gi (ffOf p pw g) zs (c := C) (j := k) hlt)
      generalize (ffOf p pw g).exp (k + 1) = X at *
      clear e0 e1 e2
      go_loopw [8, 30] (fun o t wq => ∃ i : Nat, i ≤ n ∧ t = .int .i64 i ∧ o = .int .i64 (svTo (ffOf p pw g) zs X i) ∧ Drew wr wq) (fun _ t _ => (n - intOf t).toNat)
      case atStart => exact ⟨0, by omega, rfl, rfl, ⟨q, rfl⟩⟩
      case round =>
        obtain ⟨i, hi, rfl, rfl, hd⟩ := hrel
        have HD := Lib.hid hd
        clear hd
        by_cases h4 : i < n
        · obtain ⟨_, ⟨bc2, e0, hcal⟩, e1, e2⟩ := HCOD.out.below (hbel.out.trans (HD.out.below _))
          have hrow := HR.out.below' (hbel.out.trans (HD.out.below _))
          obtain ⟨b1, o1, rfl, hb1, hcs⟩ := hrow.at' (by omega)
          have hcell := hcs i h4
          have hstep := Lib.hid (show svTo (ffOf p pw g) zs X (i + 1) = (ffOf p pw g).add ((ffOf p pw g).mul (svTo (ffOf p pw g) zs X i) X) (gi zs i) from rfl)
          have hel1 := svTo_el hok.out HE.out X i
          have hel2 := el_gi hok.out HE.out i
          have hel3 := FF.mul_el hok.out (svTo (ffOf p pw g) zs X i) X
          have HM := Lib.hid (fun m => mul_any (hcal.drewN m) _ _ hel1 hX.out)
          have HA := Lib.hid (fun m => add_any (hcal.drewN m) _ _ hel3 hel2)
          clear hcs hrow hcal hel1 hel2 hel3
          generalize svTo (ffOf p pw g) zs X i = v at *
          generalize gi zs i = z at *
          go_wp2_with fail
          go_quiet (first | (go_at_call 66; exact Calls.quiet_of (HM.out _)) | (go_at_call 74; exact Calls.quiet_of_same ((HA.out _).mono fun e w' h => ⟨h.1, h.2.symm⟩)))
          go_wp2_with fail
          go_roundw
          case rel => exact ⟨i + 1, by omega, by go_num, by rw [hstep.out], HD.out.more _⟩
          case measure => simp [intOf]; omega
        · obtain rfl : i = n := by omega
          have howq := HD.out.own hown.out
          obtain ⟨hp, hfz, _⟩ := howq.place hlt
          have ho2 := Lib.hid (show OwnAt (wr.setCell ⟨w.heap.size, k, none⟩ (.int .i64 (svTo (ffOf p pw g) zs X i))) w.heap.size (some ⟨w.heap.size, 0, none⟩) C (copyTo (syn (ffOf p pw g) zs C) (k + 1)) by
            rw [copyTo_set _ _ (by rw [syn_length]; exact hlt), hsyn.out, hl.out]
            exact howq.set hlt _)
          have hbl2 := Lib.hid ((hbel.out.trans (HD.out.below _)).setCell (p := ⟨w.heap.size, k, none⟩) (Nat.le_refl _) (.int .i64 (svTo (ffOf p pw g) zs X i)))
          have hsq := (HD.out.below wr.heap.size).size
          have HS2 := Lib.hid (show w.heap.size < (wr.setCell ⟨w.heap.size, k, none⟩ (.int .i64 (svTo (ffOf p pw g) zs X i))).heap.size by simp [World.setCell]; omega)
          clear howq
          go_wp2_with fail
          go_roundw
          case rel => exact ⟨k + 1, by omega, by go_num, hbl2, ho2, HS2.out⟩
          case measure => simp [intOf]; omega
    · obtain rfl : k = C := by omega
      have hfin := Lib.hid (show ResL w wr (.slice (some ⟨w.heap.size, 0, none⟩) k k) (syn (ffOf p pw g) zs k) by
        have := hown.out
        rw [copyTo_end _ _ (by rw [syn_length]; omega)] at this
        have e2 : (syn (ffOf p pw g) zs k).length = k := syn_length _ _ _
        refine ⟨some ⟨w.heap.size, 0, none⟩, k, by rw [e2], (fun h => by cases h), ?_⟩
        rw [e2]; exact this)
      go_wp2_with fail
      go_ret
      exact ⟨_, rfl, hbel.out, hfin.out⟩
end Go.Proofs.Ytfhkkpfiflgofaa
/-
  The walks of generators and locators, in the program and in the reference.
-/
namespace Go.Proofs.Ytfhkkpfiflgofaa
open Go.RowKit
set_option linter.unusedVariables false

/-- A code of the field V. -/
structure SC (V : VF) (p pw g l c : Int) : Prop where
  sf : SF V p pw g
  valid : validC p pw g l c = true
theorem SC.of {p pw g l c : Int} (h : validC p pw g l c = true) : SC (vfOf p pw g (validC_iff h).1) p pw g l c := ⟨SF.vf _, h⟩
/-- The product of x - root for the first n powers of the generator. -/
noncomputable def genF (V : VF) : Nat → PS (El V)
  | 0 => 1
  | n + 1 => genF V n * (PS.X - PS.C (VF.of V (V.F.exp (n + 1))))
theorem genF_dlt (V : VF) (n : Nat) : (genF V n).dlt (n + 1) := by
  induction n with
  | zero => exact PS.dlt_one
  | succ n ih => exact PS.dlt_mul (show (PS.X - PS.C (VF.of V (V.F.exp (n + 1)))).dlt 2 from PS.dlt_sub PS.dlt_X ((PS.dlt_C _).mono (by omega))) n _ ih
theorem genF_poly (V : VF) (n : Nat) : (genF V n).IsPoly := ⟨_, genF_dlt V n⟩
theorem ps_lin (V : VF) {r : Int} (hr : V.F.el r) : VF.ps V [V.F.neg r, 1] = PS.X - PS.C (VF.of V r) := by
  rw [VF.ps_cons, VF.ps_single, VF.of_neg hr, VF.of_one, PS.C_neg, PS.C_one]; grind
theorem ps_lin1 (V : VF) {r : Int} (hr : V.F.el r) : VF.ps V [1, V.F.neg r] = PS.lf (VF.of V r) := by
  rw [VF.ps_cons, VF.ps_single, VF.of_neg hr, VF.of_one, PS.C_neg, PS.C_one]; unfold PS.lf; grind
theorem els_lin {V : VF} {r : Int} (hr : V.F.el r) : VF.els V [V.F.neg r, 1] := fun z hz => by
  simp at hz; rcases hz with rfl | rfl
  · exact FF.neg_el hr
  · exact FF.one_el V.ok
theorem els_lin1 {V : VF} {r : Int} (hr : V.F.el r) : VF.els V [1, V.F.neg r] := fun z hz => by
  simp at hz; rcases hz with rfl | rfl
  · exact FF.one_el V.ok
  · exact FF.neg_el hr
theorem one_isP (V : VF) : VF.isP V [1] := ⟨fun z hz => by simp at hz; subst hz; exact FF.one_el V.ok, fun _ => by simp⟩
theorem lst_one (V : VF) : VF.lst V 1 = [1] := VF.lst_of (one_isP V) (by rw [VF.ps_single, VF.of_one, PS.C_one])
theorem genF_next (V : VF) (n : Nat) : VF.lst V (VF.ps V (VF.lst V (genF V n)) * VF.ps V [V.F.neg (V.F.exp (n + 1)), 1]) = VF.lst V (genF V (n + 1)) := by
  rw [VF.lst_eq (genF_poly V n), ps_lin V (FF.exp_el V.ok _)]; rfl
theorem genF_len (V : VF) (n : Nat) (hn : n ≤ 64) : (VF.lst V (genF V n)).length ≤ 4096 := by
  have := VF.lst_len (genF_dlt V n); omega
theorem OwnL.lit1 (w : World) (B : Nat) (hB : B ≤ w.heap.size) (b : Nat) (hb : b = w.heap.size) (t : TypeId) (ht : t = 2) : OwnL (w.alloc (.cells #[.int .i64 1] t)) B (.slice (some ⟨b, 0, none⟩) 1 1) [1] := by
  subst hb; subst ht
  exact ⟨by simp; omega, by simp, .inr ⟨_, 1, _, rfl, hB, heap_alloc_new w _, by simp, by unfold maxLen; omega, rfl, rfl⟩⟩
set_option maxHeartbeats 2000000 in
theorem l04Generator_any {V : VF} {p pw g l c : Int} (hs : SC V p pw g l c) (w : World) :
    Calls Try.prog 151 #[cV p pw g l c] w fun e w' => ∃ v, e = .returned v ∧ Below w.heap.size w w' ∧ OwnL w' w.heap.size v (VF.lst V (genF V c.toNat)) := by
  obtain ⟨_, hc1, hc2, _, _, _⟩ := validC_iff hs.valid
  obtain ⟨C, rfl⟩ := Int.eq_ofNat_of_zero_le (show 0 ≤ c by omega)
  simp only [Int.toNat_natCast]
  have HO0 := Lib.hid (show OwnL ((w.alloc (.cells #[.int .i64 p, .int .i64 pw, .int .i64 g, .int .i64 l, .int .i64 C] CT)).alloc (.cells #[.int .i64 1] 2)) w.heap.size (.slice (some ⟨w.heap.size + 1, 0, none⟩) 1 1) (VF.lst V (genF V 0)) by
    rw [show genF V 0 = 1 from rfl, lst_one]; exact OwnL.lit1 _ _ (by simp) _ (by simp) _ rfl)
  have HB0 := Lib.hid ((below1 w (.cells #[.int .i64 p, .int .i64 pw, .int .i64 g, .int .i64 l, .int .i64 C] CT)).alloc (by simp) (.cells #[.int .i64 1] 2))
  have HX0 := Lib.hid ((boxC_new w p pw g l C CT).below (below1 _ (.cells #[.int .i64 1] 2)) (by simp))
  go_enter Try.func151, Try.ntmps151
  go_wp2_with fail
  go_loopw [3, 4, 5] (fun o r t wr => ∃ (k la ca : Nat) (aa : Option Addr), k ≤ C ∧ o = .slice aa la ca ∧ t = .int .i64 k ∧ r = .int .i64 (V.F.exp k) ∧ Hid ((VF.lst V (genF V k)).length = la) ∧ Hid (OwnL wr w.heap.size (.slice aa la ca) (VF.lst V (genF V k))) ∧ Hid (Below w.heap.size w wr) ∧ Hid (BoxC wr w.heap.size p pw g l C)) (fun _ _ t _ => (C - intOf t).toNat)
  case atStart => exact ⟨0, 1, 1, _, by omega, rfl, rfl, rfl, Lib.hid (by rw [show genF V 0 = 1 from rfl, lst_one]; rfl), HO0, HB0, HX0⟩
  case round =>
    obtain ⟨k, la, ca, aa, hk, rfl, rfl, rfl, hla, ho, hbel, hbox⟩ := hrel
    clear HO0 HB0 HX0
    obtain ⟨hlx, c0, c1, c2, c3, c4⟩ := hbox.out
    by_cases hlt : k < C
    · have hr1 := FF.exp_el V.ok k
      have hg1 := FF.exp_el V.ok 1
      have HG := Lib.hid (fun W => hs.sf.gen W)
      have HM := Lib.hid (fun W => hs.sf.mul (V.F.exp k) (V.F.exp 1) hr1 hg1 W)
      have em := Lib.hid (show V.F.mul (V.F.exp k) (V.F.exp 1) = V.F.exp (k + 1) from FF.mul_exp V.ok _ _)
      rw [em.out] at HM
      have HN := Lib.hid (fun W => hs.sf.neg (V.F.exp (k + 1)) (FF.exp_el V.ok _) W)
      have HNX := Lib.hid (genF_next V k)
      have hlen := genF_len V k (by omega)
      have hels := (VF.lst_isP (genF_poly V k)).els
      have he2 := els_lin (V := V) (FF.exp_el V.ok (k + 1))
      generalize hr2 : V.F.exp (k + 1) = r2 at em HM HN HNX he2
      have HR2 := Lib.hid hr2
      clear hr2 em
      generalize V.F.exp k = r1 at *
      generalize V.F.exp 1 = g1 at *
      go_wp2_with fail
      go_region_held3 (fun w' => w'.cell? ⟨w.heap.size, 0, none⟩ = some (.int .i64 p) ∧ w'.cell? ⟨w.heap.size, 1, none⟩ = some (.int .i64 pw) ∧ w'.cell? ⟨w.heap.size, 2, none⟩ = some (.int .i64 g))
        (first | go_keep | ((try (dsimp only)); go_split_ands; (repeat' apply And.intro); all_goals (first | go_keep | exact keep_cell hbM (by assumption) | exact keep_cell hbG (by assumption))))
        (first | (go_at_call 128; refine (HG.out _).mono ?_; rintro e w2 ⟨rfl, hbG⟩) | (go_at_call 126; refine (HM.out _).mono ?_; rintro e w3 ⟨rfl, hbM⟩))
      have hb3 := Below.more (Below.trans (Drew.below (drew1 wr) wr.heap.size) hbG) (Nat.le_refl _) hbM
      have HB3 := Lib.hid (hbel.out.trans (hb3.mono hbel.out.size))
      have HX3 := Lib.hid (hbox.out.below hb3 hlx)
      have HO3 := Lib.hid (ho.out.below hb3)
      obtain ⟨_, _, ea, -, hra⟩ := HO3.out.shape
      simp only [Value.slice.injEq] at ea
      obtain ⟨rfl, -, -⟩ := ea
      rw [hla.out] at hra hlen
      have HRA := Lib.hid hra.row
      have HT := Lib.hid (fun W (hb : Below w3.heap.size w3 W) => hs.sf.lmul (cap := ca) (cap' := 2) ((HRA.out.below' hb).below' (below1 W (.cells #[.int .i64 (V.F.neg r2), .int .i64 1] 2))) hlen (row_two W (V.F.neg r2) 1 2 _ rfl) (by omega) hels he2)
      rw [HNX.out] at HT
      obtain ⟨_, d0, d1, d2, _, _⟩ := HX3.out
      clear hbG hbM hb3 c0 c1 c2 c3 c4 hra hels he2 hlen
      generalize V.F.neg r2 = m at *
      go_wp2_with fail
      go_region_held3 (fun w' => w'.cell? ⟨w.heap.size, 0, none⟩ = some (.int .i64 p) ∧ w'.cell? ⟨w.heap.size, 1, none⟩ = some (.int .i64 pw) ∧ w'.cell? ⟨w.heap.size, 2, none⟩ = some (.int .i64 g))
        (first | go_keep | ((try (dsimp only)); go_split_ands; (repeat' apply And.intro); all_goals (first | go_keep | exact keep_cell hbT (by assumption) | exact keep_cell hbN (by assumption))))
        (first | (go_at_call 71; refine (HN.out _).mono ?_; rintro e w4 ⟨rfl, hbN⟩) | (go_at_call 134; refine (HT.out w4 (Below.trans (Drew.below (drew1 w3) w3.heap.size) hbN)).mono ?_; rintro e w5 ⟨v, rfl, hbT, hoT⟩))
      have hb4 := Below.trans (Drew.below (drew1 w3) w3.heap.size) hbN
      have hb5 := Below.more (hb4.trans ((below1 w4 (.cells #[.int .i64 m, .int .i64 1] 2)).mono hb4.size)) (Nat.le_refl _) hbT
      have HB5 := Lib.hid (HB3.out.trans (hb5.mono HB3.out.size))
      have HX5 := Lib.hid (HX3.out.below hb5 HX3.out.lt)
      have hs5 : w.heap.size ≤ (w4.alloc (.cells #[.int .i64 m, .int .i64 1] 2)).heap.size := by have h1 := hb4.size; have h2 := HB3.out.size; simp; omega
      obtain ⟨a5, c5, rfl, -, -, -⟩ := hoT.cap
      have HO5 := Lib.hid (hoT.lower hs5)
      clear hbN hbT hoT hb4 hb5 hs5
      go_wp2_with fail
      go_roundw
      case rel => exact ⟨k + 1, _, _, _, by omega, rfl, by go_num, by rw [HR2.out], Lib.hid rfl, HO5, HB5, HX5⟩
      case measure => simp [intOf]; omega
    · obtain rfl : k = C := by omega
      go_wp2_with fail
      go_ret
      exact ⟨_, rfl, hbel.out, ho.out⟩
theorem Cod.calV {V : VF} {w : World} {b : Nat} {p pw g l c : Int} (h : Cod w b p pw g l c) (hs : SF V p pw g) : ∃ bc, w.cell? ⟨b, 0, none⟩ = some (.pointer (some ⟨bc, 0, none⟩)) ∧ Cal w bc V.F := by
  obtain ⟨bc, h1, h2⟩ := h.cal
  exact ⟨bc, h1, by rw [hs.hV]; exact h2⟩
set_option maxHeartbeats 2000000 in
theorem generator_any {V : VF} {p pw g l c : Int} (hs : SC V p pw g l c) {w : World} {b : Nat} (hcod : Cod w b p pw g l c) :
    Calls Try.prog 116 #[.pointer (some ⟨b, 0, none⟩)] w fun e w' => ∃ v, e = .returned v ∧ Below w.heap.size w w' ∧ OwnL w' w.heap.size v (VF.lst V (genF V c.toNat)) := by
  obtain ⟨_, hc1, hc2, _, _, _⟩ := validC_iff hs.valid
  obtain ⟨C, rfl⟩ := Int.eq_ofNat_of_zero_le (show 0 ≤ c by omega)
  simp only [Int.toNat_natCast]
  have HCOD := Lib.hid hcod
  clear hcod
  have HO0 := Lib.hid (show OwnL (w.alloc (.cells #[.int .i64 1] 2)) w.heap.size (.slice (some ⟨w.heap.size, 0, none⟩) 1 1) (VF.lst V (genF V 0)) by
    rw [show genF V 0 = 1 from rfl, lst_one]; exact OwnL.lit1 _ _ (Nat.le_refl _) _ rfl _ rfl)
  go_enter Try.func116, Try.ntmps116
  go_wp2_with fail
  go_loopw [3, 4] (fun o t wr => ∃ (k la ca : Nat) (aa : Option Addr), k ≤ C ∧ o = .slice aa la ca ∧ t = .int .i64 ((k : Int) + 1) ∧ Hid ((VF.lst V (genF V k)).length = la) ∧ Hid (OwnL wr w.heap.size (.slice aa la ca) (VF.lst V (genF V k))) ∧ Hid (Below w.heap.size w wr)) (fun _ t _ => ((C : Int) + 1 - intOf t).toNat)
  case atStart => exact ⟨0, 1, 1, _, by omega, rfl, rfl, Lib.hid (by rw [show genF V 0 = 1 from rfl, lst_one]; rfl), HO0, Lib.hid (below1 _ _)⟩
  case round =>
    obtain ⟨k, la, ca, aa, hk, rfl, rfl, hla, ho, hbel⟩ := hrel
    clear HO0
    have hcod := HCOD.out.below hbel.out
    have hcl := hcod.chk
    obtain ⟨bc, hc0, hcal⟩ := hcod.calV hs.sf
    have HCAL := Lib.hid hcal
    by_cases hlt : k < C
    · have HP := Lib.hid (fun W (hd : Drew wr W) => power_any (hd.cal HCAL.out) ((k : Int) + 1) (by omega))
      rw [show ((k : Int) + 1).toNat = k + 1 by omega] at HP
      have hr2 := FF.exp_el V.ok (k + 1)
      have HN := Lib.hid (fun W (hd : Drew wr W) => neg_any (hd.cal HCAL.out) (V.F.exp (k + 1)) hr2)
      have HNX := Lib.hid (genF_next V k)
      have hlen := genF_len V k (by omega)
      have hels := (VF.lst_isP (genF_poly V k)).els
      have he2 := els_lin (V := V) hr2
      generalize V.F.exp (k + 1) = r2 at *
      obtain ⟨_, _, ea, -, hra⟩ := ho.out.shape
      simp only [Value.slice.injEq] at ea
      obtain ⟨rfl, -, -⟩ := ea
      rw [hla.out] at hra hlen
      have HRA := Lib.hid hra.row
      have HT := Lib.hid (fun W (hd : Drew wr W) => times_any (V := V) (cap := ca) (cap' := 2) ((hd.cal HCAL.out).below (below1 W (.cells #[.int .i64 (V.F.neg r2), .int .i64 1] 2))) ((hd.row HRA.out).below' (below1 W (.cells #[.int .i64 (V.F.neg r2), .int .i64 1] 2))) hlen (row_two W (V.F.neg r2) 1 2 _ rfl) (by omega) hels he2)
      rw [HNX.out] at HT
      clear hra hels he2 hlen hcal hcod
      generalize V.F.neg r2 = m at *
      go_wp2_with fail
      go_region_held3 (fun w' => w'.cell? ⟨b, 0, none⟩ = some (.pointer (some ⟨bc, 0, none⟩)))
        (first | go_keep | ((try (dsimp only)); (first | go_keep | exact keep_cell hbT (by assumption) | exact keep_cell (hd3.below _) (by assumption))))
        (first | (go_at_call 131; refine (HP.out _ (drew1 _)).mono ?_; rintro e w3 ⟨rfl, hd3⟩; have hd3 : Drew wr w3 := Drew.trans (drew1 wr) hd3) | (go_at_call 117; refine (HN.out _ hd3).mono ?_; rintro e w4 ⟨rfl, rfl⟩) | (go_at_call 154; refine (HT.out _ hd3).mono ?_; rintro e w5 ⟨v, rfl, hbT, hoT⟩))
      have hb4 := Below.more (((hd3.below wr.heap.size).trans ((below1 w3 (.cells #[.int .i64 m, .int .i64 1] 2)).mono (hd3.below wr.heap.size).size))) (Nat.le_refl _) hbT
      have hs5 : w.heap.size ≤ (w3.alloc (.cells #[.int .i64 m, .int .i64 1] 2)).heap.size := by have h1 := (hd3.below wr.heap.size).size; have h2 := hbel.out.size; simp; omega
      have HB5 := Lib.hid (hbel.out.trans (hb4.mono hbel.out.size))
      obtain ⟨a5, c5, rfl, -, -, -⟩ := hoT.cap
      have HO5 := Lib.hid (hoT.lower hs5)
      clear hd3 hbT hoT hb4 hs5
      go_wp2_with fail
      go_roundw
      case rel => exact ⟨k + 1, _, _, _, by omega, rfl, by go_num, Lib.hid rfl, HO5, HB5⟩
      case measure => simp [intOf]; omega
    · obtain rfl : k = C := by omega
      go_wp2_with fail
      go_ret
      exact ⟨_, rfl, hbel.out, ho.out⟩
end Go.Proofs.Ytfhkkpfiflgofaa
/-
  The walks of the two GeneratorOf.
-/
namespace Go.Proofs.Ytfhkkpfiflgofaa
open Go.RowKit
set_option linter.unusedVariables false

open Classical in
noncomputable def onC (p pw g l c : Int) (f : VF → List Int) : List Int := if h : validC p pw g l c = true then f (vfOf p pw g (validC_iff h).1) else []
theorem validC_V {p pw g l c : Int} (h : validC p pw g l c = true) : ∃ V : VF, SC V p pw g l c ∧ ∀ f, onC p pw g l c f = f V :=
  ⟨_, SC.of h, fun f => by unfold onC; rw [dif_pos h]⟩
noncomputable def validI (p pw g l c : Int) : Int := if validC p pw g l c = true then 0 else 1
noncomputable def genR (p pw g l c : Int) : List Int := onC p pw g l c fun V => VF.lst V (genF V c.toNat)
end Go.Proofs.Ytfhkkpfiflgofaa
