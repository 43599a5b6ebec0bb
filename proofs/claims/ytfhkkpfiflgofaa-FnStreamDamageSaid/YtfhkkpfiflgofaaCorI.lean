/-
  The parts Cor, CorL, CorI.
-/
import Derived.Test.YtfhkkpfiflgofaaMrg
import Derived.Test.YtfhkkpfiflgofaaCorS
import Derived.Test.YtfhkkpfiflgofaaValues
/-
  The program's correction.
-/
namespace Go.Proofs.Ytfhkkpfiflgofaa
open Go.RowKit
set_option linter.unusedVariables false

set_option maxHeartbeats 2000000 in
theorem implSyndromesC_any (p pw g l c : Int) (hc0 : 0 ≤ c) (hc1 : c ≤ 64) (hv : validB p pw g = true) {w : World} {b : Nat} (hcod : Cod w b p pw g l c) {a : Option Addr} {n cap : Nat} {zs : List Int} (hr : RowAt w a n zs) (hel : ∀ z ∈ zs, (ffOf p pw g).el z) :
    Calls Try.prog 88 #[.pointer (some ⟨b, 0, none⟩), .slice a n cap] w fun e w' => ∃ ad, e = .returned (.slice ad c.toNat c.toNat) ∧ Below w.heap.size w w' ∧ (ad = none → c.toNat = 0) ∧ OwnAt w' w.heap.size ad c.toNat (syn (ffOf p pw g) zs c.toNat) := by
  obtain ⟨C, rfl⟩ : ∃ C : Nat, c = (C : Int) := ⟨c.toNat, by omega⟩
  have hok := Lib.hid (ffOf_ok hv)
  have HR := Lib.hid hr
  have HE := Lib.hid hel
  have HCOD := Lib.hid hcod
  have hl := Lib.hid hr.len
  have hsm := hr.small
  obtain ⟨_, ⟨bc, e0, hcal⟩, e1, e2⟩ := hcod
  have hmk := fun w => run_make_ints w 26 Try.underlying26 (C : Int) (by omega) (by omega)
  simp only [Int.toNat_natCast] at hmk
  clear hr hel hv hcal
  simp only [Int.toNat_natCast]
  go_enter Try.func88, Try.ntmps88
  go_wp2_with fail
  clear hmk e0 e1 e2
  have ho0 := own_zeros w C (by omega)
  rw [show List.replicate C 0 = copyTo (syn (ffOf p pw g) zs C) 0 by unfold copyTo; simp [syn_length]] at ho0
  go_loopw [18] (fun t wr => ∃ k : Nat, k ≤ C ∧ t = .int .i64 k ∧ Hid (Below w.heap.size w wr) ∧ Hid (OwnAt wr w.heap.size (some ⟨w.heap.size, 0, none⟩) C (copyTo (syn (ffOf p pw g) zs C) k)) ∧ w.heap.size < wr.heap.size) (fun t _ => (C - intOf t).toNat)
  case atStart => exact ⟨0, by omega, rfl, below1 _ _, ho0, by simp⟩
  case round =>
    obtain ⟨k, hk, rfl, hbel, hown, hsz⟩ := hrel
    clear ho0
    by_cases hlt : k < C
    · obtain ⟨_, ⟨bc, e0, hcal⟩, e1, e2⟩ := HCOD.out.below hbel.out
      have HP := Lib.hid (power_any hcal ((k : Int) + 1) (by omega))
      have ht : ((k : Int) + 1).toNat = k + 1 := by omega
      rw [ht] at HP
      clear hcal ht
      go_wp2_with fail
      refine HP.out.mono ?_
      rintro e w1 ⟨rfl, q, rfl⟩
      go_wp2_with fail
      have hX := Lib.hid (FF.exp_el hok.out (k + 1))
      have hsyn := Lib.hid (syn_gi (ffOf p pw g) zs (c := C) (j := k) hlt)
      generalize (ffOf p pw g).exp (k + 1) = X at *
      clear e0 e1 e2
      go_loopw [8, 30] (fun o t wq => ∃ i : Nat, i ≤ n ∧ t = .int .i64 i ∧ o = .int .i64 (svTo (ffOf p pw g) zs X i) ∧ Drew wr wq) (fun _ t _ => (n - intOf t).toNat)
      case atStart => exact ⟨0, by omega, rfl, rfl, ⟨q, rfl⟩⟩
      case round =>
        obtain ⟨i, hi, rfl, rfl, hd⟩ := hrel
        have HD := Lib.hid hd
        clear hd
        by_cases h4 : i < n
        · obtain ⟨_, ⟨bc2, e0, hcal⟩, e1, e2⟩ := HCOD.out.below (hbel.out.trans (HD.out.below _))
          have hrow := HR.out.below' (hbel.out.trans (HD.out.below _))
          obtain ⟨b1, o1, rfl, hb1, hcs⟩ := hrow.at' (by omega)
          have hcell := hcs i h4
          have hstep := Lib.hid (show svTo (ffOf p pw g) zs X (i + 1) = (ffOf p pw g).add ((ffOf p pw g).mul (svTo (ffOf p pw g) zs X i) X) (gi zs i) from rfl)
          have hel1 := svTo_el hok.out HE.out X i
          have hel2 := el_gi hok.out HE.out i
          have hel3 := FF.mul_el hok.out (svTo (ffOf p pw g) zs X i) X
          have HM := Lib.hid (fun m => mul_any (hcal.drewN m) _ _ hel1 hX.out)
          have HA := Lib.hid (fun m => add_any (hcal.drewN m) _ _ hel3 hel2)
          clear hcs hrow hcal hel1 hel2 hel3
          generalize svTo (ffOf p pw g) zs X i = v at *
          generalize gi zs i = z at *
          go_wp2_with fail
          go_quiet (first | (go_at_call 66; exact Calls.quiet_of (HM.out _)) | (go_at_call 74; exact Calls.quiet_of_same ((HA.out _).mono fun e w' h => ⟨h.1, h.2.symm⟩)))
          go_wp2_with fail
          go_roundw
          case rel => exact ⟨i + 1, by omega, by go_num, by rw [hstep.out], HD.out.more _⟩
          case measure => simp [intOf]; omega
        · obtain rfl : i = n := by omega
          have howq := HD.out.own hown.out
          obtain ⟨hp, hfz, _⟩ := howq.place hlt
          have ho2 := Lib.hid (show OwnAt (wr.setCell ⟨w.heap.size, k, none⟩ (.int .i64 (svTo (ffOf p pw g) zs X i))) w.heap.size (some ⟨w.heap.size, 0, none⟩) C (copyTo (syn (ffOf p pw g) zs C) (k + 1)) by
            rw [copyTo_set _ _ (by rw [syn_length]; exact hlt), hsyn.out, hl.out]
            exact howq.set hlt _)
          have hbl2 := Lib.hid ((hbel.out.trans (HD.out.below _)).setCell (p := ⟨w.heap.size, k, none⟩) (Nat.le_refl _) (.int .i64 (svTo (ffOf p pw g) zs X i)))
          have hsq := (HD.out.below wr.heap.size).size
          have HS2 := Lib.hid (show w.heap.size < (wr.setCell ⟨w.heap.size, k, none⟩ (.int .i64 (svTo (ffOf p pw g) zs X i))).heap.size by simp [World.setCell]; omega)
          clear howq
          go_wp2_with fail
          go_roundw
          case rel => exact ⟨k + 1, by omega, by go_num, hbl2, ho2, HS2.out⟩
          case measure => simp [intOf]; omega
    · obtain rfl : k = C := by omega
      have hfin := Lib.hid (show OwnAt wr w.heap.size (some ⟨w.heap.size, 0, none⟩) k (syn (ffOf p pw g) zs k) by
        have := hown.out
        rw [copyTo_end _ _ (by rw [syn_length]; omega)] at this
        exact this)
      go_wp2_with fail
      go_ret
      exact ⟨_, rfl, hbel.out, (fun h => by cases h), hfin.out⟩
theorem euc_fok {V : VF} {L c : Nat} (hL : (L : Int) < V.F.size) (hc : c ≤ 64) {word E zs : List Int} (hw : VF.els V word) (hwl : word.length = L) (hE : RisTo 0 ((L : Int) - 1) E E.length) (hz : EucOk V L c (syn V.F word c) E zs) : FOk V L c word E (eucN V zs) := by
  obtain ⟨hp, a, b, u, hei, hb, ha⟩ := hz
  have hzl : zs.length ≤ 66 := by have := hp.len_le hei.dv; have := hei.la; omega
  by_cases h0 : zs = [] ∨ gi zs 0 = 0
  · rw [eucN_no h0]
    refine ⟨(fun z hz => by cases hz), Nat.zero_le _, fun o hd => ?_⟩
    obtain ⟨O, w, hS⟩ := hd.start hL hw hwl hE
    have hdm := hd.dmg
    obtain ⟨k, hk, ek⟩ := hei.done hL hd hS (by omega) hb ha
    have h1 : (VF.ps V zs).c 0 = k := by
      rw [ek, PS.C_mul_c]
      have : (locP V L (errs L word E o)).c 0 = 1 := PS.lam_c_zero _
      rw [this]; grind
    exfalso
    apply hk
    rw [← h1]
    rcases h0 with h | h
    · rw [h, VF.ps_nil]; rfl
    · rw [VF.ps_c]; show VF.of V (gi zs 0) = 0; rw [h]; exact VF.of_zero
  · rw [eucN_yes h0]
    have hpoly : (VF.xp V 0 * (PS.C (VF.of V (V.F.inv (gi zs 0))) * VF.ps V zs)).IsPoly := (xp_poly 0).mul ((PS.isPoly_C _).mul (VF.ps_poly _))
    refine ⟨(VF.lst_isP hpoly).els, ?_, fun o hd => ?_⟩
    · exact Nat.le_trans (VF.lst_len (n := 0 + zs.length) (xpmul_dlt2 (PS.dlt_C_mul _ (VF.ps_dlt zs)) 0)) (by omega)
    obtain ⟨O, w, hS⟩ := hd.start hL hw hwl hE
    have hdm := hd.dmg
    obtain ⟨k, hk, ek⟩ := hei.done hL hd hS (by omega) hb ha
    have h1 : (VF.ps V zs).c 0 = k := by
      rw [ek, PS.C_mul_c]
      have : (locP V L (errs L word E o)).c 0 = 1 := PS.lam_c_zero _
      rw [this]; grind
    have h2 : VF.of V (gi zs 0) = k := by rw [← h1, VF.ps_c]; rfl
    have hz0 : gi zs 0 ≠ 0 := fun h => h0 (.inr h)
    have h3 := VF.of_inv (V := V) (show V.F.el (gi zs 0) from hp.els.getD 0) hz0
    rw [h2] at h3
    congr 1
    rw [xp_zero, ek]
    have : PS.C (VF.of V (V.F.inv (gi zs 0))) * (PS.C k * locP V L (errs L word E o)) = PS.C (k * VF.of V (V.F.inv (gi zs 0))) * locP V L (errs L word E o) := by rw [PS.C_mul]; grind
    have e1 : (1 : PS (El V)) * (PS.C (VF.of V (V.F.inv (gi zs 0))) * (PS.C k * locP V L (errs L word E o))) = PS.C (VF.of V (V.F.inv (gi zs 0))) * (PS.C k * locP V L (errs L word E o)) := by grind
    rw [e1, this, h3, PS.C_one]; grind
end Go.Proofs.Ytfhkkpfiflgofaa
/-
  Correction: the program's stores, one behind the other, make the reference's word. Plain mathematics.
-/
namespace Go.Proofs.Ytfhkkpfiflgofaa
set_option linter.unusedVariables false
variable {V : VF}

/-- The word behind the first k stores. -/
def stTo (F : FF) (word pl vr : List Int) : Nat → List Int
  | 0 => word
  | k + 1 => if gi vr k = 0 then stTo F word pl vr k else (stTo F word pl vr k).set (gi pl k).toNat (F.add (gi (stTo F word pl vr k) (gi pl k).toNat) (F.neg (gi vr k)))
/-- The indices that were stored to. -/
def chTo (pl vr : List Int) : Nat → List Int
  | 0 => []
  | k + 1 => if gi vr k = 0 then chTo pl vr k else chTo pl vr k ++ [gi pl k]
theorem stTo_no {F : FF} {word pl vr : List Int} {k : Nat} (h : gi vr k = 0) : stTo F word pl vr (k + 1) = stTo F word pl vr k := if_pos h
theorem stTo_yes {F : FF} {word pl vr : List Int} {k : Nat} (h : gi vr k ≠ 0) : stTo F word pl vr (k + 1) = (stTo F word pl vr k).set (gi pl k).toNat (F.add (gi (stTo F word pl vr k) (gi pl k).toNat) (F.neg (gi vr k))) := if_neg h
theorem chTo_no {pl vr : List Int} {k : Nat} (h : gi vr k = 0) : chTo pl vr (k + 1) = chTo pl vr k := if_pos h
theorem chTo_yes {pl vr : List Int} {k : Nat} (h : gi vr k ≠ 0) : chTo pl vr (k + 1) = chTo pl vr k ++ [gi pl k] := if_neg h
theorem stTo_length (F : FF) (word pl vr : List Int) (k : Nat) : (stTo F word pl vr k).length = word.length := by
  induction k with
  | zero => rfl
  | succ k ih =>
    by_cases h : gi vr k = 0
    · rw [stTo_no h, ih]
    · rw [stTo_yes h, List.length_set, ih]
theorem chTo_length (pl vr : List Int) (k : Nat) : (chTo pl vr k).length ≤ k := by
  induction k with
  | zero => exact Nat.le_refl _
  | succ k ih =>
    by_cases h : gi vr k = 0
    · rw [chTo_no h]; omega
    · rw [chTo_yes h, List.length_append]; simp; omega
theorem stTo_els {word pl vr : List Int} (hw : VF.els V word) (hv : VF.els V vr) (k : Nat) : VF.els V (stTo V.F word pl vr k) := by
  induction k with
  | zero => exact hw
  | succ k ih =>
    by_cases h : gi vr k = 0
    · rw [stTo_no h]; exact ih
    · rw [stTo_yes h]; exact ih.set _ (FF.add_el V.ok (ih.getD _) (FF.neg_el (hv.getD _)))
theorem stTo_at {L : Nat} {word pl vr : List Int} (hw : VF.els V word) (hv : VF.els V vr) (hwl : word.length = L) (hr : RisTo 0 ((L : Int) - 1) pl pl.length) (k : Nat) (hk : k ≤ pl.length) (i : Nat) (hi : i < L) :
    gi (stTo V.F word pl vr k) i = V.F.add (gi word i) (V.F.neg (gi (spTo L pl vr k) i)) := by
  have hse : ∀ k, VF.els V (spTo L pl vr k) := fun k => spTo_els hv k
  have hwi : V.F.el (gi word i) := hw.getD i
  induction k with
  | zero =>
    show gi word i = _
    refine VF.of_inj (V := V) hwi (FF.add_el V.ok hwi (FF.neg_el ((hse 0).getD i))) ?_
    rw [of_dif hwi (show V.F.el (gi (spTo L pl vr 0) i) from (hse 0).getD i)]
    have : gi (spTo L pl vr 0) i = 0 := gi_replicate _ _
    rw [this, VF.of_zero]; grind
  | succ k ih =>
    have ih := ih (by omega)
    obtain ⟨_, h2⟩ := spTo_at (vals := vr) hr k (by omega)
    have hb := hr k (by omega)
    have hsl := spTo_length L pl vr k
    have hstl := stTo_length V.F word pl vr k
    have e1 : spTo L pl vr (k + 1) = (spTo L pl vr k).set (gi pl k).toNat (gi vr k) := rfl
    by_cases hik : i = (gi pl k).toNat
    · have h0 : gi (spTo L pl vr k) i = 0 := h2 i fun m hm e => by
        have h4 := ris_lt hr m k hm (by omega)
        have h5 := (hr m (by omega)).1
        omega
      have hst : gi (stTo V.F word pl vr k) i = gi word i := by
        rw [ih, h0]
        refine VF.of_inj (V := V) (FF.add_el V.ok hwi (FF.neg_el (FF.zero_el V.ok))) hwi ?_
        rw [of_dif hwi (FF.zero_el V.ok), VF.of_zero]; grind
      have hsp : gi (spTo L pl vr (k + 1)) i = gi vr k := by rw [e1, hik]; exact gi_set_self _ _ _ (by omega)
      by_cases h : gi vr k = 0
      · rw [stTo_no h, ih, hsp, h0, h]
      · rw [stTo_yes h, hsp, ← hik, hst]
        exact gi_set_self _ _ _ (by omega)
    · have hsp : gi (spTo L pl vr (k + 1)) i = gi (spTo L pl vr k) i := by rw [e1]; exact gi_set_ne _ _ _ _ (by omega)
      rw [hsp, ← ih]
      by_cases h : gi vr k = 0
      · rw [stTo_no h]
      · rw [stTo_yes h]; exact gi_set_ne _ _ _ _ (by omega)
theorem stTo_end {L : Nat} {word pl vr : List Int} (hw : VF.els V word) (hv : VF.els V vr) (hwl : word.length = L) (hr : RisTo 0 ((L : Int) - 1) pl pl.length) : stTo V.F word pl vr pl.length = outTo V.F word (spread L pl vr) L :=
  gi_ext (by rw [stTo_length, outTo_length, hwl]) fun i hi => by
    rw [stTo_length, hwl] at hi
    rw [stTo_at hw hv hwl hr _ (Nat.le_refl _) i hi, outTo_gi _ _ _ hi]; rfl
theorem chTo_mem (pl vr : List Int) (z : Int) (k : Nat) : z ∈ chTo pl vr k ↔ ∃ m, m < k ∧ gi vr m ≠ 0 ∧ gi pl m = z := by
  induction k with
  | zero => constructor; (intro h; cases h); (rintro ⟨m, hm, _⟩; omega)
  | succ k ih =>
    by_cases h : gi vr k = 0
    · rw [chTo_no h, ih]
      constructor
      · rintro ⟨m, a, b, c⟩; exact ⟨m, by omega, b, c⟩
      · rintro ⟨m, a, b, c⟩
        rcases Nat.lt_or_ge m k with h1 | h1
        · exact ⟨m, h1, b, c⟩
        · obtain rfl : m = k := by omega
          exact absurd h b
    · rw [chTo_yes h, List.mem_append, ih, List.mem_singleton]
      constructor
      · rintro (⟨m, a, b, c⟩ | rfl)
        · exact ⟨m, by omega, b, c⟩
        · exact ⟨k, by omega, h, rfl⟩
      · rintro ⟨m, a, b, c⟩
        rcases Nat.lt_or_ge m k with h1 | h1
        · exact .inl ⟨m, h1, b, c⟩
        · obtain rfl : m = k := by omega
          exact .inr c.symm
theorem chTo_ris {L : Nat} {pl vr : List Int} (hr : RisTo 0 ((L : Int) - 1) pl pl.length) (k : Nat) (hk : k ≤ pl.length) : RisTo 0 ((L : Int) - 1) (chTo pl vr k) (chTo pl vr k).length := by
  induction k with
  | zero => intro j hj; exact absurd hj (by show ¬ j < 0; omega)
  | succ k ih =>
    have ih := ih (by omega)
    by_cases h : gi vr k = 0
    · rw [chTo_no h]; exact ih
    · rw [chTo_yes h]
      have hb := hr k (by omega)
      exact ih.snoc hb.1 hb.2.1 (fun z hz => by
        obtain ⟨m, hm, _, rfl⟩ := (chTo_mem pl vr z k).1 hz
        exact ris_lt hr m k hm (by omega))
theorem chTo_end {L : Nat} {word pl vr : List Int} (hw : VF.els V word) (hv : VF.els V vr) (hwl : word.length = L) (hr : RisTo 0 ((L : Int) - 1) pl pl.length) :
    chTo pl vr pl.length = difL word (outTo V.F word (spread L pl vr) L) L := by
  refine ris_ext (k := L) (chTo_ris hr _ (Nat.le_refl _)) (filtL_ris _ _ _ (by omega)) fun z => ?_
  have hse : VF.els V (spread L pl vr) := spTo_els hv _
  obtain ⟨h1, h2⟩ := spTo_at (vals := vr) hr pl.length (Nat.le_refl _)
  have key : ∀ i : Nat, i < L → (gi (outTo V.F word (spread L pl vr) L) i = gi word i ↔ gi (spread L pl vr) i = 0) := fun i hi => by
    have e := of_out (V := V) hw hse hi
    constructor
    · intro h
      rw [h] at e
      exact (VF.of_eq_zero (V := V) (show V.F.el (gi (spread L pl vr) i) from hse.getD i)).1 (by grind)
    · intro h
      rw [h, VF.of_zero] at e
      exact VF.of_inj (V := V) ((outTo_els hw hse L).getD i) (hw.getD i) (by show VF.of V (gi _ i) = VF.of V (gi word i); rw [e]; grind)
  unfold difL
  rw [chTo_mem, filtL_mem]
  constructor
  · rintro ⟨m, hm, hne, rfl⟩
    have hb := hr m hm
    refine ⟨(gi pl m).toNat, by omega, by omega, ?_⟩
    have h3 : gi (spread L pl vr) (gi pl m).toNat = gi vr m := h1 m hm
    have h4 : ¬ gi (outTo V.F word (spread L pl vr) L) (gi pl m).toNat = gi word (gi pl m).toNat := fun h => hne (by rw [← h3]; exact (key _ (by omega)).1 h)
    simp [h4]
  · rintro ⟨i, hi, rfl, h⟩
    have h4 : ¬ gi (outTo V.F word (spread L pl vr) L) i = gi word i := by simpa using h
    have h5 : gi (spread L pl vr) i ≠ 0 := fun e => h4 ((key i hi).2 e)
    apply Classical.byContradiction
    intro hno
    refine h5 (h2 i fun m hm e => hno ⟨m, hm, fun e2 => h5 ?_, by have := (hr m hm).1; omega⟩)
    have h6 := h1 m hm
    rw [e, e2] at h6
    exact h6
end Go.Proofs.Ytfhkkpfiflgofaa
/-
  The walk of the program's correction.
-/
namespace Go.Proofs.Ytfhkkpfiflgofaa
open Go.RowKit
set_option linter.unusedVariables false

theorem OwnL.belowM {w w' : World} {B M g n cap : Nat} {zs : List Int} (h : OwnL w B (.slice (some ⟨g, 0, none⟩) n cap) zs) (hb : Below M w w') (hg : g < M) : OwnL w' B (.slice (some ⟨g, 0, none⟩) n cap) zs := by
  obtain ⟨hB, hl, h2⟩ := h
  refine ⟨Nat.le_trans hB hb.size, hl, ?_⟩
  rcases h2 with h0 | ⟨g', cp, cur, e, hg', hh, rest⟩
  · exact .inl h0
  · have e2 := e
    simp only [Value.slice.injEq, Option.some.injEq, Addr.mk.injEq] at e2
    obtain ⟨⟨rfl, -, -⟩, -, -⟩ := e2
    exact .inr ⟨g, cp, cur, e, hg', (hb.block g hg).trans hh, rest⟩
theorem rootL_ris {V : VF} {L : Nat} {zs : List Int} : RisTo 0 ((L : Int) - 1) (rootL V L zs) (rootL V L zs).length := by
  unfold rootL
  rw [Int.toNat_natCast]
  split
  · exact rootTo_ris V.F (L : Int) zs ((L : Int) - 1) L (by omega)
  · intro k hk; exact absurd hk (by show ¬ k < 0; omega)
theorem mrg_dis (n : Nat) : ∀ (a b : List Int), a.length + b.length ≤ n → (∀ z ∈ a, ¬ z ∈ b) → (mrg a b).length = a.length + b.length := by
  induction n with
  | zero => intro a b h hd; cases a <;> cases b <;> simp at h ⊢ <;> simp [mrg]
  | succ n ih =>
    intro a b h hd
    cases a with
    | nil => rw [mrg_nil']; simp
    | cons x a =>
      cases b with
      | nil => rw [mrg_nil]; simp
      | cons y b =>
        simp only [List.length_cons] at h
        rcases Int.lt_trichotomy x y with h1 | h1 | h1
        · rw [mrg_lt _ _ h1]; have := ih a (y :: b) (by simp; omega) (fun z hz => hd z (by simp [hz])); simp at this ⊢; omega
        · subst h1; exact absurd (by simp) (hd x (by simp))
        · rw [mrg_gt _ _ h1]; have := ih (x :: a) b (by simp; omega) (fun z hz h2 => hd z hz (by simp [h2])); simp at this ⊢; omega
set_option maxHeartbeats 16000000 in
set_option maxRecDepth 100000 in
theorem correct_any {V : VF} {p pw g c : Int} {L : Nat} (hs : SC V p pw g L c) {w : World} {b : Nat} (hcod : Cod w b p pw g L c) {a : Option Addr} {n cap : Nat} {word : List Int} (hr : RowAt w a n word) (hca : a = none → cap = 0) (hz : VF.els V word) (hn : n = L)
    {a' : Option Addr} {n' cap' : Nat} {E : List Int} (hr' : RowAt w a' n' E) (hcap' : n' ≤ cap') (hca' : a' = none → cap' = 0) (hris : RisTo 0 ((L : Int) - 1) E n')
    (fid : Nat) (hcf : ∀ args W, (callFunc fid args).run Try.prog W = .ok (.enter fid args) W)
    (hfind : ∀ W, Below w.heap.size w W → n' ≤ c.toNat → ∀ a2, RowAt W a2 c.toNat (syn V.F word c.toNat) → Calls Try.prog fid #[.pointer (some ⟨b, 0, none⟩), .slice a2 c.toNat c.toNat, .slice a' n' cap'] W fun e w' => ∃ v, e = .returned v ∧ Below W.heap.size W w' ∧ ∃ zs, OwnL w' W.heap.size v zs ∧ FOk V L c.toNat word E zs) :
    Calls Try.prog 146 #[.pointer (some ⟨b, 0, none⟩), .slice a n cap, .slice a' n' cap', .func (.func fid) #[.pointer (some ⟨b, 0, none⟩)] #[]] w fun e w' => ∃ v v2, e = .returned (.tuple #[v, v2, .bool (fixB V L c.toNat word E)]) ∧ Below w.heap.size w w' ∧ ∃ zs zs2, TwoL w w' v2 v zs2 zs ∧ (fixB V L c.toNat word E = true → zs = fixO V L c.toNat word E ∧ zs2 = difL word (fixO V L c.toNat word E) L) := by
  obtain ⟨_, hc1, hc2, hcl, hl1, hlz⟩ := validC_iff hs.valid
  obtain ⟨C, rfl⟩ : ∃ C : Nat, c = (C : Int) := ⟨c.toNat, by omega⟩
  simp only [Int.toNat_natCast] at hfind ⊢
  subst hn
  have HCOD := Lib.hid hcod
  have HR := Lib.hid hr
  have HZ := Lib.hid hz
  have HR' := Lib.hid hr'
  have HCA := Lib.hid hca
  have HCA' := Lib.hid hca'
  have HRIS := Lib.hid hris
  have HFD := Lib.hid hfind
  have hlen := Lib.hid hr'.len
  have hWl := Lib.hid hr.len
  have hLV : (n : Int) < V.F.size := by rw [hs.sf.hV]; exact hlz
  have HRE := Lib.hid (show RisTo 0 ((n : Int) - 1) E E.length by rw [hlen.out]; exact hris)
  have hck := hcod.chk
  have HNIL := Lib.hid (fun W (hb : Below w.heap.size w W) => (show TwoL w W (.slice none 0 0) (.slice none 0 0) [] [] from ⟨w.heap.size, OwnL.nil _ _ hb.size, OwnL.nil _ _ hb.size, Nat.le_refl _, fun k h => by cases h⟩))
  clear hr hr' hris hz hca hca' hfind hcod
  go_enter Try.func146, Try.ntmps146
  by_cases hlim : n' ≤ C
  rotate_left
  · have hlim' : (C : Int) < (n' : Int) := by omega
    have hf := Lib.hid (show fixB V n C word E = false from by
      cases h : fixB V n C word E
      · rfl
      · have := (fix_spec h).dmg; rw [hlen.out] at this; omega)
    go_wp2_with fail
    go_ret3
    exact ⟨_, _, by rw [hf.out]; rfl, Below.refl _ _, [], [], HNIL.out _ (Below.refl _ _), fun h => by rw [hf.out] at h; cases h⟩
  have hlim' : ¬ (C : Int) < (n' : Int) := by omega
  have HSY := Lib.hid (implSyndromesC_any p pw g n C (by omega) hc2 (SF.hv hs.sf) HCOD.out (cap := cap) HR.out (by rw [← hs.sf.hV]; exact HZ.out))
  rw [← hs.sf.hV, Int.toNat_natCast] at HSY
  go_wp2_with fail
  refine HSY.out.mono ?_
  rintro e w2 ⟨a2, rfl, hb2, hna2, ho2⟩
  have HB2 := Lib.hid hb2
  have HR2 := Lib.hid ho2.row
  have HCOD2 := Lib.hid (HCOD.out.below hb2)
  have HF2 := Lib.hid (HFD.out w2 hb2 hlim a2 ho2.row)
  clear hb2 ho2 hck HSY HFD
  have hck := HCOD2.out.chk
  go_wp2_with fail
  refine HF2.out.mono ?_
  rintro e w3 ⟨v3, rfl, hb3, zs, ho3, hfk⟩
  obtain ⟨a3, c3, rfl, -, h3⟩ := ho3.shape
  have HFK := Lib.hid hfk
  have HB3 := Lib.hid (HB2.out.trans (hb3.mono HB2.out.size))
  have HCOD3 := Lib.hid (HCOD2.out.below hb3)
  have HR23 := Lib.hid (HR2.out.below' hb3)
  have HRI := Lib.hid (rootIndices_any hs.sf HCOD3.out (by omega) hl1 (cap := c3) h3.row (by have := hfk.len; omega) hfk.els)
  have HOK := Lib.hid (fun o (hd : Dec V n C word E o) => impl_ok hLV HZ.out hWl.out HRE.out hd hfk)
  have HRA := Lib.hid (rootL_ris (V := V) (L := n) (zs := zs))
  clear hb3 ho3 h3 hfk hck HF2 HR2 HCOD2
  generalize rootB V n zs = rb at *
  generalize rootL V n zs = A at *
  go_wp2_with fail
  refine HRI.out.mono ?_
  rintro e w4 ⟨v4, rfl, hb4, ho4⟩
  obtain ⟨a4, c4, rfl, hcc4, hca4, h4⟩ := ho4.cap
  obtain ⟨la, hla⟩ : ∃ la, A.length = la := ⟨_, rfl⟩
  rw [hla] at hcc4 h4 HRA ⊢
  have HLA := Lib.hid hla
  have HCA4 := Lib.hid hca4
  have HB4 := Lib.hid (HB3.out.trans (hb4.mono HB3.out.size))
  have HCOD4 := Lib.hid (HCOD3.out.below hb4)
  have HR24 := Lib.hid (HR23.out.below' hb4)
  have HR4 := Lib.hid h4.row
  have hck := HCOD4.out.chk
  have hlan : la ≤ 300 := by
    have h1 := HRA.out
    rw [← hla] at h1
    have h2 := ris_len h1 (by omega)
    omega
  clear hb4 ho4 h4 hla hca4 HRI HR23 HCOD3
  have HNO := Lib.hid (fun (W : World) (h : ∀ o, Dec V n C word E o → False) => show fixB V n C word E = false from by
    cases h2 : fixB V n C word E
    · rfl
    · exact (h _ (fix_spec h2)).elim)
  cases rb with
  | false =>
    have hf := Lib.hid (HNO.out w fun o hd => by have := (HOK.out o hd).1; cases this)
    go_wp2_with fail
    go_ret3
    exact ⟨_, _, by rw [hf.out]; rfl, HB4.out, [], [], HNIL.out _ HB4.out, fun h => by rw [hf.out] at h; cases h⟩
  | true =>
    have HOK2 := Lib.hid (fun o hd => (HOK.out o hd).2)
    clear HOK
    by_cases hd2 : 2 * la + n' ≤ C
    rotate_left
    · have hd2' : (C : Int) < 2 * (la : Int) + (n' : Int) := by omega
      have hf := Lib.hid (HNO.out w fun o hd => by
        have h1 := hd.dmg
        rw [← HOK2.out o hd, HLA.out, hlen.out] at h1; omega)
      go_wp2_with fail
      go_ret3
      exact ⟨_, _, by rw [hf.out]; rfl, HB4.out, [], [], HNIL.out _ HB4.out, fun h => by rw [hf.out] at h; cases h⟩
    have hd2' : ¬ (C : Int) < 2 * (la : Int) + (n' : Int) := by omega
    have HME := Lib.hid (merged_any HR4.out hcc4 HCA4.out (HR'.out.below' HB4.out) hcap' HCA'.out (by omega))
    have HPL := Lib.hid (show mrg A E = plL n A E n from mrg_pl (by rw [HLA.out]; exact HRA.out) HRE.out)
    rw [HPL.out] at HME
    have HPR := Lib.hid (plL_ris n A E)
    have HPN := Lib.hid (show (plL n A E n).length ≤ la + n' by rw [← HPL.out]; have := mrg_len A E; rw [HLA.out, hlen.out] at this; exact this)
    have HPD := Lib.hid (fun (h : ∀ z ∈ A, ¬ z ∈ E) => show (plL n A E n).length = la + n' by rw [← HPL.out, mrg_dis _ _ _ (Nat.le_refl _) h, HLA.out, hlen.out])
    go_wp2_with fail
    refine HME.out.mono ?_
    rintro e w5 ⟨v5, rfl, hb5, ho5⟩
    obtain ⟨a5, c5, rfl, -, h5⟩ := ho5.shape
    have HCOV := Lib.hid (fun o (hd : Dec V n C word E o) => show ∀ i, i < n → gi word i ≠ gi o i → (i : Int) ∈ plL n A E n from by rw [HOK2.out o hd]; exact fun i hi h => cover i hi h)
    obtain ⟨pl, hpl⟩ : ∃ pl, plL n A E n = pl := ⟨_, rfl⟩
    have HSND := Lib.hid (fun (hv : valB V n C (syn V.F word C) (plL n A E n) = true) => impl_sound (E := E) HZ.out hWl.out (by rw [HLA.out]; exact HRA.out) (by rw [HLA.out, hlen.out]; exact hd2) hv)
    rw [hpl] at h5 HPR HPN HPD HCOV HSND ⊢
    obtain ⟨lp, hlp⟩ : ∃ lp, pl.length = lp := ⟨_, rfl⟩
    rw [hlp] at h5 HPR HPN HPD ⊢
    have HLP := Lib.hid hlp
    have HB5 := Lib.hid (HB4.out.trans (hb5.mono HB4.out.size))
    have HCOD5 := Lib.hid (HCOD4.out.below hb5)
    have HR25 := Lib.hid (HR24.out.below' hb5)
    have HR5 := Lib.hid h5.row
    clear hb5 ho5 h5 hlp hpl HME HPL hck HCOD4 HR24
    by_cases hsum : lp = la + n'
    rotate_left
    · have hsum' : ((lp : Int) != (la : Int) + (n' : Int)) = true := by simp; omega
      have hf := Lib.hid (HNO.out w fun o hd => hsum (HPD.out fun z hz hzE => by
        rw [HOK2.out o hd] at hz
        obtain ⟨i, _, rfl, h1, _⟩ := errs_mem.1 hz
        exact h1 hzE))
      go_wp2_with fail
      go_ret3
      exact ⟨_, _, by rw [hf.out]; rfl, HB5.out, [], [], HNIL.out _ HB5.out, fun h => by rw [hf.out] at h; cases h⟩
    have hsum' : ((lp : Int) != (la : Int) + (n' : Int)) = false := by simp; omega
    have hlpC : lp ≤ C := by omega
    clear hsum
    have HSE := Lib.hid (show VF.els V (syn V.F word C) from fun z hz => by
      obtain ⟨j, hj, rfl⟩ := mem_gi hz
      rw [syn_length] at hj
      rw [syn_gi _ _ hj]
      exact svTo_el V.ok HZ.out _ _)
    have HVA := Lib.hid (values_any hs HCOD5.out (cap := C) HR25.out HSE.out rfl (cap' := c5) HR5.out HPR.out (by omega))
    have HVY := Lib.hid (fun o (hd : Dec V n C word E o) => show valB V n C (syn V.F word C) pl = true from
      (valB_iff hLV (by rw [HLP.out]; exact HPR.out) (by rw [HLP.out]; omega) HSE.out (syn_length _ _ _)).2 ⟨_, hd.cons HZ.out hWl.out (by rw [HLP.out]; exact HPR.out) (HCOV.out o hd)⟩)
    obtain ⟨vb, hvb⟩ : ∃ vb, valB V n C (syn V.F word C) pl = vb := ⟨_, rfl⟩
    have HVR := Lib.hid (fun (h : vb = true) => valR_yes (hvb.trans h))
    rw [hvb] at HVA HVY HSND
    generalize valR V n C (syn V.F word C) pl = vr at *
    clear hvb
    go_wp2_with fail
    refine HVA.out.mono ?_
    rintro e w6 ⟨v6, rfl, hb6, ho6⟩
    cases vb with
    | false =>
      have hf := Lib.hid (HNO.out w fun o hd => by have := HVY.out o hd; cases this)
      have HB6 := Lib.hid (HB5.out.trans (hb6.mono HB5.out.size))
      go_wp2_with fail
      go_ret3
      exact ⟨_, _, by rw [hf.out]; rfl, HB6.out, [], [], HNIL.out _ HB6.out, fun h => by rw [hf.out] at h; cases h⟩
    | true =>
      -- values
      have HVR2 := Lib.hid (HVR.out rfl)
      have HVE := Lib.hid (show VF.els V vr by rw [HVR2.out]; exact valsL_els V _ _ _ _)
      have HVL := Lib.hid (show vr.length = lp by rw [HVR2.out]; unfold valsL; rw [List.length_map]; exact HLP.out)
      have HDC := Lib.hid (HSND.out rfl)
      have HPN2 := Lib.hid (show pl.length ≤ C by rw [HLP.out]; omega)
      have HFX := Lib.hid (fun (h : fixB V n C word E = true) => show outTo V.F word (spread n pl vr) n = fixO V n C word E from by
        rw [HVR2.out]
        have hd := fix_spec h
        exact (hd.out hLV HZ.out hWl.out (by rw [HLP.out]; exact HPR.out) HPN2.out (HCOV.out _ hd)).2)
      rw [← HVR2.out] at HDC
      have HST := Lib.hid (show stTo V.F word pl vr lp = outTo V.F word (spread n pl vr) n by
        rw [← HLP.out]; exact stTo_end HZ.out HVE.out hWl.out (by rw [HLP.out]; exact HPR.out))
      have HCH := Lib.hid (show chTo pl vr lp = difL word (outTo V.F word (spread n pl vr) n) n by
        rw [← HLP.out]; exact chTo_end HZ.out HVE.out hWl.out (by rw [HLP.out]; exact HPR.out))
      have HPE := Lib.hid (show RisTo 0 ((n : Int) - 1) pl pl.length by rw [HLP.out]; exact HPR.out)
      clear HVR HSND HNO HVY HCOV HVA HSE HPD HOK2 HPN
      obtain ⟨a6, c6, rfl, -, h6⟩ := ho6.shape
      rw [HVL.out] at h6 ⊢
      have HB6 := Lib.hid (HB5.out.trans (hb6.mono HB5.out.size))
      have HCOD6 := Lib.hid (HCOD5.out.below hb6)
      have HR56 := Lib.hid (HR5.out.below' hb6)
      have HR6 := Lib.hid h6.row
      have HCP := Lib.hid (copyOf_any (HR.out.below' HB6.out) HCA.out (by omega))
      clear hb6 ho6 h6 HR5 HR25 HCOD5 HB5 HR4 HRA HCA4
      go_wp2_with fail
      refine HCP.out.mono ?_
      rintro e w7 ⟨v7, rfl, hb7, ho7⟩
      have hn0 : 0 < word.length := by rw [hWl.out]; omega
      obtain ⟨g7, c7, cur7, rfl, hg7, hg7l, -, -, -⟩ := ho7.form hn0
      rw [hWl.out] at ho7 ⊢
      have HO7 := Lib.hid (show OwnL (w7.alloc (.cells #[] 2)) w6.heap.size (.slice (some ⟨g7, 0, none⟩) n c7) (stTo V.F word pl vr 0) from ho7.below (below1 w7 (.cells #[] 2)))
      have HC7 := Lib.hid (show OwnL (w7.alloc (.cells #[] 2)) w7.heap.size (.slice (some ⟨w7.heap.size, 0, none⟩) 0 0) (chTo pl vr 0) from OwnL.empty w7 w7.heap.size (Nat.le_refl _) _ rfl)
      have HB7 := Lib.hid (hb7.trans ((below1 w7 (.cells #[] 2)).mono hb7.size))
      have hs7 := hb7.size
      have hdc : ¬ lp = 0 → 0 < lp := by omega
      clear hb7 ho7 HCP
      go_wp2_with fail
      go_loopw [79, 17] (fun t o wr => ∃ (k lo co : Nat) (ao : Option Addr), k ≤ lp ∧ t = .int .i64 k ∧ o = .slice ao lo co ∧ Hid ((chTo pl vr k).length = lo) ∧ Hid (OwnL wr w6.heap.size (.slice (some ⟨g7, 0, none⟩) n c7) (stTo V.F word pl vr k)) ∧ Hid (OwnL wr w7.heap.size (.slice ao lo co) (chTo pl vr k)) ∧ Hid (Below w6.heap.size w6 wr)) (fun t _ _ => (lp - intOf t).toNat)
      case atStart => exact ⟨0, 0, 0, _, by omega, rfl, rfl, Lib.hid rfl, HO7, HC7, HB7⟩
      case round =>
        obtain ⟨k, lo, co, ao, hk, rfl, rfl, hlo, hown, hch, hbel⟩ := hrel
        clear HO7 HC7 HB7
        by_cases hlt : k < lp
        · have hlt' : (k : Int) < (lp : Int) := by omega
          have HRP := Lib.hid (HR56.out.below' hbel.out)
          have HRV := Lib.hid (HR6.out.below' hbel.out)
          obtain ⟨b5, o5, e5, hb5, hcs5⟩ := HRP.out.at' (by omega)
          obtain ⟨b6, o6, e6, hb6, hcs6⟩ := HRV.out.at' (by omega)
          subst e5 e6
          have hcp := hcs5 k hlt
          have hcv := hcs6 k hlt
          obtain ⟨hi0, hi1, _⟩ := HPR.out k hlt
          obtain ⟨J, hJ⟩ : ∃ J : Nat, gi pl k = (J : Int) := ⟨(gi pl k).toNat, by omega⟩
          have hJn : J < n := by omega
          have hJn' : (J : Int) < (n : Int) := by omega
          have hSY := Lib.hid (stTo_yes (F := V.F) (word := word) (pl := pl) (vr := vr) (k := k))
          have hSN := Lib.hid (stTo_no (F := V.F) (word := word) (pl := pl) (vr := vr) (k := k))
          have hCY := Lib.hid (chTo_yes (pl := pl) (vr := vr) (k := k))
          have hCN := Lib.hid (chTo_no (pl := pl) (vr := vr) (k := k))
          have hsl := stTo_length V.F word pl vr k
          have hll : (chTo pl vr k).length ≤ 16777216 := by have := chTo_length pl vr k; omega
          obtain ⟨_, _, ea, -, hra⟩ := hown.out.shape
          simp only [Value.slice.injEq] at ea
          obtain ⟨rfl, -, -⟩ := ea
          obtain ⟨x0, x1, x2⟩ := hra.place (i := J) (by rw [hsl, hWl.out]; exact hJn)
          obtain ⟨bc, hc0, hcal⟩ := (HCOD6.out.below hbel.out).calV hs.sf
          have hxe : V.F.el (gi (stTo V.F word pl vr k) J) := (stTo_els HZ.out HVE.out k).getD J
          have hve : V.F.el (gi vr k) := HVE.out.getD k
          have HS := Lib.hid (fun W (hd : Drew wr W) => sub_any (hd.cal hcal) (gi (stTo V.F word pl vr k) J) (gi vr k) hxe hve)
          rw [hJ, Int.toNat_natCast] at hSY
          rw [hJ] at hCY hcp
          clear hcs5 hcs6 hra hcal hxe hve hJ hi0 hi1
          by_cases hz : gi vr k = 0
          · have hz' : (gi vr k != 0) = false := by simp [hz]
            have HSN2 := Lib.hid (hSN.out hz)
            have HCN2 := Lib.hid (hCN.out hz)
            clear hz hSY hSN hCY hCN HS x0 x1 x2 hc0
            generalize gi vr k = v at *
            go_wp2_with fail
            go_roundw
            case rel => exact ⟨k + 1, lo, co, ao, by omega, by go_num, rfl, by rw [HCN2.out]; exact hlo, by rw [HSN2.out]; exact hown, by rw [HCN2.out]; exact hch, hbel⟩
            case measure => simp [intOf]; omega
          · have hz' : (gi vr k != 0) = true := by simp [hz]
            have HSY2 := Lib.hid (hSY.out hz)
            have HCY2 := Lib.hid (hCY.out hz)
            clear hz hSY hSN hCY hCN
            have HOD := hown.out.below (Drew.below (drew1 wr) wr.heap.size)
            have HPL := Lib.hid (show wr.drew.cell? ⟨g7, J, none⟩ = some (.int .i64 (gi (stTo V.F word pl vr k) J)) ∧ wr.drew.frozen? ⟨g7, J, none⟩ = false from by
              obtain ⟨_, _, ea, -, hra⟩ := HOD.shape
              simp only [Value.slice.injEq] at ea
              obtain ⟨rfl, -, -⟩ := ea
              obtain ⟨z0, z1, _⟩ := hra.place (i := J) (by rw [hsl, hWl.out]; exact hJn)
              exact ⟨z0, z1⟩)
            have HST2 := Lib.hid (fun z => HOD.set (k := J) (by rw [hsl, hWl.out]; exact hJn) z)
            have HCW := Lib.hid (fun z => (hch.out.below (Drew.below (drew1 wr) wr.heap.size)).other (j := J) (x := z) (G := g7) (fun q hq => by have := (hch.out.2.lt q hq).1; omega))
            have HBW := Lib.hid (fun z => (hbel.out.trans (Drew.below (drew1 wr) w6.heap.size)).setCell (p := ⟨g7, J, none⟩) hg7 z)
            clear HOD
            generalize hx : gi (stTo V.F word pl vr k) J = x at *
            generalize gi vr k = v at *
            obtain ⟨y, hy⟩ : ∃ y, V.F.add x (V.F.neg v) = y := ⟨_, rfl⟩
            rw [hy] at HS HSY2
            clear hx hsl hy
            go_wp2_with fail
            refine wp_region_last (S := (fun w' => w'.cell? ⟨b, 0, none⟩ = some (.pointer (some ⟨bc, 0, none⟩)) ∧ w'.cell? ⟨g7, J, none⟩ = some (.int .i64 x) ∧ w'.cell? ⟨b6, o6 + k, none⟩ = some (.int .i64 v))) 16 (by kernel_rfl) rfl (by kernel_rfl) ?_ (fun hHeld => ?_)
            · (try dsimp only); exact ⟨hc0, x0, hcv⟩
            simp only [List.take_succ_cons, List.take_zero]
            refine wpAnyH_take (i := 0) (oi := _) (v := ?_) rfl (by kernel_rfl) (by kernel_rfl) (by kernel_rfl) (fun _ _ _ h => h) (Or.inl ⟨by rfl, ?_⟩) hHeld ?_
            rotate_left
            · intro w0 hSw; (try dsimp only at hSw); go_simp; (try with_reducible rfl)
            (try dsimp only [Act.put, List.setIfInBounds_toArray, List.set_cons_zero, List.set_cons_succ])
            refine wpAnyH_take (i := 1) (oi := _) (v := ?_) rfl (by kernel_rfl) (by kernel_rfl) (by kernel_rfl) (fun _ _ _ h => h) (Or.inl ⟨by rfl, ?_⟩) hHeld ?_
            rotate_left
            · intro w0 hSw; (try dsimp only at hSw); go_simp; (try with_reducible rfl)
            (try dsimp only [Act.put, List.setIfInBounds_toArray, List.set_cons_zero, List.set_cons_succ])
            refine wpAnyH_take (i := 2) (oi := _) (v := ?_) rfl (by kernel_rfl) (by kernel_rfl) (by kernel_rfl) (fun _ _ _ h => h) (Or.inl ⟨by rfl, ?_⟩) hHeld ?_
            rotate_left
            · intro w0 hSw; (try dsimp only at hSw); go_simp; (try with_reducible rfl)
            (try dsimp only [Act.put, List.setIfInBounds_toArray, List.set_cons_zero, List.set_cons_succ])
            refine wpAnyH_take (i := 3) (oi := _) (v := ?_) rfl (by kernel_rfl) (by kernel_rfl) (by kernel_rfl) (fun _ _ _ h => h) (Or.inl ⟨by rfl, ?_⟩) hHeld ?_
            rotate_left
            · intro w0 hSw; (try dsimp only at hSw); go_simp; (try with_reducible rfl)
            (try dsimp only [Act.put, List.setIfInBounds_toArray, List.set_cons_zero, List.set_cons_succ])
            refine wpAnyH_take (i := 4) (oi := _) (v := ?_) rfl (by kernel_rfl) (by kernel_rfl) (by kernel_rfl) (fun _ _ _ h => h) (Or.inl ⟨by rfl, ?_⟩) hHeld ?_
            rotate_left
            · intro w0 hSw; (try dsimp only at hSw); go_simp; (try with_reducible rfl)
            (try dsimp only [Act.put, List.setIfInBounds_toArray, List.set_cons_zero, List.set_cons_succ])
            refine wpAnyH_take (i := 5) (oi := _) (v := ?_) rfl (by kernel_rfl) (by kernel_rfl) (by kernel_rfl) (fun _ _ _ h => h) (Or.inl ⟨by rfl, ?_⟩) hHeld ?_
            rotate_left
            · intro w0 hSw; (try dsimp only at hSw); go_simp; (try with_reducible rfl)
            (try dsimp only [Act.put, List.setIfInBounds_toArray, List.set_cons_zero, List.set_cons_succ])
            refine wpAnyH_take (i := 6) (oi := _) (v := ?_) rfl (by kernel_rfl) (by kernel_rfl) (by kernel_rfl) (fun _ _ _ h => h) (Or.inl ⟨by rfl, ?_⟩) hHeld ?_
            rotate_left
            · intro w0 hSw; (try dsimp only at hSw); go_simp; (try with_reducible rfl)
            (try dsimp only [Act.put, List.setIfInBounds_toArray, List.set_cons_zero, List.set_cons_succ])
            refine wpAnyH_take (i := 7) (oi := _) (v := ?_) rfl (by kernel_rfl) (by kernel_rfl) (by kernel_rfl) (fun _ _ _ h => h) (Or.inl ⟨by rfl, ?_⟩) hHeld ?_
            rotate_left
            · intro w0 hSw; (try dsimp only at hSw); go_simp; (try with_reducible rfl)
            (try dsimp only [Act.put, List.setIfInBounds_toArray, List.set_cons_zero, List.set_cons_succ])
            refine wpAnyH_take (i := 8) (oi := _) (v := ?_) rfl (by kernel_rfl) (by kernel_rfl) (by kernel_rfl) (fun _ _ _ h => h) (Or.inl ⟨by rfl, ?_⟩) hHeld ?_
            rotate_left
            · intro w0 hSw; (try dsimp only at hSw); go_simp; (try with_reducible rfl)
            (try dsimp only [Act.put, List.setIfInBounds_toArray, List.set_cons_zero, List.set_cons_succ])
            refine wpAnyH_take (i := 9) (oi := _) (v := ?_) rfl (by kernel_rfl) (by kernel_rfl) (by kernel_rfl) (fun _ _ _ h => h) (Or.inl ⟨by rfl, ?_⟩) hHeld ?_
            rotate_left
            · intro w0 hSw; (try dsimp only at hSw); go_simp; (try with_reducible rfl)
            (try dsimp only [Act.put, List.setIfInBounds_toArray, List.set_cons_zero, List.set_cons_succ])
            refine wpAnyH_take (i := 10) (oi := _) (v := ?_) rfl (by kernel_rfl) (by kernel_rfl) (by kernel_rfl) (fun _ _ _ h => h) (Or.inl ⟨by rfl, ?_⟩) hHeld ?_
            rotate_left
            · intro w0 hSw; (try dsimp only at hSw); go_simp; (try with_reducible rfl)
            (try dsimp only [Act.put, List.setIfInBounds_toArray, List.set_cons_zero, List.set_cons_succ])
            refine wpAnyH_take (i := 11) (oi := _) (v := ?_) rfl (by kernel_rfl) (by kernel_rfl) (by kernel_rfl) (fun _ _ _ h => h) (Or.inl ⟨by rfl, ?_⟩) hHeld ?_
            rotate_left
            · intro w0 hSw; (try dsimp only at hSw); go_simp; (try with_reducible rfl)
            (try dsimp only [Act.put, List.setIfInBounds_toArray, List.set_cons_zero, List.set_cons_succ])
            refine wpAnyH_take (i := 12) (oi := _) (v := ?_) rfl (by kernel_rfl) (by kernel_rfl) (by kernel_rfl) (fun _ _ _ h => h) (Or.inl ⟨by rfl, ?_⟩) hHeld ?_
            rotate_left
            · intro w0 hSw; (try dsimp only at hSw); go_simp; (try with_reducible rfl)
            (try dsimp only [Act.put, List.setIfInBounds_toArray, List.set_cons_zero, List.set_cons_succ])
            refine wpAnyH_take (i := 13) (oi := _) (v := ?_) rfl (by kernel_rfl) (by kernel_rfl) (by kernel_rfl) (fun _ _ _ h => h) (Or.inl ⟨by rfl, ?_⟩) hHeld ?_
            rotate_left
            · intro w0 hSw; (try dsimp only at hSw); go_simp; (try with_reducible rfl)
            (try dsimp only [Act.put, List.setIfInBounds_toArray, List.set_cons_zero, List.set_cons_succ])
            refine wpAnyH_ready (rs := [14]) (by kernel_rfl) (by simp) ?_
            refine AllReadyH.cons (o := _) rfl (fun K hK => ?_) AllReadyH.nil
            go_simp
            with_reducible refine (HS.out _ (drew1 wr)).mono ?_
            rintro e w8 ⟨rfl, rfl⟩
            obtain ⟨y0, y1⟩ := HPL.out
            go_wp2_with fail
            refine hK.out _ _ ?_ (fun hHeld => ?_)
            · (try dsimp only); exact hHeld
            clear hK K
            (try dsimp only [Act.put, List.setIfInBounds_toArray, List.set_cons_zero, List.set_cons_succ])
            refine wpAnyH_take (i := 15) (oi := _) (v := ?_) rfl (by kernel_rfl) (by kernel_rfl) (by kernel_rfl) (fun _ _ _ h => h) (Or.inl ⟨by rfl, ?_⟩) hHeld ?_
            rotate_left
            · intro w0 hSw; (try dsimp only at hSw); go_simp; (try with_reducible rfl)
            (try dsimp only [Act.put, List.setIfInBounds_toArray, List.set_cons_zero, List.set_cons_succ])
            refine wpAnyH_done (by kernel_rfl) (lastQ_normal ?_) _
            have HO9 := Lib.hid (HST2.out y)
            rw [← HSY2.out] at HO9
            have HC9 := Lib.hid (HCW.out (.int .i64 y))
            have HB9 := Lib.hid (HBW.out (.int .i64 y))
            clear HST2 HCW HBW x0 x1 x2 hc0 hcv hcp HSY2 HS HPL
            go_wp2_with (at_builtin; (refine append_one rfl _ _ _ rfl Try.underlying26 (J : Int) HC9.out rfl wr.heap.size (by simp [World.setCell]) rfl hll ?_; intro v9 w9 hown9 hb9))
            have HO10 := Lib.hid (HO9.out.belowM hb9 hg7l)
            have HB10 := Lib.hid (HB9.out.trans (hb9.mono hs7))
            rw [← HCY2.out] at hown9
            obtain ⟨a9, c9, rfl, -, -⟩ := hown9.shape
            obtain ⟨l9, hl9⟩ : ∃ l9, (chTo pl vr (k + 1)).length = l9 := ⟨_, rfl⟩
            rw [hl9] at hown9 ⊢
            have HL9 := Lib.hid hl9
            have HC10 := Lib.hid hown9
            clear hown9 hb9 hl9 HO9 HC9 HB9 hll y0 y1
            (try go_wp2_with fail)
            exact ⟨⟨k + 1, l9, c9, a9, by omega, by go_num, rfl, HL9, HO10, HC10, HB10⟩, by simp [intOf]; omega⟩
        · obtain rfl : k = lp := by omega
          have HBE := Lib.hid (HB6.out.trans (hbel.out.mono HB6.out.size))
          have HOE := hown.out
          have HCE := hch.out
          rw [HST.out] at HOE
          rw [HCH.out] at HCE
          have HOE' := Lib.hid HOE
          have HCE' := Lib.hid HCE
          have HT := Lib.hid (show TwoL w wr (.slice ao lo co) (.slice (some ⟨g7, 0, none⟩) n c7) (difL word (outTo V.F word (spread n pl vr) n) n) (outTo V.F word (spread n pl vr) n) from
            ⟨w7.heap.size, HCE'.out, HOE'.out.lower (by have := HB6.out.size; omega), by have := HB6.out.size; omega, fun q hq => by simp [Value.ownBlock] at hq; omega⟩)
          have HFT := Lib.hid (fix_of HDC.out)
          clear HOE HCE
          go_wp2_with fail
          go_ret3
          exact ⟨_, _, by rw [HFT.out]; rfl, HBE.out, _, _, HT.out, fun h => ⟨HFX.out h, by rw [← HFX.out h]⟩⟩
end Go.Proofs.Ytfhkkpfiflgofaa
