/-
  The walk of 'Field.calc': the tables of a field, and whether it is valid.
-/
import Derived.Test.YtenlaoadclfmaaaPrime
import Derived.WalkSmall
namespace Go.Proofs.Ytenlaoadclfmaaa
open Go.RowKit
set_option linter.unusedVariables false

/-- A valid field of prime size. -/
def ValidP (p pw g : Int) : Prop := pw = 1 ∧ 3 ≤ p ∧ p ≤ 1021 ∧ primeB p = true ∧ 2 ≤ g ∧ g < p ∧ goodB (timesP g p) (nP p) = true ∧ ∀ h : Int, 2 ≤ h → h < g → goodB (timesP h p) (nP p) = false
/-- A valid binary field. -/
def ValidB (p pw g : Int) : Prop := p = 2 ∧ 3 ≤ pw ∧ pw ≤ 8 ∧ ((2 ^ pw.toNat : Nat) : Int) ≤ g ∧ g < 2 * ((2 ^ pw.toNat : Nat) : Int) ∧ goodB (timesB ((2 ^ pw.toNat : Nat) : Int) g) (2 ^ pw.toNat - 1) = true
open Classical in
noncomputable def validB (p pw g : Int) : Bool := decide (ValidP p pw g ∨ ValidB p pw g)
/-- The field that the three numbers stand for. -/
def ffOf (p pw g : Int) : FF := if pw = 1 then ⟨false, p, g⟩ else ⟨true, ((2 ^ pw.toNat : Nat) : Int), g⟩
theorem good_of {T : Int → Int} {N : Nat} (h : goodB T N = true) : Good T N := by unfold goodB at h; simpa using h
theorem ffOf_ok {p pw g : Int} (h : validB p pw g = true) : (ffOf p pw g).ok := by
  unfold validB at h; simp only [decide_eq_true_eq] at h
  rcases h with ⟨h1, h2, h3, h4, h5, h6, h7, _⟩ | ⟨h1, h2, h3, h4, h5, h6⟩
  · unfold ffOf; rw [if_pos h1]
    exact FF.ok.mk h2 h3 (good_of h7) (fun h => by cases h) (fun _ => ⟨by show 1 ≤ g; omega, h6⟩)
  · unfold ffOf; rw [if_neg (by omega)]
    have hp : 2 ^ 3 ≤ 2 ^ pw.toNat := Nat.pow_le_pow_right (by omega) (by omega)
    have hp2 : 2 ^ pw.toNat ≤ 2 ^ 8 := Nat.pow_le_pow_right (by omega) (by omega)
    refine ⟨by show (3 : Int) ≤ ((2 ^ pw.toNat : Nat) : Int); omega, by show ((2 ^ pw.toNat : Nat) : Int) ≤ 1021; omega, ?_, fun _ => ⟨pw.toNat, by omega, by omega, rfl, h4, h5⟩, fun h => by cases h⟩
    have := good_of h6
    have e : (((2 ^ pw.toNat : Nat) : Int) - 1).toNat = 2 ^ pw.toNat - 1 := by omega
    show Good (timesB _ _) (((2 ^ pw.toNat : Nat) : Int) - 1).toNat
    rw [e]; exact this
theorem logA_eq {F : FF} (h : F.ok) : ∀ k, k ≤ F.N → ∀ n, n < k → logA F.times k (F.exp n) = n := by
  intro k
  induction k with
  | zero => intro _ n hn; omega
  | succ k ih =>
    intro hk n hn
    unfold logA
    by_cases e : F.exp n = orb F.times k
    · rw [if_pos e]
      have := FF.exp_inj h n k (by omega) (by omega) e
      rw [this]
    · rw [if_neg e]
      exact ih (by omega) n (by
        have : n ≠ k := fun x => e (by rw [x]; rfl)
        omega)
theorem cal_of_tab {F : FF} (h : F.ok) {w : World} {b : Nat} (hb : b < w.heap.size) (t : Tab w b F.bin F.size F.times F.N) : Cal w b F := by
  obtain ⟨cur, hbk, hs, h0, h1, h2, h3⟩ := t.blk
  have hcell : ∀ o, w.cell? ⟨b, o, none⟩ = cur[o]? := fun o => by unfold World.cell?; rw [hbk]; rfl
  refine ⟨h, hb, by rw [hcell]; exact h0, by rw [hcell]; exact h1, fun n hn => by rw [hcell]; exact h2 n hn, fun a ha ha0 => ?_⟩
  rw [hcell]
  have hhi := h.hi
  have := h3 a.toNat (by have := ha.1; have := ha.2; omega)
  rw [this]
  have e : ((a.toNat : Nat) : Int) = a := Int.toNat_of_nonneg ha.1
  rw [e]
  obtain ⟨n, hn, rfl⟩ := FF.exp_onto h ha ha0
  rw [logA_eq h _ (Nat.le_refl _) n hn, FF.log_exp h n hn]
/-- What 'calc' leaves. -/
def CalcPost (p pw g : Int) (w : World) (e : Ending) (w' : World) : Prop :=
  ∃ v, e = .returned (.tuple #[v, .bool (validB p pw g)]) ∧ Below w.heap.size w w' ∧ (validB p pw g = true → ∃ b, v = .pointer (some ⟨b, 0, none⟩) ∧ w.heap.size ≤ b ∧ Cal w' b (ffOf p pw g))
theorem validB_not {p pw g : Int} (h1 : ¬ ValidP p pw g) (h2 : ¬ ValidB p pw g) : validB p pw g = false := by
  unfold validB; simp [h1, h2]
theorem CalcPost.no {p pw g : Int} {w w' : World} {v : Value} (h : validB p pw g = false) (hb : Below w.heap.size w w') : CalcPost p pw g w (.returned (.tuple #[v, .bool false])) w' :=
  ⟨v, by rw [h], hb, fun hh => by rw [h] at hh; cases hh⟩
theorem calc_none (p pw g : Int) (w : World) (h1 : ¬ (pw = 1 ∧ 3 ≤ p ∧ p ≤ 1021 ∧ primeB p = true)) (h2 : ¬ (p = 2 ∧ 3 ≤ pw ∧ pw ≤ 8 ∧ ((2 ^ pw.toNat : Nat) : Int) ≤ g ∧ g < 2 * ((2 ^ pw.toNat : Nat) : Int))) :
    Calls Try.prog 83 #[.agg #[.int .i64 p, .int .i64 pw, .int .i64 g]] w (CalcPost p pw g w) := by
  have hv := Lib.hid (validB_not (fun h => h1 ⟨h.1, h.2.1, h.2.2.1, h.2.2.2.1⟩) (fun h => h2 ⟨h.1, h.2.1, h.2.2.1, h.2.2.2.1, h.2.2.2.2.1⟩))
  have hpost : ∀ v w', Below w.heap.size w w' → CalcPost p pw g w (.returned (.tuple #[v, .bool false])) w' := fun v w' hb => CalcPost.no hv.out hb
  have HP := Lib.hid hpost
  clear hpost
  by_cases hpw : pw = 1
  · have hpw' : (pw == 1) = true := by simp [hpw]
    by_cases hin : 3 ≤ p ∧ p ≤ 1021
    · have hpr : primeB p = false := by
        cases h : primeB p
        · rfl
        · exact absurd ⟨hpw, hin.1, hin.2, h⟩ h1
      have hin' := inR_true hin.1 hin.2
      have hp2 : (p == 2) = false := by simp; omega
      clear h1 h2 hpw
      go_enter Try.func83, Try.ntmps83
      go_wp2_with fail
      refine (inRange_any _ _ _ _).mono ?_
      rintro e w' ⟨rfl, rfl⟩
      go_wp2_with fail
      refine (isPrime_any p (by omega) _).mono ?_
      rintro e w' ⟨rfl, rfl⟩
      go_wp2_with fail
      go_ret2
      exact HP.out _ _ ((Below.refl _ _).alloc (Nat.le_refl _) _)
    · have hin' : inR p 3 1021 = false := inR_false hin
      have hin2 : inR pw 3 8 = false := inR_lo (by omega)
      by_cases hp2 : p = 2
      · have hp2' : (p == 2) = true := by simp [hp2]
        clear h1 h2 hpw hp2
        go_enter Try.func83, Try.ntmps83
        go_wp2_with fail
        refine (inRange_any _ _ _ _).mono ?_
        rintro e w' ⟨rfl, rfl⟩
        go_wp2_with fail
        refine (inRange_any _ _ _ _).mono ?_
        rintro e w' ⟨rfl, rfl⟩
        go_wp2_with fail
        go_ret2
        exact HP.out _ _ ((Below.refl _ _).alloc (Nat.le_refl _) _)
      · have hp2' : (p == 2) = false := by simp [hp2]
        clear h1 h2 hpw hp2
        go_enter Try.func83, Try.ntmps83
        go_wp2_with fail
        refine (inRange_any _ _ _ _).mono ?_
        rintro e w' ⟨rfl, rfl⟩
        go_wp2_with fail
        go_ret2
        exact HP.out _ _ ((Below.refl _ _).alloc (Nat.le_refl _) _)
  · have hpw' : (pw == 1) = false := by simp [hpw]
    by_cases hp2 : p = 2
    · have hp2' : (p == 2) = true := by simp [hp2]
      by_cases hin : 3 ≤ pw ∧ pw ≤ 8
      · have hin' := inR_true hin.1 hin.2
        have hq : (g / 2 ^ pw.toNat == 1) = false := by
          simp only [beq_eq_false_iff_ne]
          intro hq
          apply h2
          have h0 : (0 : Int) < 2 ^ pw.toNat := Int.pow_pos (by omega)
          have e : ((2 ^ pw.toNat : Nat) : Int) = (2 : Int) ^ pw.toNat := by simp
          rw [e]
          refine ⟨hp2, hin.1, hin.2, ?_, ?_⟩
          · have := (Int.le_ediv_iff_mul_le h0).1 (show (1 : Int) ≤ g / 2 ^ pw.toNat by omega); omega
          · have := (Int.ediv_lt_iff_lt_mul h0).1 (show g / 2 ^ pw.toNat < 2 by omega); omega
        have hb0 : 0 ≤ pw := by omega
        have hb1 : pw ≤ 64 := by omega
        clear h1 h2 hpw hp2
        go_enter Try.func83, Try.ntmps83
        go_wp2_with fail
        refine (inRange_any _ _ _ _).mono ?_
        rintro e w' ⟨rfl, rfl⟩
        go_wp2_with fail
        go_ret2
        exact HP.out _ _ ((Below.refl _ _).alloc (Nat.le_refl _) _)
      · have hin' : inR pw 3 8 = false := inR_false hin
        clear h1 h2 hpw hp2
        go_enter Try.func83, Try.ntmps83
        go_wp2_with fail
        refine (inRange_any _ _ _ _).mono ?_
        rintro e w' ⟨rfl, rfl⟩
        go_wp2_with fail
        go_ret2
        exact HP.out _ _ ((Below.refl _ _).alloc (Nat.le_refl _) _)
    · have hp2' : (p == 2) = false := by simp [hp2]
      clear h1 h2 hpw hp2
      go_enter Try.func83, Try.ntmps83
      go_wp2_with fail
      go_ret2
      exact HP.out _ _ ((Below.refl _ _).alloc (Nat.le_refl _) _)

set_option maxHeartbeats 400000 in
set_option maxRecDepth 100000 in
theorem calc_bin (pw g : Int) (w : World) (h3 : 3 ≤ pw) (h8 : pw ≤ 8) (hg1 : ((2 ^ pw.toNat : Nat) : Int) ≤ g) (hg2 : g < 2 * ((2 ^ pw.toNat : Nat) : Int)) :
    Calls Try.prog 83 #[.agg #[.int .i64 2, .int .i64 pw, .int .i64 g]] w (CalcPost 2 pw g w) := by
  obtain ⟨sz, hsz⟩ : ∃ sz : Int, sz = ((2 ^ pw.toNat : Nat) : Int) := ⟨_, rfl⟩
  have e : ((2 ^ pw.toNat : Nat) : Int) = (2 : Int) ^ pw.toNat := by simp
  have hq : (g / 2 ^ pw.toNat == 1) = true := by
    simp only [beq_iff_eq]
    have h0 : (0 : Int) < 2 ^ pw.toNat := Int.pow_pos (by omega)
    rw [e] at hg1 hg2
    have h1 := (Int.le_ediv_iff_mul_le h0).2 (show (1 : Int) * 2 ^ pw.toNat ≤ g by omega)
    have h2 := (Int.ediv_lt_iff_lt_mul h0).2 (show g < 2 * 2 ^ pw.toNat by omega)
    omega
  have hlo : 2 ^ 3 ≤ 2 ^ pw.toNat := Nat.pow_le_pow_right (by omega) (by omega)
  have hhi : 2 ^ pw.toNat ≤ 2 ^ 8 := Nat.pow_le_pow_right (by omega) (by omega)
  have hsz1 : 8 ≤ sz ∧ sz ≤ 256 := by omega
  have hpw' : (pw == 1) = false := by simp; omega
  have hin' := inR_true h3 h8
  have hb0 : 0 ≤ pw := by omega
  have hb1 : pw ≤ 64 := by omega
  have hshl : wrap64 ((2 : Int) ^ pw.toNat) = sz := by
    rw [← e, ← hsz]; exact IntWalk.wrap64_in _ (by omega)
  have HSZ := Lib.hid hsz
  rw [← hsz] at hg1 hg2
  clear hlo hhi e hsz
  go_enter Try.func83, Try.ntmps83
  go_wp2_with fail
  refine (inRange_any _ _ _ _).mono ?_
  rintro e w' ⟨rfl, rfl⟩
  go_wp2_with fail
  have hb0 : Below w.heap.size w (((w.alloc (.cells #[.int .i64 2, .int .i64 pw, .int .i64 g] 27)).alloc (.cells ((Try.zeroCells125.setIfInBounds 0 (.bool true)).setIfInBounds 1 (.int .i64 sz)) 125)).alloc (.cells #[.pointer (some ⟨w.heap.size + 1, 0, none⟩)] 64)) :=
    (((Below.refl _ _).alloc (Nat.le_refl _) _).alloc (by simp) _).alloc (by simp; omega) _
  refine (fill_any true sz (timesB sz g) (nP sz) (by unfold nP; omega) (by omega) (by omega)
    (fun x h0 h1 => by
      have := timesB_range pw.toNat g x (by rw [← HSZ.out]; exact hg1) (by rw [← HSZ.out]; exact hg2) h0 (by rw [← HSZ.out]; exact h1)
      rw [← HSZ.out] at this; exact this) _ _ _ (w.heap.size + 1)
    (fun W => W.cell? ⟨w.heap.size + 1 + 1, 0, none⟩ = some (.pointer (some ⟨w.heap.size + 1, 0, none⟩)) ∧ W.cell? ⟨w.heap.size, 2, none⟩ = some (.int .i64 g))
    (fun W o v hP ho => ⟨by rw [frame_cell _ _ _ _ _ (by simp)]; exact hP.1, by rw [frame_cell _ _ _ _ _ (by simp)]; exact hP.2⟩)
    (fun W x hP hs h0 h1 => timesB_any pw.toNat (by omega) sz g x HSZ.out W _ _ _ hP.1 hs hP.2 h0 h1 hg1 hg2) callFunc_b _ ?h0 ?h1).mono ?_
  case h0 =>
    have := tab_new (w.alloc (.cells #[.int .i64 2, .int .i64 pw, .int .i64 g] 27)) true sz (timesB sz g) _ rfl
    obtain ⟨cur, hb, r⟩ := this.blk
    exact ⟨cur, (Below.heap_alloc _ _ _ (by simp)).trans (by simpa using hb), r⟩
  case h1 => exact ⟨by simp [go_sem], by simp [go_sem]⟩
  rintro e w' ⟨rfl, hb, hP, ht⟩
  have hsz := hb.size
  have hB := Lib.hid (hb0.trans (hb.mono (by omega)))
  have hlt : w.heap.size + 1 < w'.heap.size := by simp at hsz; omega
  have hc1 := hP.1
  have hv : validB 2 pw g = goodB (timesB sz g) (nP sz) := by
    have e2 : 2 ^ pw.toNat - 1 = nP sz := by unfold nP; have := HSZ.out; omega
    cases hh : goodB (timesB sz g) (nP sz)
    · refine validB_not (fun h => by have := h.2.1; omega) (fun h => ?_)
      have := h.2.2.2.2.2
      rw [e2, ← HSZ.out, hh] at this
      cases this
    · unfold validB
      simp only [decide_eq_true_eq]
      exact .inr ⟨rfl, h3, h8, by rw [← HSZ.out]; exact hg1, by rw [← HSZ.out]; exact hg2, by rw [e2, ← HSZ.out]; exact hh⟩
  have hff : ffOf 2 pw g = ⟨true, sz, g⟩ := by unfold ffOf; rw [if_neg (by omega), ← HSZ.out]
  have hfin : CalcPost 2 pw g w (.returned (.tuple #[.pointer (some ⟨w.heap.size + 1, 0, none⟩), .bool (goodB (timesB sz g) (nP sz))])) w' := by
    refine ⟨_, by rw [hv], hB.out, fun hh => ⟨_, rfl, by omega, ?_⟩⟩
    have hok := ffOf_ok hh
    rw [hff] at hok ⊢
    rw [hv] at hh
    exact cal_of_tab hok hlt (ht hh)
  have HF := Lib.hid hfin
  clear hb hb0 hP hsz ht hv hff hfin
  go_wp2_with fail
  go_ret2
  exact HF.out

/-- No generator below h. -/
def NoGen (p h : Int) : Prop := ∀ x : Int, 2 ≤ x → x < h → goodB (timesP x p) (nP p) = false
theorem NoGen.next {p h : Int} (a : NoGen p h) (b : goodB (timesP h p) (nP p) = false) : NoGen p (h + 1) := fun x h1 h2 => by
  by_cases e : x = h
  · rw [e]; exact b
  · exact a x h1 (by omega)
theorem valid_found {p g h : Int} (h3 : 3 ≤ p) (hp : p ≤ 1021) (hpr : primeB p = true) (hh : 2 ≤ h) (hhp : h < p) (hn : NoGen p h) (hg : goodB (timesP h p) (nP p) = true) : validB p 1 g = (h == g) := by
  by_cases e : h = g
  · subst e
    have hv : validB p 1 h = true := by
      unfold validB; simp only [decide_eq_true_eq]
      exact .inl ⟨rfl, h3, hp, hpr, hh, hhp, hg, hn⟩
    rw [hv]; simp
  · have : (h == g) = false := by simp [e]
    rw [this]
    refine validB_not (fun v => ?_) (fun v => by have := v.2.1; omega)
    obtain ⟨_, _, _, _, h5, h6, h7, h8⟩ := v
    rcases Int.lt_trichotomy h g with hl | hl | hl
    · rw [h8 h hh hl] at hg; cases hg
    · exact e hl
    · rw [hn g h5 hl] at h7; cases h7
theorem valid_none {p g h : Int} (hhp : p ≤ h) (hn : NoGen p h) : validB p 1 g = false :=
  validB_not (fun v => by
    obtain ⟨_, _, _, _, h5, h6, h7, h8⟩ := v
    rw [hn g h5 (by omega)] at h7; cases h7) (fun v => by have := v.2.1; omega)
set_option maxHeartbeats 1000000 in
set_option maxRecDepth 100000 in
theorem calc_prime (p g : Int) (w : World) (h3 : 3 ≤ p) (hp : p ≤ 1021) (hpr : primeB p = true) :
    Calls Try.prog 83 #[.agg #[.int .i64 p, .int .i64 1, .int .i64 g]] w (CalcPost p 1 g w) := by
  have hin' := inR_true h3 hp
  have HPR := Lib.hid hpr
  have hp2 : (p == 2) = false := by simp; omega
  go_enter Try.func83, Try.ntmps83
  go_wp2_with fail
  refine (inRange_any _ _ _ _).mono ?_
  rintro e w' ⟨rfl, rfl⟩
  go_wp2_with fail
  refine (isPrime_any p (by omega) _).mono ?_
  rintro e w' ⟨rfl, rfl⟩
  go_wp2_with fail
  clear hpr
  go_loopw [4] (fun t wr => ∃ h : Int, 2 ≤ h ∧ h ≤ p ∧ NoGen p h ∧ t = .int .i64 h ∧ Below (w.heap.size + 1) (w.alloc (.cells #[.int .i64 p, .int .i64 1, .int .i64 g] 27)) wr) (fun t _ => (p - intOf t).toNat)
  case atStart => exact ⟨2, by omega, by omega, fun x h1 h2 => by omega, rfl, Below.refl _ _⟩
  case round =>
    obtain ⟨h, h1, h2, hng, rfl, hbel⟩ := hrel
    have hc0 : wr.cell? ⟨w.heap.size, 0, none⟩ = some (.int .i64 p) := by rw [hbel.cell (p := ⟨w.heap.size, 0, none⟩) (by simp)]; simp [go_sem]
    have hc2 : wr.cell? ⟨w.heap.size, 2, none⟩ = some (.int .i64 g) := by rw [hbel.cell (p := ⟨w.heap.size, 2, none⟩) (by simp)]; simp [go_sem]
    have hsz : w.heap.size + 1 ≤ wr.heap.size := by have := hbel.size; simpa using this
    have hbw : Below w.heap.size w (w.alloc (.cells #[.int .i64 p, .int .i64 1, .int .i64 g] 27)) := (Below.refl _ _).alloc (Nat.le_refl _) _
    have HBW := Lib.hid (hbw.trans (hbel.mono (by omega)))
    have HB := Lib.hid hbel
    have HNG := Lib.hid hng
    clear hbel hng hbw
    by_cases hlt : h < p
    · go_wp2_with fail
      refine (primePowers_any p h _ h3 hp (by omega) (by omega)).mono ?_
      rintro e w1 ⟨b, rfl, hb1, hb2, hb3, ht⟩
      have hd0 : w1.cell? ⟨w.heap.size, 0, none⟩ = some (.int .i64 p) := by rw [hb1.cell (p := ⟨w.heap.size, 0, none⟩) (by simp; omega)]; exact hc0
      have hd2 : w1.cell? ⟨w.heap.size, 2, none⟩ = some (.int .i64 g) := by rw [hb1.cell (p := ⟨w.heap.size, 2, none⟩) (by simp; omega)]; exact hc2
      have HT := Lib.hid ht
      have HB1 := Lib.hid hb1
      clear ht hb1
      cases hgd : goodB (timesP h p) (nP p)
      · have hn2 := Lib.hid (HNG.out.next hgd)
        have hbb := Lib.hid (HB.out.trans (HB1.out.mono hsz))
        clear HT
        go_wp2_with fail
        go_roundw
        case rel => exact ⟨h + 1, by omega, by omega, hn2.out, rfl, hbb.out⟩
        case measure => simp [intOf]; omega
      · have hval := valid_found (g := g) h3 hp HPR.out h1 hlt HNG.out hgd
        have hbb := HBW.out.trans (HB1.out.mono (by omega))
        have hff : ffOf p 1 g = ⟨false, p, g⟩ := by unfold ffOf; rw [if_pos rfl]
        have hfin : ∀ n, CalcPost p 1 g w (.returned (.tuple #[.pointer (some ⟨b, 0, none⟩), .bool (h == g)])) (w1.drewN n) := fun n => by
          refine ⟨_, by rw [hval], below_drewN hbb n, fun hh => ⟨_, rfl, by omega, ?_⟩⟩
          have hok := ffOf_ok hh
          rw [hff] at hok ⊢
          rw [hval] at hh
          simp at hh
          subst hh
          refine cal_of_tab hok (by simpa using hb3) ?_
          obtain ⟨cur, hbk, r⟩ := (HT.out hgd).blk
          exact ⟨cur, hbk, r⟩
        have HF := Lib.hid hfin
        clear hfin hval hff hbb
        go_wp2_with fail
        go_quiet (fail)
        go_wp2_with fail
        go_ret2
        exact HF.out _
    · have hv := valid_none (g := g) (show p ≤ h by omega) HNG.out
      have HF := Lib.hid (CalcPost.no (v := .pointer none) hv HBW.out)
      clear hv
      go_wp2_with fail
      go_ret2
      exact HF.out
theorem calc_any (p pw g : Int) (w : World) :
    Calls Try.prog 83 #[.agg #[.int .i64 p, .int .i64 pw, .int .i64 g]] w (CalcPost p pw g w) := by
  by_cases h1 : pw = 1 ∧ 3 ≤ p ∧ p ≤ 1021 ∧ primeB p = true
  · obtain ⟨rfl, h3, hp, hpr⟩ := h1
    exact calc_prime p g w h3 hp hpr
  · by_cases h2 : p = 2 ∧ 3 ≤ pw ∧ pw ≤ 8 ∧ ((2 ^ pw.toNat : Nat) : Int) ≤ g ∧ g < 2 * ((2 ^ pw.toNat : Nat) : Int)
    · obtain ⟨rfl, a, b, c, d⟩ := h2
      exact calc_bin pw g w a b c d
    · exact calc_none p pw g w h1 h2
end Go.Proofs.Ytenlaoadclfmaaa
