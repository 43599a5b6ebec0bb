/-
  The parts Sizb, Sizc, Sizd.
-/
import Derived.Test.YtdcmebegnekkcaaGreatFixf2
import Derived.Test.YtdcmebegnekkcaaGreatSegN
import Derived.Test.YtdcmebegnekkcaaGreatLay
/-
  Payload sizes, in both programs.
-/
namespace Go.Proofs.YtdcmebegnekkcaaGreat
open Go.RowKit
set_option linter.unusedVariables false

set_option maxHeartbeats 4000000 in
theorem width_any {k : Nat} (hk : k < 5) {w : World} {b : Nat} (hC : Cal w b (ffOf 2 ((fpw k : Nat) : Int) (fg0 k))) :
    Calls Tryz.prog 139 #[.pointer (some ⟨b, 0, none⟩)] w fun e w' => e = .returned (.int .i64 ((fpw k : Nat) : Int)) ∧ Drew w w' := by
  have HS := Lib.hid (show w.cell? ⟨b, 1, none⟩ = some (.int .i64 ((2 ^ fpw k : Nat) : Int)) by rw [← ffsz_of hk]; exact hC.size)
  have hp : fpw k = 4 ∨ fpw k = 5 ∨ fpw k = 6 ∨ fpw k = 8 := by
    rcases (show k = 0 ∨ k = 1 ∨ k = 2 ∨ k = 3 ∨ k = 4 by omega) with rfl | rfl | rfl | rfl | rfl <;> decide
  clear hC hk
  generalize fpw k = K at *
  go_enter Tryz.func139, Tryz.ntmps139
  go_wp2_with fail
  go_loopw [3] (fun t wr => ∃ i : Nat, i ≤ K ∧ t = .int .i64 (i : Int) ∧ Hid (Drew w wr)) (fun t _ => K - (intOf t).toNat)
  case atStart => exact ⟨0, by omega, rfl, Lib.hid ⟨0, rfl⟩⟩
  case round =>
    obtain ⟨i, hi, rfl, hD⟩ := hrel
    have c1 : wr.cell? ⟨b, 1, none⟩ = some (.int .i64 ((2 ^ K : Nat) : Int)) := (drewCell hD.out _).trans HS.out
    have hw := shl_w (i := i) (by omega)
    by_cases hlt : i < K
    · have hle := shl_le hlt
      go_wp2_with fail
      go_quiet (fail)
      go_wp2_with fail
      clear hw hle
      go_roundw
      case rel => exact ⟨i + 1, by omega, by go_num, Lib.hid (hD.out.trans ⟨_, rfl⟩)⟩
      case measure => simp [intOf]; omega
    · obtain rfl : i = K := by omega
      have hgt := shl_gt i
      go_wp2_with fail
      go_quiet (fail)
      go_wp2_with fail
      go_ret
      exact ⟨rfl, hD.out.trans ⟨_, rfl⟩⟩
set_option maxHeartbeats 4000000 in
theorem implFieldSize_at {k : Nat} (hk : k < 5) (w : World) :
    Calls Tryz.prog 144 #[fV 2 ((fpw k : Nat) : Int) (fg0 k)] w fun e w' => e = .returned (.int .i64 ((2 ^ fpw k : Nat) : Int)) ∧ Below w.heap.size w w' := by
  have HV := Lib.hid (fval_of hk)
  have HS := Lib.hid (ffsz_of hk)
  go_enter Tryz.func144, Tryz.ntmps144
  go_wp2_with fail
  refine (calc_any _ _ _ _).mono ?_
  rintro e w1 ⟨v, rfl, hb1, hcal⟩
  obtain ⟨b, rfl, hb, hC⟩ := hcal HV.out
  rw [HV.out]
  have HB := Lib.hid ((below1 w (.cells #[.int .i64 2, .int .i64 ((fpw k : Nat) : Int), .int .i64 (fg0 k)] FTa)).trans (hb1.mono (by simp)))
  have c1 : w1.cell? ⟨b, 1, none⟩ = some (.int .i64 ((2 ^ fpw k : Nat) : Int)) := by rw [← HS.out]; exact hC.size
  clear hb1 hcal hC hb
  obtain ⟨z, hz⟩ : ∃ z : Int, ((2 ^ fpw k : Nat) : Int) = z := ⟨_, rfl⟩
  rw [hz] at c1
  have HZ := Lib.hid hz
  clear hz
  go_wp2_with fail
  go_ret
  exact ⟨by rw [HZ.out]; rfl, HB.out⟩
set_option maxHeartbeats 4000000 in
theorem implFieldWidth_at {k : Nat} (hk : k < 5) (w : World) :
    Calls Tryz.prog 146 #[fV 2 ((fpw k : Nat) : Int) (fg0 k)] w fun e w' => e = .returned (.int .i64 ((fpw k : Nat) : Int)) ∧ Below w.heap.size w w' := by
  have HV := Lib.hid (fval_of hk)
  go_enter Tryz.func146, Tryz.ntmps146
  go_wp2_with fail
  refine (calc_any _ _ _ _).mono ?_
  rintro e w1 ⟨v, rfl, hb1, hcal⟩
  obtain ⟨b, rfl, hb, hC⟩ := hcal HV.out
  rw [HV.out]
  have HB := Lib.hid ((below1 w (.cells #[.int .i64 2, .int .i64 ((fpw k : Nat) : Int), .int .i64 (fg0 k)] FTa)).trans (hb1.mono (by simp)))
  have HC := Lib.hid hC
  clear hb1 hcal hC hb
  go_wp2_with fail
  refine (width_any hk HC.out).mono ?_
  rintro e w2 ⟨rfl, hd⟩
  have HB2 := Lib.hid (HB.out.trans ((Drew.below hd _).mono HB.out.size))
  clear hd
  go_wp2_with fail
  go_ret
  exact ⟨rfl, HB2.out⟩
/-- The elements that a message takes. -/
def payI (k : Nat) (l : List UInt8) : Int := if 1 < (bestP l + ((fpw k : Nat) : Int) - 1).tdiv ((fpw k : Nat) : Int) then (bestP l + ((fpw k : Nat) : Int) - 1).tdiv ((fpw k : Nat) : Int) else 1
theorem pay_parts {k : Nat} (hk : k < 5) {l : List UInt8} (hl : l.length ≤ 400) : ∃ K q : Int, ((fpw k : Nat) : Int) = K ∧ 4 ≤ K ∧ K ≤ 8 ∧ 0 ≤ bestP l ∧ bestP l ≤ 1200000 ∧ (bestP l + K - 1).tdiv K = q ∧ 0 ≤ q ∧ q ≤ 1200010 ∧ payI k l = if 1 < q then q else 1 := by
  have hp : 4 ≤ ((fpw k : Nat) : Int) ∧ ((fpw k : Nat) : Int) ≤ 8 := by
    rcases (show k = 0 ∨ k = 1 ∨ k = 2 ∨ k = 3 ∨ k = 4 by omega) with rfl | rfl | rfl | rfl | rfl <;> decide
  obtain ⟨b1, b2⟩ := bestP_bd hl
  refine ⟨_, _, rfl, hp.1, hp.2, b1, b2, rfl, ?_, ?_, rfl⟩
  · exact Int.tdiv_nonneg (by omega) (by omega)
  · rw [Int.tdiv_eq_ediv_of_nonneg (by omega)]
    exact Int.le_trans (Int.ediv_le_self _ (by omega)) (by omega)
/-- What PayloadSize hands back. -/
def PayE (z : Int) (e : Ending) : Prop := (z ≤ 1500 ∧ e = .returned (.tuple #[.int .i64 z, .int .i64 0])) ∨ (1500 < z ∧ e = .returned (.tuple #[.int .i64 0, .int .i64 3]))
set_option maxHeartbeats 4000000 in
theorem specPayloadSize_at {k : Nat} (hk : k < 5) {l : List UInt8} (hl : l.length ≤ 400) (w : World) :
    Calls Tryz.prog 60 #[fV 2 ((fpw k : Nat) : Int) (fg0 k), .string (str l)] w fun e w' => PayE (payI k l) e ∧ Below w.heap.size w w' := by
  have HV := Lib.hid (fval_of hk)
  have HW := Lib.hid (fun (V : World) => l11Width_any hk V)
  have HBL := Lib.hid (fun (V : World) => specBestLength_any l hl V)
  obtain ⟨K, q, eK, k1, k2, b1, b2, hq, q1, q2, hpay⟩ := pay_parts hk hl
  have HP := Lib.hid hpay
  clear hpay
  rw [eK] at HV HW ⊢
  clear eK
  generalize fg0 k = g at *
  generalize bestP l = n at *
  have F0 := Lib.hid (FB.new w 2 K g)
  have B0 := Lib.hid (below1 w (.cells #[.int .i64 2, .int .i64 K, .int .i64 g] FTa))
  go_enter Tryz.func60, Tryz.ntmps60
  go_wp2_with fail
  refine (isField_any _ _ _ _).mono ?_
  rintro e w1 ⟨rfl, hb1⟩
  rw [HV.out]
  have F1 := Lib.hid (F0.out.below hb1 F0.out.lt)
  have B1 := Lib.hid (B0.out.trans (hb1.mono B0.out.size))
  clear hb1 F0 B0
  go_wp2_with fail
  refine (HBL.out _).mono ?_
  rintro e w2 ⟨rfl, hb2⟩
  have F2 := Lib.hid (F1.out.below hb2 F1.out.lt)
  have B2 := Lib.hid (B1.out.trans (hb2.mono B1.out.size))
  have z0 := F2.out.c0
  have z1 := F2.out.c1
  have z2 := F2.out.c2
  clear hb2 F1 B1
  go_wp2_with fail
  refine (HW.out _).mono ?_
  rintro e w3 ⟨rfl, hb3⟩
  have B3 := Lib.hid (B2.out.trans (hb3.mono B2.out.size))
  clear hb3 z0 z1 z2 B2
  have hk0 : ¬ K = 0 := by omega
  have HB := Lib.hid B3.out
  by_cases hq1 : 1 < q
  · rw [if_pos hq1] at HP
    by_cases hq2 : 1500 < q
    · go_wp2_with fail
      go_ret2
      exact ⟨.inr (by rw [HP.out]; exact ⟨hq2, rfl⟩), HB.out⟩
    · go_wp2_with fail
      go_ret2
      exact ⟨.inl (by rw [HP.out]; exact ⟨by omega, rfl⟩), HB.out⟩
  · rw [if_neg hq1] at HP
    go_wp2_with fail
    go_ret2
    exact ⟨.inl (by rw [HP.out]; exact ⟨by omega, rfl⟩), HB.out⟩
set_option maxHeartbeats 4000000 in
theorem implPayloadSize_at {k : Nat} (hk : k < 5) {l : List UInt8} (hl : l.length ≤ 400) (w : World) :
    Calls Tryz.prog 127 #[fV 2 ((fpw k : Nat) : Int) (fg0 k), .string (str l)] w fun e w' => PayE (payI k l) e ∧ Below w.heap.size w w' := by
  have HV := Lib.hid (fval_of hk)
  have HW := Lib.hid (fun (V : World) (b : Nat) (hC : Cal V b (ffOf 2 ((fpw k : Nat) : Int) (fg0 k))) => width_any hk hC)
  have HBL := Lib.hid (fun (V : World) => implBestLength_any l hl V)
  have HM := Lib.hid (fun (V : World) => isMessage_any l V)
  rw [decide_eq_true hl] at HM
  obtain ⟨K, q, eK, k1, k2, b1, b2, hq, q1, q2, hpay⟩ := pay_parts hk hl
  have HP := Lib.hid hpay
  clear hpay
  rw [eK] at HV HW ⊢
  clear eK
  generalize fg0 k = g at *
  generalize bestP l = n at *
  have B0 := Lib.hid (below1 w (.cells #[.int .i64 2, .int .i64 K, .int .i64 g] FTa))
  go_enter Tryz.func127, Tryz.ntmps127
  go_wp2_with fail
  refine (calc_any _ _ _ _).mono ?_
  rintro e w1 ⟨v, rfl, hb1, hcal⟩
  obtain ⟨b, rfl, hb, hC⟩ := hcal HV.out
  rw [HV.out]
  have HC1 := Lib.hid hC
  have B1 := Lib.hid (B0.out.trans (hb1.mono B0.out.size))
  clear hb1 B0 hcal hC hb
  go_wp2_with fail
  refine (HM.out _).mono ?_
  rintro e w2 ⟨rfl, rfl⟩
  go_wp2_with fail
  refine (HBL.out _).mono ?_
  rintro e w2 ⟨rfl, hb2⟩
  have HC2 := Lib.hid (HC1.out.below hb2)
  have B2 := Lib.hid (B1.out.trans (hb2.mono B1.out.size))
  clear hb2 HC1 B1
  go_wp2_with fail
  refine (HW.out _ _ HC2.out).mono ?_
  rintro e w3 ⟨rfl, hd⟩
  have HC3 := Lib.hid (HC2.out.below (Drew.below hd _))
  have B3 := Lib.hid (B2.out.trans ((Drew.below hd _).mono B2.out.size))
  clear hd HC2 B2
  go_wp2_with fail
  refine (HW.out _ _ HC3.out).mono ?_
  rintro e w4 ⟨rfl, hd⟩
  have HB := Lib.hid (B3.out.trans ((Drew.below hd _).mono B3.out.size))
  clear hd HC3 B3
  have hk0 : ¬ K = 0 := by omega
  by_cases hq1 : 1 < q
  · rw [if_pos hq1] at HP
    by_cases hq2 : 1500 < q
    · go_wp2_with fail
      go_ret2
      exact ⟨.inr (by rw [HP.out]; exact ⟨hq2, rfl⟩), HB.out⟩
    · go_wp2_with fail
      go_ret2
      exact ⟨.inl (by rw [HP.out]; exact ⟨by omega, rfl⟩), HB.out⟩
  · rw [if_neg hq1] at HP
    go_wp2_with fail
    go_ret2
    exact ⟨.inl (by rw [HP.out]; exact ⟨by omega, rfl⟩), HB.out⟩
end Go.Proofs.YtdcmebegnekkcaaGreat
/-
  Plain: numbers of the layouts of the five families.
-/
namespace Go.Proofs.YtdcmebegnekkcaaGreat
open Go.RowKit
set_option linter.unusedVariables false

/-- The i-th size of a family. -/
def szN (k i : Nat) : Nat := (gi (fsz k) i).toNat
/-- Elements of a symbol. -/
def eleI (k i : Nat) : Int := if k ≤ 2 then (cntS (szN k i)).tdiv ((fpw k : Nat) : Int) else gi (fsz k) i * fco k
/-- Elements of a word at most. -/
def mxI (k : Nat) : Int := if k = 2 then 255 else ((2 ^ fpw k : Nat) : Int) - 1
def blkI (k i : Nat) : Int := (eleI k i + mxI k - 1).tdiv (mxI k)
def uckI (k i v : Nat) : Int := ((eleI k i * gi (flv k) v).tdiv 100).tdiv (blkI k i)
def chkI (k i v : Nat) : Int := if 64 < uckI k i v then 64 else if uckI k i v < 2 then 2 else uckI k i v
def datI (k i v : Nat) : Int := eleI k i - blkI k i * chkI k i v
/-- Whether a message of so many elements has room. -/
noncomputable def hitI (k v : Nat) (need : Int) (i : Nat) : Bool := layB 2 ((fpw k : Nat) : Int) (fg0 k) (datI k i v) (chkI k i v) (blkI k i) && decide (need ≤ datI k i v)
/-- The first size with room, 0 if there is none. -/
def fstI (h : Nat → Bool) (zs : List Int) : Nat → Nat → Int
  | 0, _ => 0
  | n + 1, i => if h i = true then gi zs i else fstI h zs n (i + 1)
/-- The smallest size, 0 if there is none. -/
noncomputable def smlI (k : Nat) (lv : Int) (l : List UInt8) : Int :=
  if inR lv 0 (((flv k).length : Nat) - 1 : Int) = true ∧ l.length ≤ 400 ∧ payI k l ≤ 1500 then fstI (hitI k lv.toNat (payI k l)) (fsz k) (fsz k).length 0 else 0
/-- What SmallestSize hands back. -/
def SmlE (z : Int) (e : Ending) : Prop := ∃ c : Int, e = .returned (.tuple #[.int .i64 z, .int .i64 c]) ∧ (c = 0 ↔ z ≠ 0)

structure LyB (e m b u : Int) : Prop where
  e1 : 1 ≤ e
  e2 : e ≤ 1700
  m1 : 15 ≤ m
  m2 : m ≤ 255
  b1 : 1 ≤ b
  b2 : b ≤ 200
  u1 : 0 ≤ u
  u2 : u ≤ 2000
def lyB (e m b u : Int) : Bool := decide (1 ≤ e) && (decide (e ≤ 1700) && (decide (15 ≤ m) && (decide (m ≤ 255) && (decide (1 ≤ b) && (decide (b ≤ 200) && (decide (0 ≤ u) && decide (u ≤ 2000)))))))
theorem LyB.of {e m b u : Int} (h : lyB e m b u = true) : LyB e m b u := by
  unfold lyB at h
  simp only [Bool.and_eq_true, decide_eq_true_eq] at h
  obtain ⟨h1, h2, h3, h4, h5, h6, h7, h8⟩ := h
  exact ⟨h1, h2, h3, h4, h5, h6, h7, h8⟩
def allLy : Bool := (List.range 5).all fun k => (List.range (fsz k).length).all fun i => (List.range (flv k).length).all fun v => lyB (eleI k i) (mxI k) (blkI k i) (uckI k i v)
set_option maxRecDepth 100000 in
theorem allLy_true : allLy = true := by decide +kernel
theorem ly_at {k i v : Nat} (hk : k < 5) (hi : i < (fsz k).length) (hv : v < (flv k).length) : LyB (eleI k i) (mxI k) (blkI k i) (uckI k i v) := by
  have h := allLy_true
  unfold allLy at h
  exact LyB.of (List.all_eq_true.1 (List.all_eq_true.1 (List.all_eq_true.1 h k (List.mem_range.2 hk)) i (List.mem_range.2 hi)) v (List.mem_range.2 hv))
/-- Everything of a layout. -/
structure LyN (k i v : Nat) (e m lv b t u c d : Int) : Prop where
  ee : eleI k i = e
  em : mxI k = m
  el : gi (flv k) v = lv
  eb : (e + m - 1).tdiv m = b
  et : (e * lv).tdiv 100 = t
  eu : t.tdiv b = u
  ec : chkI k i v = c
  ed : datI k i v = d
  dd : d = e - b * c
  cc : c = if 64 < u then 64 else if u < 2 then 2 else u
  bd : LyB e m b u
  l1 : 0 ≤ lv
  l2 : lv ≤ 80
theorem flv_le (k v : Nat) : 0 ≤ gi (flv k) v ∧ gi (flv k) v ≤ 80 := by
  by_cases h : v < (flv k).length
  · have := flv_ris k v h
    omega
  · unfold gi
    rw [List.getD_eq_getElem?_getD, List.getElem?_eq_none (by omega)]
    decide
theorem ly_all {k i v : Nat} (hk : k < 5) (hi : i < (fsz k).length) (hv : v < (flv k).length) : ∃ e m lv b t u c d, LyN k i v e m lv b t u c d := 
  ⟨_, _, _, _, _, _, _, _, rfl, rfl, rfl, rfl, rfl, rfl, rfl, rfl, rfl, rfl, ly_at hk hi hv, (flv_le k v).1, (flv_le k v).2⟩
end Go.Proofs.YtdcmebegnekkcaaGreat
/-
  Layouts of the five families, in the reference.
-/
namespace Go.Proofs.YtdcmebegnekkcaaGreat
open Go.RowKit
set_option linter.unusedVariables false

/-- A family in a box. -/
structure FmB (w : World) (X k a c : Nat) : Prop where
  t : Tf w X 8 FmT (fcF k a c)
  r : FamR w k a c
section
variable {w w' : World} {X k a c : Nat}
theorem FmB.new (h : FamR w k a c) : FmB (w.alloc (.cells (fcs k a c).toArray FmT)) w.heap.size k a c :=
  ⟨fm_box w k a c, h.below (below1 w (.cells (fcs k a c).toArray FmT))⟩
theorem FmB.lt (h : FmB w X k a c) : X < w.heap.size := h.t.lt
theorem FmB.below (h : FmB w X k a c) (hb : Below w.heap.size w w') : FmB w' X k a c := ⟨h.t.below hb h.t.lt, h.r.below hb⟩
theorem FmB.c0 (h : FmB w X k a c) : w.cell? ⟨X, 0, none⟩ = some (.string (str (fnm k))) := h.t.cell (i := 0) (by omega)
theorem FmB.c1 (h : FmB w X k a c) : w.cell? ⟨X, 1, none⟩ = some (.int .i64 (fkd k)) := h.t.cell (i := 1) (by omega)
theorem FmB.c2 (h : FmB w X k a c) : w.cell? ⟨X, 2, none⟩ = some (.int .i64 2) := h.t.cell (i := 2) (by omega)
theorem FmB.c3 (h : FmB w X k a c) : w.cell? ⟨X, 3, none⟩ = some (.int .i64 ((fpw k : Nat) : Int)) := h.t.cell (i := 3) (by omega)
theorem FmB.c4 (h : FmB w X k a c) : w.cell? ⟨X, 4, none⟩ = some (.int .i64 (fg0 k)) := h.t.cell (i := 4) (by omega)
theorem FmB.c5 (h : FmB w X k a c) : w.cell? ⟨X, 5, none⟩ = some (.slice (some ⟨a, 0, none⟩) (fsz k).length (fsz k).length) := h.t.cell (i := 5) (by omega)
theorem FmB.c6 (h : FmB w X k a c) : w.cell? ⟨X, 6, none⟩ = some (.int .i64 (fco k)) := h.t.cell (i := 6) (by omega)
theorem FmB.c7 (h : FmB w X k a c) : w.cell? ⟨X, 7, none⟩ = some (.slice (some ⟨c, 0, none⟩) (flv k).length (flv k).length) := h.t.cell (i := 7) (by omega)
theorem row_cellB {w : World} {b n : Nat} {zs : List Int} (h : RowAt w (some ⟨b, 0, none⟩) n zs) {i : Nat} (hi : i < n) : w.cell? ⟨b, i, none⟩ = some (.int .i64 (gi zs i)) := by
  obtain ⟨b1, o1, e1, hb1, hcs⟩ := h.at' (by omega)
  obtain ⟨rfl, rfl, -⟩ : b = b1 ∧ 0 = o1 ∧ True := by simpa using e1
  have := hcs i hi
  rwa [Nat.zero_add] at this
theorem FmB.sz (h : FmB w X k a c) {i : Nat} (hi : i < (fsz k).length) : w.cell? ⟨a, i, none⟩ = some (.int .i64 (gi (fsz k) i)) := row_cellB h.r.sz hi
theorem FmB.lv (h : FmB w X k a c) {i : Nat} (hi : i < (flv k).length) : w.cell? ⟨c, i, none⟩ = some (.int .i64 (gi (flv k) i)) := row_cellB h.r.lv hi
end
theorem fkd_eq (k : Nat) : (fkd k == 2) = !decide (k ≤ 2) := by unfold fkd; by_cases h : k ≤ 2 <;> simp [h]
theorem siz_nat {k i : Nat} (hk : k < 5) (hi : i < (fsz k).length) : ∃ n : Nat, gi (fsz k) i = (n : Int) ∧ szN k i = n ∧ 3 ≤ n ∧ n ≤ 41 ∧ (k ≤ 2 → 17 ≤ n ∧ n % 4 = 1) := by
  by_cases h : k ≤ 2
  · have := fsz_mod k h i hi
    have h4 := Int.tmod_eq_emod_of_nonneg (a := gi (fsz k) i) (b := 4) (by omega)
    exact ⟨(gi (fsz k) i).toNat, by omega, rfl, by omega, by omega, fun _ => ⟨by omega, by omega⟩⟩
  · have := fsz_ris2 k h hk i hi
    exact ⟨(gi (fsz k) i).toNat, by omega, rfl, by omega, by omega, fun h2 => absurd h2 h⟩
theorem fco_bd {k : Nat} (hk : k < 5) : 0 ≤ fco k ∧ fco k ≤ 8 := by
  rcases (show k = 0 ∨ k = 1 ∨ k = 2 ∨ k = 3 ∨ k = 4 by omega) with rfl | rfl | rfl | rfl | rfl <;> decide
theorem fpw_bd {k : Nat} (hk : k < 5) : 4 ≤ ((fpw k : Nat) : Int) ∧ ((fpw k : Nat) : Int) ≤ 8 := by
  rcases (show k = 0 ∨ k = 1 ∨ k = 2 ∨ k = 3 ∨ k = 4 by omega) with rfl | rfl | rfl | rfl | rfl <;> decide
set_option maxHeartbeats 4000000 in
set_option maxRecDepth 100000 in
theorem l13Elements_at {k i : Nat} (hk : k < 5) (hi : i < (fsz k).length) {w : World} {a c : Nat} (hR : FamR w k a c) :
    Calls Tryz.prog 76 #[fmV k a c, .int .i64 (gi (fsz k) i)] w fun e w' => e = .returned (.int .i64 (eleI k i)) ∧ Below w.heap.size w w' := by
  have hl := flv_len k
  have hL := ly_at hk hi (show 0 < (flv k).length by omega)
  have he1 := hL.e1
  have he2 := hL.e2
  clear hL hl
  obtain ⟨n, hn, hs, n1, n2, n3⟩ := siz_nat hk hi
  have F0 := Lib.hid (FmB.new hR)
  have B0 := Lib.hid (below1 w (.cells (fcs k a c).toArray FmT))
  have hE : eleI k i = if k ≤ 2 then (cntS (szN k i)).tdiv ((fpw k : Nat) : Int) else gi (fsz k) i * fco k := rfl
  have hkd := fkd_eq k
  rw [hs, hn] at hE
  rw [hn]
  clear hs hn hR
  have HP := Lib.hid (fpw_bd hk)
  have HC := Lib.hid (fco_bd hk)
  have HW := Lib.hid (fun (V : World) => l11Width_any hk V)
  clear hi hk
  generalize eleI k i = e at *
  have HWE := Lib.hid (show IntKind.i64.wrap e = e from (wrp (by omega)).2)
  obtain ⟨K, eK⟩ : ∃ K : Int, ((fpw k : Nat) : Int) = K := ⟨_, rfl⟩
  rw [eK] at HW HP hE
  have EK := Lib.hid eK
  clear eK
  by_cases hk2 : k ≤ 2
  · rw [if_pos hk2] at hE
    rw [decide_eq_true hk2] at hkd
    obtain ⟨m1, m2⟩ := n3 hk2
    have HT := Lib.hid (fun (V : World) => l14Count_any m1 n2 V)
    replace hE := hE.symm
    have hw0 : ¬ K = 0 := by have := HP.out; omega
    generalize cntS n = z at *
    clear n3 m2 hk2
    go_enter Tryz.func76, Tryz.ntmps76
    obtain ⟨X, hX⟩ : ∃ X, w.heap.size = X := ⟨_, rfl⟩
    obtain ⟨w1, hw1⟩ : ∃ w1, w.alloc (.cells (fcs k a c).toArray FmT) = w1 := ⟨_, rfl⟩
    rw [hw1, hX] at F0
    rw [hw1] at B0
    have hX1 := F0.out.lt
    have q1 := F0.out.c1
    have q2 := F0.out.c2
    have q3 := F0.out.c3
    rw [EK.out] at q3
    have q4 := F0.out.c4
    go_wp2_with fail
    refine wp_region_S (S := (fun w' => w'.cell? ⟨X, 2, none⟩ = some (.int .i64 2) ∧ w'.cell? ⟨X, 3, none⟩ = some (.int .i64 K) ∧ w'.cell? ⟨X, 4, none⟩ = some (.int .i64 (fg0 k)))) 7 rfl (by kernel_rfl) ?_ (fun hHeld => ?_)
    · (try dsimp only); exact ⟨q2, q3, q4⟩
    refine wpAnyH_take (i := 0) (oi := _) (v := ?_) rfl (by kernel_rfl) (by kernel_rfl) (by kernel_rfl) (fun _ _ _ h => h) (Or.inl ⟨by kernel_rfl, ?_⟩) hHeld ?_
    rotate_left
    · intro w0 hSw; (try dsimp only at hSw); go_simp; (try with_reducible rfl)
    (try dsimp only [Act.put, List.setIfInBounds_toArray, List.set_cons_zero, List.set_cons_succ])
    refine wpAnyH_take (i := 2) (oi := _) (v := ?_) rfl (by kernel_rfl) (by kernel_rfl) (by kernel_rfl) (fun _ _ _ h => h) (Or.inl ⟨by kernel_rfl, ?_⟩) hHeld ?_
    rotate_left
    · intro w0 hSw; (try dsimp only at hSw); go_simp; (try with_reducible rfl)
    (try dsimp only [Act.put, List.setIfInBounds_toArray, List.set_cons_zero, List.set_cons_succ])
    refine wpAnyH_take (i := 3) (oi := _) (v := ?_) rfl (by kernel_rfl) (by kernel_rfl) (by kernel_rfl) (fun _ _ _ h => h) (Or.inl ⟨by kernel_rfl, ?_⟩) hHeld ?_
    rotate_left
    · intro w0 hSw; (try dsimp only at hSw); go_simp; (try with_reducible rfl)
    (try dsimp only [Act.put, List.setIfInBounds_toArray, List.set_cons_zero, List.set_cons_succ])
    refine wpAnyH_ready (rs := [1]) (by kernel_rfl) (by simp) ?_
    refine AllReadyH.cons (o := _) rfl (fun K hK => ?_) AllReadyH.nil
    go_simp
    refine (HT.out _).mono ?_
    rintro e1 w2 ⟨hb2, rfl⟩
    go_wp2_with fail
    refine hK.out _ _ ?_ (fun hHeld => ?_)
    · (try dsimp only); exact ⟨keep_cell hb2 hHeld.1, keep_cell hb2 hHeld.2.1, keep_cell hb2 hHeld.2.2⟩
    clear hK K
    (try dsimp only [Act.put, List.setIfInBounds_toArray, List.set_cons_zero, List.set_cons_succ])
    refine wpAnyH_ready (rs := [4]) (by kernel_rfl) (by simp) ?_
    refine AllReadyH.cons (o := _) rfl (fun K hK => ?_) AllReadyH.nil
    go_simp
    refine (HW.out _).mono ?_
    rintro e1 w3 ⟨rfl, hb3⟩
    go_wp2_with fail
    refine hK.out _ _ ?_ (fun hHeld => ?_)
    · (try dsimp only); exact ⟨keep_cell hb3 hHeld.1, keep_cell hb3 hHeld.2.1, keep_cell hb3 hHeld.2.2⟩
    clear hK K
    (try dsimp only [Act.put, List.setIfInBounds_toArray, List.set_cons_zero, List.set_cons_succ])
    refine wpAnyH_take (i := 5) (oi := _) (v := ?_) rfl (by kernel_rfl) (by kernel_rfl) (by kernel_rfl) (fun _ _ _ h => h) (Or.inl ⟨by kernel_rfl, ?_⟩) hHeld ?_
    rotate_left
    · intro w0 hSw; (try dsimp only at hSw); go_simp; (try with_reducible rfl)
    (try dsimp only [Act.put, List.setIfInBounds_toArray, List.set_cons_zero, List.set_cons_succ])
    refine wpAnyH_take (i := 6) (oi := _) (v := ?_) rfl (by kernel_rfl) (by kernel_rfl) (by kernel_rfl) (fun _ _ _ h => h) (Or.inl ⟨by kernel_rfl, ?_⟩) hHeld ?_
    rotate_left
    · intro w0 hSw; (try dsimp only at hSw); go_simp; (try with_reducible rfl)
    (try dsimp only [Act.put, List.setIfInBounds_toArray, List.set_cons_zero, List.set_cons_succ])
    refine wpAnyH_done (by kernel_rfl) ?_ _
    go_simp
    have B2 := Lib.hid (B0.out.trans (((Below.refl w1.heap.size w1).drew.trans (hb2.trans (hb3.mono hb2.size))).mono B0.out.size))
    clear hb2 hb3
    go_wp2_with fail
    go_ret
    exact ⟨by rw [HWE.out]; rfl, hX ▸ B2.out⟩
  · rw [if_neg hk2] at hE
    rw [decide_eq_false hk2] at hkd
    replace hE := hE.symm
    go_enter Tryz.func76, Tryz.ntmps76
    obtain ⟨X, hX⟩ : ∃ X, w.heap.size = X := ⟨_, rfl⟩
    obtain ⟨w1, hw1⟩ : ∃ w1, w.alloc (.cells (fcs k a c).toArray FmT) = w1 := ⟨_, rfl⟩
    rw [hw1, hX] at F0
    rw [hw1] at B0
    have hX1 := F0.out.lt
    have q1 := F0.out.c1
    have q6 := F0.out.c6
    go_wp2_with fail
    go_ret
    exact ⟨rfl, hX ▸ B0.out⟩
/-- The cells of a layout. -/
def lyF (p pw g D C N : Int) (i : Nat) : Value := (#[.int .i64 p, .int .i64 pw, .int .i64 g, .int .i64 D, .int .i64 C, .int .i64 N] : Array Value)[i]!
abbrev lyZ : Array Value := #[.int .i64 0, .int .i64 0, .int .i64 0, .int .i64 0, .int .i64 0, .int .i64 0]
abbrev set6 (w : World) (B : Nat) (v0 v1 v2 v3 v4 v5 : Value) : World := (((((w.setCell ⟨B, 0, none⟩ v0).setCell ⟨B, 1, none⟩ v1).setCell ⟨B, 2, none⟩ v2).setCell ⟨B, 3, none⟩ v3).setCell ⟨B, 4, none⟩ v4).setCell ⟨B, 5, none⟩ v5
theorem lb_set6 {w : World} {B : Nat} {f : Nat → Value} (h : Tf w B 6 LT f) (p pw g D C N : Int) : LB (set6 w B (.int .i64 p) (.int .i64 pw) (.int .i64 g) (.int .i64 D) (.int .i64 C) (.int .i64 N)) B p pw g D C N := by
  have h6 := (((((h.set 0 (.int .i64 p)).set 1 (.int .i64 pw)).set 2 (.int .i64 g)).set 3 (.int .i64 D)).set 4 (.int .i64 C)).set 5 (.int .i64 N)
  exact ⟨tf_obj h6 [.int .i64 p, .int .i64 pw, .int .i64 g, .int .i64 D, .int .i64 C, .int .i64 N] rfl fun i hi => by
    rcases (show i = 0 ∨ i = 1 ∨ i = 2 ∨ i = 3 ∨ i = 4 ∨ i = 5 by omega) with rfl | rfl | rfl | rfl | rfl | rfl <;> rfl⟩
theorem below_set6 {w0 w : World} {B M : Nat} (h : Below M w0 w) (hB : M ≤ B) (v0 v1 v2 v3 v4 v5 : Value) : Below M w0 (set6 w B v0 v1 v2 v3 v4 v5) :=
  (((((h.setCell (p := ⟨B, 0, none⟩) hB _).setCell (p := ⟨B, 1, none⟩) hB _).setCell (p := ⟨B, 2, none⟩) hB _).setCell (p := ⟨B, 3, none⟩) hB _).setCell (p := ⟨B, 4, none⟩) hB _).setCell (p := ⟨B, 5, none⟩) hB _
/-- Letters for the numbers of a layout. -/
structure LyS (k i v : Nat) (Z e m lv b pr t u ck p d : Int) : Prop where
  ee : eleI k i = e
  ez : ((2 ^ fpw k : Nat) : Int) = Z
  el : gi (flv k) v = lv
  eb : blkI k i = b
  ec : chkI k i v = ck
  ed : datI k i v = d
  hm : Z - 1 = m
  qb : (e + m - 1).tdiv m = b
  qp : e * lv = pr
  qt : pr.tdiv 100 = t
  qu : t.tdiv b = u
  hp : b * ck = p
  hd : e - p = d
  cc : (u ≤ 2 ∧ ck = 2) ∨ (2 < u ∧ u < 64 ∧ ck = u) ∨ (64 ≤ u ∧ ck = 64)
  e1 : 1 ≤ e
  e2 : e ≤ 1700
  m1 : 15 ≤ m
  m2 : m ≤ 255
  b1 : 1 ≤ b
  b2 : b ≤ 200
  u1 : 0 ≤ u
  u2 : u ≤ 2000
  r1 : 0 ≤ pr
  r2 : pr ≤ 136000
  t1 : 0 ≤ t
  t2 : t ≤ 136000
  p1 : 0 ≤ p
  p2 : p ≤ 12800
theorem lyS_of {k i v : Nat} (hk : k < 5) (hi : i < (fsz k).length) (hv : v < (flv k).length) : ∃ Z e m lv b pr t u ck p d, LyS k i v Z e m lv b pr t u ck p d := by
  obtain ⟨e, m, lv, b, t, u, ck, d, hN⟩ := ly_all hk hi hv
  obtain ⟨e1, e2, m1, m2, b1, b2, u1, u2⟩ := hN.bd
  have hm : ((2 ^ fpw k : Nat) : Int) - 1 = m := by
    rw [← hN.em]
    rcases (show k = 0 ∨ k = 1 ∨ k = 2 ∨ k = 3 ∨ k = 4 by omega) with rfl | rfl | rfl | rfl | rfl <;> rfl
  have hc := hN.cc
  have hcc : (u ≤ 2 ∧ ck = 2) ∨ (2 < u ∧ u < 64 ∧ ck = u) ∨ (64 ≤ u ∧ ck = 64) := by
    split at hc
    · right; right; omega
    · split at hc <;> omega
  have hck : 2 ≤ ck ∧ ck ≤ 64 := by omega
  have l1 := hN.l1
  have l2 := hN.l2
  have r1 : 0 ≤ e * lv := Int.mul_nonneg (by omega) l1
  have r2 : e * lv ≤ 136000 := Int.le_trans (Int.mul_le_mul e2 l2 l1 (by omega)) (by decide)
  have t1 : 0 ≤ t := by rw [← hN.et]; exact Int.tdiv_nonneg r1 (by omega)
  have t2 : t ≤ 136000 := by
    rw [← hN.et, Int.tdiv_eq_ediv_of_nonneg r1]
    exact Int.le_trans (Int.ediv_le_self _ r1) r2
  have p1 : 0 ≤ b * ck := Int.mul_nonneg (by omega) (by omega)
  have p2 : b * ck ≤ 12800 := Int.le_trans (Int.mul_le_mul b2 hck.2 (by omega) (by omega)) (by decide)
  exact ⟨_, e, m, lv, b, e * lv, t, u, ck, b * ck, d, hN.ee, rfl, hN.el, by rw [← hN.eb, ← hN.ee, ← hN.em]; rfl, hN.ec, hN.ed, hm, hN.eb, rfl, hN.et, hN.eu, rfl, hN.dd.symm, hcc, e1, e2, m1, m2, b1, b2, u1, u2, r1, r2, t1, t2, p1, p2⟩
set_option maxHeartbeats 4000000 in
set_option maxRecDepth 100000 in
theorem l13Layout_at {k i v : Nat} (hk : k < 5) (hi : i < (fsz k).length) (hv : v < (flv k).length) {w : World} {a c : Nat} (hR : FamR w k a c) :
    Calls Tryz.prog 69 #[fmV k a c, .int .i64 (gi (fsz k) i), .int .i64 (v : Int)] w fun e w' => e = .returned (lV 2 ((fpw k : Nat) : Int) (fg0 k) (datI k i v) (chkI k i v) (blkI k i)) ∧ Below w.heap.size w w' := by
  obtain ⟨Z, e, m, lv, b, pr, t, u, ck, p, d, hN⟩ := lyS_of hk hi hv
  have hl := flv_len k
  have F0 := Lib.hid (FmB.new hR)
  have B0 := Lib.hid (below1 w (.cells (fcs k a c).toArray FmT))
  have HEL := Lib.hid (fun (V : World) (hR : FamR V k a c) => l13Elements_at hk hi hR)
  have HSZ := Lib.hid (fun (V : World) => (ffsz_of hk) ▸ l02Size_any 2 ((fpw k : Nat) : Int) (fg0 k) V (ranged_of (fval_of hk)))
  have HQ7 := Lib.hid (fun (V : World) (X : Nat) (hF : FmB V X k a c) => hF.lv hv)
  rw [hN.ec, hN.ed, hN.eb]
  rw [hN.ee] at HEL
  rw [hN.el] at HQ7
  rw [hN.ez] at HSZ
  obtain ⟨-, -, -, -, -, -, hm, qb, qp, qt, qu, hp, hd, cc, e1, e2, m1, m2, b1, b2, u1, u2, r1, r2, t1, t2, p1, p2⟩ := hN
  have hm0 : ¬ m = 0 := by omega
  have hb0 : ¬ b = 0 := by omega
  have hZ : ¬ (255 : Int) < Z - 1 := by omega
  have hZ2 : 16 ≤ Z ∧ Z ≤ 256 := by omega
  have hvl : (v : Int) < (((flv k).length : Nat) : Int) := by omega
  have HRES := Lib.hid (show Tryz.f69.results = #[.cell 6 LT] by kernel_rfl)
  generalize gi (fsz k) i = sz at *
  clear hi hk hR hl
  go_enter Tryz.func69, Tryz.ntmps69
  obtain ⟨X, hX⟩ : ∃ X, w.heap.size = X := ⟨_, rfl⟩
  obtain ⟨w1, hw1⟩ : ∃ w1, w.alloc (.cells (fcs k a c).toArray FmT) = w1 := ⟨_, rfl⟩
  rw [hw1, hX] at F0
  rw [hw1] at B0
  have hX1 := F0.out.lt
  have T2 := Lib.hid (Tf.mkd w1 lyZ LT)
  have F2 := Lib.hid (F0.out.below (below1 w1 (.cells lyZ LT)))
  have B2 := Lib.hid (B0.out.trans ((below1 w1 (.cells lyZ LT)).mono B0.out.size))
  obtain ⟨Y, hY⟩ : ∃ Y, w1.heap.size = Y := ⟨_, rfl⟩
  have hYX : w.heap.size ≤ Y := by rw [← hY]; exact B0.out.size
  obtain ⟨w2, hw2⟩ : ∃ w2, w1.alloc (.cells lyZ LT) = w2 := ⟨_, rfl⟩
  rw [hw2] at T2 F2 B2
  rw [hY] at T2
  have q0 := F2.out.c0
  have q1 := F2.out.c1
  have q2 := F2.out.c2
  have q3 := F2.out.c3
  have q4 := F2.out.c4
  have q5 := F2.out.c5
  have q6 := F2.out.c6
  have q7 := F2.out.c7
  go_wp2_with fail
  (try rw [show (w1.alloc (.cells #[.int .i64 0, .int .i64 0, .int .i64 0, .int .i64 0, .int .i64 0, .int .i64 0] LT)) = w2 from hw2])
  refine (HEL.out _ F2.out.r).mono ?_
  rintro e1 w3 ⟨rfl, hb3⟩
  have T3 := Lib.hid (T2.out.below hb3 T2.out.lt)
  have F3 := Lib.hid (F2.out.below hb3)
  have B3 := Lib.hid (B2.out.trans (hb3.mono B2.out.size))
  clear hb3 T2 F2 B2 q0 q1 q2 q3 q4 q5 q6 q7 hw2 hw1 F0 B0
  have q0 := F3.out.c0
  have q1 := F3.out.c1
  have q2 := F3.out.c2
  have q3 := F3.out.c3
  have q4 := F3.out.c4
  have q5 := F3.out.c5
  have q6 := F3.out.c6
  have q7 := F3.out.c7
  go_wp2_with fail
  refine (HSZ.out _).mono ?_
  rintro e1 w4 ⟨rfl, hb4⟩
  have T4 := Lib.hid (T3.out.below hb4 T3.out.lt)
  have F4 := Lib.hid (F3.out.below hb4)
  have B4 := Lib.hid (B3.out.trans (hb4.mono B3.out.size))
  clear hb4 T3 F3 B3 q0 q1 q2 q3 q4 q5 q6 q7
  have q0 := F4.out.c0
  have q1 := F4.out.c1
  have q2 := F4.out.c2
  have q3 := F4.out.c3
  have q4 := F4.out.c4
  have q5 := F4.out.c5
  have q6 := F4.out.c6
  have q7 := F4.out.c7
  have hq8 := HQ7.out _ _ F4.out
  have z := T4.out.fz
  have z0 := z 0
  have z1 := z 1
  have z2 := z 2
  have z3 := z 3
  have z4 := z 4
  have z5 := z 5
  have t0 := T4.out.cell (i := 0) (by decide)
  have t1 := T4.out.cell (i := 1) (by decide)
  have t2 := T4.out.cell (i := 2) (by decide)
  have t3 := T4.out.cell (i := 3) (by decide)
  have t4 := T4.out.cell (i := 4) (by decide)
  have t5 := T4.out.cell (i := 5) (by decide)
  have HS := Lib.hid (lb_set6 (show Tf w4 Y 6 LT _ from T4.out) 2 ((fpw k : Nat) : Int) (fg0 k) d ck b).blk
  have HB := Lib.hid (below_set6 B4.out hYX (.int .i64 2) (.int .i64 ((fpw k : Nat) : Int)) (.int .i64 (fg0 k)) (.int .i64 d) (.int .i64 ck) (.int .i64 b))
  clear z
  rcases cc with ⟨u3, rfl⟩ | ⟨u3, u4, rfl⟩ | ⟨u3, rfl⟩
  · go_wp2_with fail
    exact ret_cell1 HRES.out Tryz.underlying112 rfl (by kernel_rfl) rfl rfl HS.out ⟨rfl, hX ▸ HB.out⟩
  · go_wp2_with fail
    exact ret_cell1 HRES.out Tryz.underlying112 rfl (by kernel_rfl) rfl rfl HS.out ⟨rfl, hX ▸ HB.out⟩
  · go_wp2_with fail
    exact ret_cell1 HRES.out Tryz.underlying112 rfl (by kernel_rfl) rfl rfl HS.out ⟨rfl, hX ▸ HB.out⟩
theorem l05Has_yes (w : World) {a : Option Addr} {n cap : Nat} {zs : List Int} (hr : RowAt w a n zs) {i0 : Nat} (hi : i0 < n) :
    Calls Tryz.prog 75 #[.slice a n cap, .int .i64 (gi zs i0)] w fun e w' => e = .returned (.bool true) ∧ w = w' := by
  have HR := Lib.hid hr
  have hsm := hr.small
  have HX := Lib.hid (show ∀ k, k = i0 → gi zs k = gi zs i0 from fun k hk => by rw [hk])
  clear hr
  generalize gi zs i0 = x at *
  go_enter Tryz.func75, Tryz.ntmps75
  go_wp2_with fail
  go_loop [5] (fun t => ∃ k : Nat, k ≤ i0 ∧ t = .int .i64 k) (fun t => n - (intOf t).toNat)
  case atStart => exact ⟨0, by omega, rfl⟩
  case round =>
    obtain ⟨k, hk, rfl⟩ := hrel
    have hkn : k < n := by omega
    obtain ⟨b1, o1, rfl, hb1, hcs⟩ := HR.out.at' (by omega)
    have hcell := hcs k hkn
    clear hcs
    by_cases hz : gi zs k = x
    · have hzb : (gi zs k == x) = true := by simp [hz]
      clear hz
      go_wp2_with fail
      go_ret
      exact ⟨rfl, rfl⟩
    · have hzb : (gi zs k == x) = false := by simp [hz]
      have hne : k ≠ i0 := fun h => hz (HX.out k h)
      clear hz
      go_wp2_with fail
      go_round
      case rel => exact ⟨k + 1, by omega, by go_num⟩
      case measure => simp [intOf]; omega
set_option maxHeartbeats 4000000 in
set_option maxRecDepth 100000 in
theorem l13Code_at {k i : Nat} (hk : k < 5) (hi : i < (fsz k).length) {w : World} {a c : Nat} (hR : FamR w k a c) :
    Calls Tryz.prog 68 #[fmV k a c, .int .i64 (gi (fsz k) i)] w fun e w' => e = .returned (.int .i64 0) ∧ Below w.heap.size w w' := by
  have F0 := Lib.hid (FmB.new hR)
  have B0 := Lib.hid (below1 w (.cells (fcs k a c).toArray FmT))
  have HF := Lib.hid (fun (V : World) (hR : FamR V k a c) => specIsFamily_yes hk hR)
  have HM := Lib.hid (fun (V : World) (hR : RowAt V (some ⟨a, 0, none⟩) (fsz k).length (fsz k)) => l05Has_yes (cap := (fsz k).length) V hR hi)
  generalize gi (fsz k) i = sz at *
  clear hi hR
  go_enter Tryz.func68, Tryz.ntmps68
  obtain ⟨X, hX⟩ : ∃ X, w.heap.size = X := ⟨_, rfl⟩
  obtain ⟨w1, hw1⟩ : ∃ w1, w.alloc (.cells (fcs k a c).toArray FmT) = w1 := ⟨_, rfl⟩
  rw [hw1, hX] at F0
  rw [hw1] at B0
  have hX1 := F0.out.lt
  have q0 := F0.out.c0
  have q1 := F0.out.c1
  have q2 := F0.out.c2
  have q3 := F0.out.c3
  have q4 := F0.out.c4
  have q5 := F0.out.c5
  have q6 := F0.out.c6
  have q7 := F0.out.c7
  go_wp2_with fail
  refine (HF.out _ F0.out.r).mono ?_
  rintro e1 w2 ⟨rfl, hb2⟩
  have F2 := Lib.hid (F0.out.below hb2)
  have B2 := Lib.hid (B0.out.trans (hb2.mono B0.out.size))
  have q5' := F2.out.c5
  clear hb2 hw1 F0 B0 q0 q1 q2 q3 q4 q5 q6 q7
  go_wp2_with fail
  refine (HM.out _ F2.out.r.sz).mono ?_
  rintro e1 w3 ⟨rfl, rfl⟩
  go_wp2_with fail
  go_ret
  exact ⟨rfl, hX ▸ B2.out⟩
/-- What LayoutOf hands back. -/
def LyoE (k i v : Nat) (e : Ending) : Prop :=
  (layB 2 ((fpw k : Nat) : Int) (fg0 k) (datI k i v) (chkI k i v) (blkI k i) = true ∧ e = .returned (.tuple #[lV 2 ((fpw k : Nat) : Int) (fg0 k) (datI k i v) (chkI k i v) (blkI k i), .int .i64 0])) ∨
  (layB 2 ((fpw k : Nat) : Int) (fg0 k) (datI k i v) (chkI k i v) (blkI k i) = false ∧ e = .returned (.tuple #[lV 0 0 0 0 0 0, .int .i64 3]))
set_option maxHeartbeats 4000000 in
set_option maxRecDepth 100000 in
theorem specLayoutOf_at {k i v : Nat} (hk : k < 5) (hi : i < (fsz k).length) (hv : v < (flv k).length) {w : World} {a c : Nat} (hR : FamR w k a c) :
    Calls Tryz.prog 61 #[fmV k a c, .int .i64 (gi (fsz k) i), .int .i64 (v : Int)] w fun e w' => LyoE k i v e ∧ Below w.heap.size w w' := by
  have hl := flv_len k
  have F0 := Lib.hid (FmB.new hR)
  have B0 := Lib.hid (below1 w (.cells (fcs k a c).toArray FmT))
  have HCO := Lib.hid (fun (V : World) (hR : FamR V k a c) => l13Code_at hk hi hR)
  have HLY := Lib.hid (fun (V : World) (hR : FamR V k a c) => l13Layout_at hk hi hv hR)
  have HIS := Lib.hid (fun (V : World) => specIsLayout_any 2 ((fpw k : Nat) : Int) (fg0 k) (datI k i v) (chkI k i v) (blkI k i) V)
  have HPO := Lib.hid (show ∀ e, LyoE k i v e = ((layB 2 ((fpw k : Nat) : Int) (fg0 k) (datI k i v) (chkI k i v) (blkI k i) = true ∧ e = .returned (.tuple #[lV 2 ((fpw k : Nat) : Int) (fg0 k) (datI k i v) (chkI k i v) (blkI k i), .int .i64 0])) ∨
    (layB 2 ((fpw k : Nat) : Int) (fg0 k) (datI k i v) (chkI k i v) (blkI k i) = false ∧ e = .returned (.tuple #[lV 0 0 0 0 0 0, .int .i64 3]))) from fun _ => rfl)
  have hin : inR (v : Int) 0 ((((flv k).length : Nat) : Int) - 1) = true := inR_true (by omega) (by omega)
  have hlb : 1 ≤ (((flv k).length : Nat) : Int) ∧ (((flv k).length : Nat) : Int) ≤ 4 := by omega
  have HRES := Lib.hid (show Tryz.f61.results = #[.cell 6 LT, .tmp 7] by kernel_rfl)
  generalize gi (fsz k) i = sz at *
  generalize datI k i v = d at *
  generalize chkI k i v = ck at *
  generalize blkI k i = b at *
  clear hi hR hl
  go_enter Tryz.func61, Tryz.ntmps61
  obtain ⟨X, hX⟩ : ∃ X, w.heap.size = X := ⟨_, rfl⟩
  obtain ⟨w1, hw1⟩ : ∃ w1, w.alloc (.cells (fcs k a c).toArray FmT) = w1 := ⟨_, rfl⟩
  rw [hw1, hX] at F0
  rw [hw1] at B0
  have hX1 := F0.out.lt
  have T2 := Lib.hid (Tf.mkd w1 lyZ LT)
  have F2 := Lib.hid (F0.out.below (below1 w1 (.cells lyZ LT)))
  have B2 := Lib.hid (B0.out.trans ((below1 w1 (.cells lyZ LT)).mono B0.out.size))
  obtain ⟨Y, hY⟩ : ∃ Y, w1.heap.size = Y := ⟨_, rfl⟩
  have hYX : w.heap.size ≤ Y := by rw [← hY]; exact B0.out.size
  obtain ⟨w2, hw2⟩ : ∃ w2, w1.alloc (.cells lyZ LT) = w2 := ⟨_, rfl⟩
  rw [hw2] at T2 F2 B2
  rw [hY] at T2
  have q0 := F2.out.c0
  have q1 := F2.out.c1
  have q2 := F2.out.c2
  have q3 := F2.out.c3
  have q4 := F2.out.c4
  have q5 := F2.out.c5
  have q6 := F2.out.c6
  have q7 := F2.out.c7
  go_wp2_with fail
  (try rw [show (w1.alloc (.cells #[.int .i64 0, .int .i64 0, .int .i64 0, .int .i64 0, .int .i64 0, .int .i64 0] LT)) = w2 from hw2])
  refine (HCO.out _ F2.out.r).mono ?_
  rintro e1 w3 ⟨rfl, hb3⟩
  have T3 := Lib.hid (T2.out.below hb3 T2.out.lt)
  have F3 := Lib.hid (F2.out.below hb3)
  have B3 := Lib.hid (B2.out.trans (hb3.mono B2.out.size))
  clear hb3 T2 F2 B2 q0 q1 q2 q3 q4 q5 q6 q7 hw2 hw1 F0 B0
  have q0 := F3.out.c0
  have q1 := F3.out.c1
  have q2 := F3.out.c2
  have q3 := F3.out.c3
  have q4 := F3.out.c4
  have q5 := F3.out.c5
  have q6 := F3.out.c6
  have q7 := F3.out.c7
  go_wp2_with fail
  refine (l01In_any _ _ _ _).mono ?_
  rintro e1 w4 ⟨rfl, rfl⟩
  rw [hin]
  go_wp2_with fail
  refine (HLY.out _ F3.out.r).mono ?_
  rintro e1 w4 ⟨rfl, hb4⟩
  have T4 := Lib.hid (T3.out.below hb4 T3.out.lt)
  have B4 := Lib.hid (B3.out.trans (hb4.mono B3.out.size))
  have hb5 := below1 w4 (.cells #[.int .i64 2, .int .i64 ((fpw k : Nat) : Int), .int .i64 (fg0 k), .int .i64 d, .int .i64 ck, .int .i64 b] LT)
  have T5 := Lib.hid (T4.out.below hb5 T4.out.lt)
  have B5 := Lib.hid (B4.out.trans (hb5.mono B4.out.size))
  clear hb4 T3 F3 B3 q0 q1 q2 q3 q4 q5 q6 q7 hb5
  go_wp2_with fail
  refine (HIS.out _).mono ?_
  rintro e1 w6 ⟨rfl, hb6⟩
  have T6 := Lib.hid (T5.out.below hb6 T5.out.lt)
  have B6 := Lib.hid (B5.out.trans (hb6.mono B5.out.size))
  have L6 := Lib.hid ((LB.new w4 2 ((fpw k : Nat) : Int) (fg0 k) d ck b).below hb6 (LB.new w4 2 ((fpw k : Nat) : Int) (fg0 k) d ck b).lt)
  generalize w4.heap.size = Q at *
  clear hb6 T4 B4 T5 B5
  have z := T6.out.fz
  have z0 := z 0
  have z1 := z 1
  have z2 := z 2
  have z3 := z 3
  have z4 := z 4
  have z5 := z 5
  have t0 := T6.out.cell (i := 0) (by decide)
  have t1 := T6.out.cell (i := 1) (by decide)
  have t2 := T6.out.cell (i := 2) (by decide)
  have t3 := T6.out.cell (i := 3) (by decide)
  have t4 := T6.out.cell (i := 4) (by decide)
  have t5 := T6.out.cell (i := 5) (by decide)
  have l0 := L6.out.c0
  have l1 := L6.out.c1
  have l2 := L6.out.c2
  have l3 := L6.out.c3
  have l4 := L6.out.c4
  have l5 := L6.out.c5
  clear z
  cases hlb2 : layB 2 ((fpw k : Nat) : Int) (fg0 k) d ck b with
  | true =>
    have HS := Lib.hid (lb_set6 (show Tf w6 Y 6 LT _ from T6.out) 2 ((fpw k : Nat) : Int) (fg0 k) d ck b).blk
    have HB := Lib.hid (below_set6 B6.out hYX (.int .i64 2) (.int .i64 ((fpw k : Nat) : Int)) (.int .i64 (fg0 k)) (.int .i64 d) (.int .i64 ck) (.int .i64 b))
    have HL := Lib.hid hlb2
    clear hlb2
    go_wp2_with fail
    exact ret_cell2 HRES.out Tryz.underlying112 rfl (by kernel_rfl) rfl rfl HS.out ⟨by rw [HPO.out]; exact .inl ⟨HL.out, rfl⟩, hX ▸ HB.out⟩
  | false =>
    have HS := Lib.hid (lb_set6 (show Tf w6 Y 6 LT _ from T6.out) 0 0 0 0 0 0).blk
    have HB := Lib.hid (below_set6 B6.out hYX (.int .i64 0) (.int .i64 0) (.int .i64 0) (.int .i64 0) (.int .i64 0) (.int .i64 0))
    have HL := Lib.hid hlb2
    clear hlb2
    go_wp2_with fail
    exact ret_cell2 HRES.out Tryz.underlying112 rfl (by kernel_rfl) rfl rfl HS.out ⟨by rw [HPO.out]; exact .inr ⟨HL.out, rfl⟩, hX ▸ HB.out⟩
end Go.Proofs.YtdcmebegnekkcaaGreat
