/-
  The parts SegP, SegS, SegT.
-/
import Derived.Test.YtdcmebegnekkcaaGreatSpecFl
import Derived.Test.YtdcmebegnekkcaaGreatTf
import Derived.Laws.Rows
/-
  The table of the best segmentations: in plain Lean.
-/
namespace Go.Proofs.YtdcmebegnekkcaaGreat
open Go.RowKit
set_option linter.unusedVariables false

/-- The characters of a mode other than that of all bytes. -/
def setM (m : Int) : List UInt8 :=
  if m = 1 then [48, 49, 50, 51, 52, 53, 54, 55, 56, 57]
  else if m = 2 then [48, 49, 50, 51, 52, 53, 54, 55, 56, 57, 65, 66, 67, 68, 69, 70, 71, 72, 73, 74, 75, 76, 77, 78, 79, 80, 81, 82, 83, 84, 85, 86, 87, 88, 89, 90, 32, 33, 35, 38, 40, 41, 43, 45, 47]
  else if m = 3 then [97, 98, 99, 100, 101, 102, 103, 104, 105, 106, 107, 108, 109, 110, 111, 112, 113, 114, 115, 116, 117, 118, 119, 120, 121, 122, 32, 10, 44, 46, 39, 63]
  else []
/-- The value of a byte in a mode. -/
def valM (m : Int) (b : UInt8) : Int := if m = 4 then (b.toNat : Int) else match (setM m).findIdx? (· = b) with | some i => (i : Int) | none => -1
/-- Whether a byte has a value. -/
def okM (m : Int) (b : UInt8) : Bool := decide (0 ≤ valM m b)
theorem valM_neg {m : Int} {b : UInt8} (h : okM m b = false) : valM m b < 0 := by unfold okM at h; simpa using h
theorem valM_pos {m : Int} {b : UInt8} (h : okM m b = true) : 0 ≤ valM m b := by unfold okM at h; simpa using h
/-- How many bytes in a row have a value, at most those of a segment. -/
def reachM (m : Int) : List UInt8 → Nat
  | [] => 0
  | b :: l => if okM m b = true then min (reachM m l + 1) 255 else 0
theorem reachM_le (m : Int) (l : List UInt8) : reachM m l ≤ 255 ∧ reachM m l ≤ l.length := by
  induction l with
  | nil => exact ⟨by simp [reachM], Nat.le_refl _⟩
  | cons b l ih =>
    unfold reachM
    split
    · simp only [List.length_cons]; omega
    · simp
theorem reachM_lt {m : Int} {l : List UInt8} : ∀ {k : Nat}, k < reachM m l → ∀ h : k < l.length, okM m l[k] = true := by
  induction l with
  | nil => intro k hk; simp [reachM] at hk
  | cons b l ih =>
    intro k hk h
    unfold reachM at hk
    split at hk
    case isTrue hb =>
      cases k with
      | zero => exact hb
      | succ k => exact ih (by omega) (by simpa using h)
    case isFalse => omega
/-- Why the reach ends. -/
theorem reachM_end (m : Int) (l : List UInt8) : reachM m l = 255 ∨ reachM m l = l.length ∨ ∃ h : reachM m l < l.length, okM m l[reachM m l] = false := by
  induction l with
  | nil => exact .inr (.inl rfl)
  | cons b l ih =>
    by_cases hb : okM m b = true
    · have e : reachM m (b :: l) = min (reachM m l + 1) 255 := by rw [reachM, if_pos hb]
      have hle := reachM_le m l
      by_cases h255 : reachM m l + 1 ≥ 255
      · exact .inl (by rw [e]; omega)
      · have e2 : reachM m (b :: l) = reachM m l + 1 := by rw [e]; omega
        rcases ih with h | h | ⟨h, h2⟩
        · omega
        · exact .inr (.inl (by rw [e2, h]; rfl))
        · refine .inr (.inr ⟨by rw [e2]; simpa using h, ?_⟩)
          simp only [e2, List.getElem_cons_succ]
          exact h2
    · have e : reachM m (b :: l) = 0 := by rw [reachM, if_neg hb]
      refine .inr (.inr ⟨by rw [e]; simp, ?_⟩)
      simp only [e, List.getElem_cons_zero]
      simpa using hb

/-- A cell: the length, the number of segments, the first segment's bytes, and its mode. -/
structure SegC where
  len : Int
  cnt : Int
  size : Int
  mode : Int
deriving DecidableEq, Inhabited
/-- Whether a cell is better than another one. -/
def btr (a b : SegC) : Bool :=
  if a.len ≠ b.len then decide (a.len < b.len) else if a.cnt ≠ b.cnt then decide (a.cnt < b.cnt) else if a.size ≠ b.size then decide (a.size > b.size) else decide (a.mode < b.mode)
def zeroC : SegC := ⟨0, 0, 0, 0⟩
/-- One candidate more. -/
def stepC (acc x : SegC) : SegC := if acc.cnt = 0 ∨ btr x acc = true then x else acc
/-- The candidate of a mode and a size; `t` is the table of the rest behind the first byte, `W` the bits of a segment. -/
def candC (W : Int → Nat → Int) (t : List SegC) (m : Int) (n : Nat) : SegC := ⟨W m n + (t.getD (n - 1) zeroC).len, (t.getD (n - 1) zeroC).cnt + 1, n, m⟩
/-- All sizes of a mode up to a number. -/
def inC (W : Int → Nat → Int) (t : List SegC) (m : Int) (acc : SegC) : Nat → SegC
  | 0 => acc
  | n + 1 => stepC (inC W t m acc n) (candC W t m (n + 1))
/-- The modes 1 to k. -/
def outC (W : Int → Nat → Int) (t : List SegC) (l : List UInt8) : Nat → SegC
  | 0 => zeroC
  | k + 1 => inC W t ((k + 1 : Nat) : Int) (outC W t l k) (reachM ((k + 1 : Nat) : Int) l)
/-- The table of a message: one cell for each index. -/
def tabC (W : Int → Nat → Int) : List UInt8 → List SegC
  | [] => [zeroC]
  | b :: l => outC W (tabC W l) (b :: l) 4 :: tabC W l
theorem tabC_drop (W : Int → Nat → Int) (l : List UInt8) : ∀ k, k ≤ l.length → (tabC W l).drop k = tabC W (l.drop k) := by
  induction l with
  | nil => intro k hk; simp at hk; subst hk; rfl
  | cons b l ih =>
    intro k hk
    cases k with
    | zero => rfl
    | succ k => exact ih k (by simpa using hk)
/-- The candidate's cell of the rest, by its index in the whole table. -/
theorem tabC_rest (W : Int → Nat → Int) (l : List UInt8) {i n : Nat} (h0 : 0 < n) (hi : i + n ≤ l.length) : (tabC W (l.drop (i + 1))).getD (n - 1) zeroC = (tabC W l).getD (i + n) zeroC := by
  rw [← tabC_drop W l (i + 1) (by omega), List.getD_eq_getElem?_getD, List.getD_eq_getElem?_getD, List.getElem?_drop]
  congr 2
  omega
/-- Bounds of a cell. -/
def SegBd (C : Int) (n : Nat) (c : SegC) : Prop := 0 ≤ c.len ∧ c.len ≤ C * n ∧ 0 ≤ c.cnt ∧ c.cnt ≤ n ∧ 0 ≤ c.size ∧ c.size ≤ 255 ∧ 0 ≤ c.mode ∧ c.mode ≤ 4
theorem SegBd.up {C : Int} (hC : 0 ≤ C) {n k : Nat} {c : SegC} (h : SegBd C n c) (hk : n ≤ k) : SegBd C k c := by
  obtain ⟨h1, h2, h3, h4, h5⟩ := h
  have := Int.mul_le_mul_of_nonneg_left (show (n : Int) ≤ k by omega) hC
  exact ⟨h1, by omega, h3, by omega, h5⟩
theorem zeroC_bd (C : Int) (hC : 0 ≤ C) (n : Nat) : SegBd C n zeroC := by
  have := Int.mul_nonneg hC (show (0 : Int) ≤ n by omega)
  exact ⟨by simp [zeroC], by simpa [zeroC] using this, by simp [zeroC], by simp [zeroC], by simp [zeroC], by simp [zeroC], by simp [zeroC], by simp [zeroC]⟩
theorem candC_bd {W : Int → Nat → Int} {C : Int} (hC : 0 ≤ C) (hW : ∀ m n, 0 ≤ W m n ∧ W m n ≤ C) {t : List SegC} {k : Nat} (ht : ∀ c ∈ t, SegBd C k c) {m : Int} (hm : 0 ≤ m ∧ m ≤ 4) {n : Nat} (hn : n ≤ 255) : SegBd C (k + 1) (candC W t m n) := by
  have hw := hW m n
  have hr : SegBd C k (t.getD (n - 1) zeroC) := by
    rw [List.getD_eq_getElem?_getD]
    cases h : t[n - 1]? with
    | none => exact zeroC_bd C hC k
    | some c => exact ht c (List.mem_of_getElem? h)
  obtain ⟨h1, h2, h3, h4, h5⟩ := hr
  have e : C * ((k + 1 : Nat) : Int) = C * (k : Int) + C := by push_cast; rw [Int.mul_add, Int.mul_one]
  unfold candC
  refine ⟨by show 0 ≤ W m n + _; omega, ?_, by show 0 ≤ _ + 1; omega, ?_, by show (0 : Int) ≤ (n : Int); omega, by show (n : Int) ≤ 255; omega, hm.1, hm.2⟩
  · show W m n + _ ≤ _
    rw [e]; omega
  · show _ + 1 ≤ ((k + 1 : Nat) : Int)
    push_cast; omega
theorem stepC_bd {C : Int} {k : Nat} {a x : SegC} (ha : SegBd C k a) (hx : SegBd C k x) : SegBd C k (stepC a x) := by
  unfold stepC
  split
  · exact hx
  · exact ha
theorem inC_bd {W : Int → Nat → Int} {C : Int} (hC : 0 ≤ C) (hW : ∀ m n, 0 ≤ W m n ∧ W m n ≤ C) {t : List SegC} {k : Nat} (ht : ∀ c ∈ t, SegBd C k c) {m : Int} (hm : 0 ≤ m ∧ m ≤ 4) {a : SegC} (ha : SegBd C (k + 1) a) : ∀ n, n ≤ 255 → SegBd C (k + 1) (inC W t m a n)
  | 0, _ => ha
  | n + 1, h => stepC_bd (inC_bd hC hW ht hm ha n (by omega)) (candC_bd hC hW ht hm h)
theorem outC_bd {W : Int → Nat → Int} {C : Int} (hC : 0 ≤ C) (hW : ∀ m n, 0 ≤ W m n ∧ W m n ≤ C) {t : List SegC} {k : Nat} (ht : ∀ c ∈ t, SegBd C k c) (l : List UInt8) : ∀ j, j ≤ 4 → SegBd C (k + 1) (outC W t l j)
  | 0, _ => zeroC_bd C hC _
  | j + 1, h => inC_bd hC hW ht ⟨by omega, by omega⟩ (outC_bd hC hW ht l j (by omega)) _ (reachM_le _ l).1
theorem tabC_bd {W : Int → Nat → Int} {C : Int} (hC : 0 ≤ C) (hW : ∀ m n, 0 ≤ W m n ∧ W m n ≤ C) (l : List UInt8) : ∀ c ∈ tabC W l, SegBd C l.length c := by
  induction l with
  | nil => intro c hc; rw [List.mem_singleton.1 hc]; exact zeroC_bd C hC 0
  | cons b l ih =>
    intro c hc
    rcases List.mem_cons.1 hc with h | h
    · rw [h]; exact outC_bd hC hW ih _ 4 (by omega)
    · exact (ih c h).up hC (by simp)
/-- The bytes of a group, and the bits of a group that is not whole. -/
def grpM (m : Int) : Nat := if m = 1 then 3 else if m = 2 then 2 else 1
def widM (m : Int) (k : Nat) : Int := if m = 1 then (if k = 1 then 4 else if k = 2 then 7 else if k = 3 then 10 else 0) else if m = 2 then (if k = 1 then 6 else if k = 2 then 11 else 0) else if m = 3 then 5 else 8
/-- The bits of a segment. -/
def segW (m : Int) (n : Nat) : Int := if 1 ≤ m ∧ m ≤ 4 ∧ n ≤ 255 then 11 + ((n / grpM m : Nat) : Int) * widM m (grpM m) + (if n % grpM m = 0 then 0 else widM m (n % grpM m)) else 0
theorem grpM_bd (m : Int) : 1 ≤ grpM m ∧ grpM m ≤ 3 := by unfold grpM; split <;> (try split) <;> omega
theorem widM_bd (m : Int) (k : Nat) : 0 ≤ widM m k ∧ widM m k ≤ 11 := by unfold widM; repeat' split
                                                                         all_goals omega
theorem segW_bd (m : Int) (n : Nat) : 0 ≤ segW m n ∧ segW m n ≤ 2827 := by
  unfold segW
  split
  · rename_i h
    have h1 := widM_bd m (grpM m)
    have h2 := widM_bd m (n % grpM m)
    have h3 : n / grpM m ≤ 255 := Nat.le_trans (Nat.div_le_self _ _) h.2.2
    have h4 : ((n / grpM m : Nat) : Int) * widM m (grpM m) ≤ 255 * 11 := Int.mul_le_mul (by omega) h1.2 h1.1 (by omega)
    have h5 : 0 ≤ ((n / grpM m : Nat) : Int) * widM m (grpM m) := Int.mul_nonneg (Int.natCast_nonneg _) h1.1
    generalize ((n / grpM m : Nat) : Int) * widM m (grpM m) = q at *
    generalize widM m (n % grpM m) = r at *
    split <;> omega
  · omega
theorem setM_le (m : Int) : (setM m).length ≤ 45 := by unfold setM; repeat' split
                                                       all_goals simp
theorem valM_hit {m : Int} (hm : m ≠ 4) {b : UInt8} {i : Nat} (hi : i < (setM m).length) (hb : (setM m)[i] = b) (hn : ∀ j, j < i → (setM m)[j]? ≠ some b) : valM m b = (i : Int) := by
  have h : (setM m).findIdx? (· = b) = some i := by
    rw [List.findIdx?_eq_some_iff_getElem]
    refine ⟨hi, by simpa using hb, fun j hj => ?_⟩
    have h1 := hn j hj
    rw [List.getElem?_eq_getElem (by omega)] at h1
    simpa using h1
  unfold valM; rw [if_neg hm, h]
theorem valM_miss {m : Int} (hm : m ≠ 4) {b : UInt8} (hn : ∀ j, j < (setM m).length → (setM m)[j]? ≠ some b) : valM m b = -1 := by
  have h : (setM m).findIdx? (· = b) = none := by
    rw [List.findIdx?_eq_none_iff]
    intro x hx
    obtain ⟨j, hj, e⟩ := List.getElem_of_mem hx
    have h1 := hn j hj
    rw [List.getElem?_eq_getElem hj, e] at h1
    simpa using h1
  unfold valM; rw [if_neg hm, h]
end Go.Proofs.YtdcmebegnekkcaaGreat
/-
  The reference's modes: characters, values, lengths.
-/
namespace Go.Proofs.YtdcmebegnekkcaaGreat
open Go.RowKit
set_option linter.unusedVariables false

set_option maxHeartbeats 1000000 in
theorem l09Set_any (m : Int) (w : World) :
    Calls Tryz.prog 57 #[.int .i64 m] w fun e w' => e = .returned (.string (str (setM m))) ∧ w = w' := by
  unfold setM str
  go_enter Tryz.func57, Tryz.ntmps57
  by_cases h1 : m = 1
  · subst h1
    go_wp2_with fail
    go_ret
    exact ⟨rfl, rfl⟩
  · by_cases h2 : m = 2
    · subst h2
      go_wp2_with fail
      go_ret
      exact ⟨rfl, rfl⟩
    · by_cases h3 : m = 3
      · subst h3
        go_wp2_with fail
        go_ret
        exact ⟨rfl, rfl⟩
      · go_wp2_with fail
        go_ret
        exact ⟨by simp [h1, h2, h3], rfl⟩
set_option maxHeartbeats 4000000 in
theorem specCharVal_any {m : Int} (hm : 1 ≤ m ∧ m ≤ 4) (b : UInt8) (z : Int) (hz : z = (b.toNat : Int)) (w : World) :
    Calls Tryz.prog 80 #[.int .i64 m, .int .i64 z] w fun e w' => e = .returned (.int .i64 (valM m b)) ∧ w = w' := by
  have hzb : 0 ≤ z ∧ z ≤ 255 := by have := b.toNat_lt; omega
  have HZ := Lib.hid hz
  clear hz
  have h1 : inR z 0 255 = true := inR_true hzb.1 hzb.2
  have h2 : inR m 1 4 = true := inR_true hm.1 hm.2
  go_enter Tryz.func80, Tryz.ntmps80
  go_wp2_with fail
  refine (l01In_any _ _ _ _).mono ?_
  rintro e w1 ⟨rfl, rfl⟩
  rw [h1]
  go_wp2_with fail
  refine (l01In_any _ _ _ _).mono ?_
  rintro e w1 ⟨rfl, rfl⟩
  rw [h2]
  by_cases h4 : m = 4
  · subst h4
    go_wp2_with fail
    go_ret
    exact ⟨by rw [HZ.out]; rfl, rfl⟩
  · go_wp2_with fail
    refine (l09Set_any m _).mono ?_
    rintro e w1 ⟨rfl, rfl⟩
    have HH := Lib.hid (fun i hi hb hn => valM_hit (m := m) h4 (b := b) (i := i) hi hb hn)
    have HM := Lib.hid (fun hn => valM_miss (m := m) h4 (b := b) hn)
    have hlen := setM_le m
    have hsz := str_size (setM m)
    generalize setM m = L at *
    clear h1 h2 h4
    go_wp2_with fail
    go_loopw [6] (fun ti wr => ∃ i : Nat, i ≤ L.length ∧ ti = .int .i64 i ∧ Hid (∀ j, j < i → L[j]? ≠ some b) ∧ wr = w) (fun ti _ => L.length - (intOf ti).toNat)
    case atStart => exact ⟨0, by omega, rfl, Lib.hid (fun j hj => by omega), rfl⟩
    case round =>
      obtain ⟨i, hi, rfl, hn, rfl⟩ := hrel
      by_cases hlt : i < L.length
      · by_cases hb : L[i] = b
        · have hbe : (wrap64 (((str L)[i]'(by rw [hsz]; exact hlt)).toNat : Int) == z) = true := by rw [str_get, hb, IntWalk.wrap64_in _ (by have := b.toNat_lt; omega), HZ.out]; simp
          have HR := Lib.hid (HH.out i hlt hb hn.out)
          clear hb
          go_wp2_with fail
          go_ret
          exact ⟨by rw [HR.out]; rfl, rfl⟩
        · have hbe : (wrap64 (((str L)[i]'(by rw [hsz]; exact hlt)).toNat : Int) == z) = false := by
            rw [str_get, IntWalk.wrap64_in _ (by have := L[i].toNat_lt; omega), HZ.out]
            have : L[i].toNat ≠ b.toNat := fun h => hb (UInt8.toNat_inj.1 h)
            simp; omega
          have HN := Lib.hid (show ∀ j, j < i + 1 → L[j]? ≠ some b from fun j hj => by
            by_cases e : j = i
            · subst e; rw [List.getElem?_eq_getElem hlt]; simpa using hb
            · exact hn.out j (by omega))
          clear hb
          go_wp2_with fail
          go_roundw
          case rel => exact ⟨i + 1, by omega, by go_num, HN, trivial⟩
          case measure => simp [intOf]; omega
      · obtain rfl : i = L.length := by omega
        have HR := Lib.hid (HM.out hn.out)
        go_wp2_with fail
        go_ret
        exact ⟨by rw [HR.out]; rfl, rfl⟩
def basM (m : Int) : Int := if m = 1 then 10 else if m = 2 then 45 else 256
theorem l09Group_any (m : Int) (w : World) :
    Calls Tryz.prog 85 #[.int .i64 m] w fun e w' => e = .returned (.tuple #[.int .i64 (grpM m : Nat), .int .i64 (basM m)]) ∧ w = w' := by
  unfold grpM basM
  go_enter Tryz.func85, Tryz.ntmps85
  by_cases h1 : m = 1
  · subst h1
    go_wp2_with fail
    go_ret2
    exact ⟨rfl, rfl⟩
  · by_cases h2 : m = 2
    · subst h2
      go_wp2_with fail
      go_ret2
      exact ⟨rfl, rfl⟩
    · go_wp2_with fail
      go_ret2
      exact ⟨by simp [h1, h2], rfl⟩
set_option maxHeartbeats 4000000 in
theorem l09Width_any {m : Int} (k : Nat) (hm : (m = 1 ∧ 1 ≤ k ∧ k ≤ 3) ∨ (m = 2 ∧ 1 ≤ k ∧ k ≤ 2) ∨ m = 3 ∨ m = 4) (z : Int) (hz : z = (k : Int)) (w : World) :
    Calls Tryz.prog 86 #[.int .i64 m, .int .i64 z] w fun e w' => e = .returned (.int .i64 (widM m k)) ∧ Below w.heap.size w w' := by
  unfold widM
  go_enter Tryz.func86, Tryz.ntmps86
  rcases hm with ⟨rfl, h1, h2⟩ | ⟨rfl, h1, h2⟩ | rfl | rfl
  · rcases (show k = 1 ∨ k = 2 ∨ k = 3 by omega) with rfl | rfl | rfl <;> subst hz
    all_goals
      go_wp2_with fail
      go_ret
      exact ⟨rfl, below1 _ _⟩
  · rcases (show k = 1 ∨ k = 2 by omega) with rfl | rfl <;> subst hz
    all_goals
      go_wp2_with fail
      go_ret
      exact ⟨rfl, below1 _ _⟩
  · clear hz
    go_wp2_with fail
    go_ret
    exact ⟨rfl, Below.refl _ _⟩
  · clear hz
    go_wp2_with fail
    go_ret
    exact ⟨rfl, Below.refl _ _⟩
set_option maxHeartbeats 4000000 in
set_option maxRecDepth 100000 in
theorem l09Length_any {m : Int} (hm : 1 ≤ m ∧ m ≤ 4) (n : Nat) (hn : n ≤ 255) (z : Int) (hz : z = (n : Int)) (w : World) :
    Calls Tryz.prog 81 #[.int .i64 m, .int .i64 z] w fun e w' => e = .returned (.int .i64 (segW m n)) ∧ Below w.heap.size w w' := by
  obtain ⟨g, hg⟩ : ∃ g, g = grpM m := ⟨_, rfl⟩
  have hgb := grpM_bd m
  have hwb := widM_bd m g
  have hgm : (m = 1 ∧ 1 ≤ g ∧ g ≤ 3) ∨ (m = 2 ∧ 1 ≤ g ∧ g ≤ 2) ∨ m = 3 ∨ m = 4 := by
    rw [hg]; unfold grpM
    rcases (show m = 1 ∨ m = 2 ∨ m = 3 ∨ m = 4 by omega) with rfl | rfl | rfl | rfl <;> simp
  rw [← hg] at hgb
  have HG := Lib.hid hg
  have HL := Lib.hid (show segW m n = 11 + ((n / g : Nat) : Int) * widM m g + (if n % g = 0 then 0 else widM m (n % g)) from by unfold segW; rw [if_pos ⟨hm.1, hm.2, hn⟩, hg])
  have hrlt : n % g < g := Nat.mod_lt _ (by omega)
  have HGM := Lib.hid hgm
  have HRM := Lib.hid (show n % g ≠ 0 → (m = 1 ∧ 1 ≤ n % g ∧ n % g ≤ 3) ∨ (m = 2 ∧ 1 ≤ n % g ∧ n % g ≤ 2) ∨ m = 3 ∨ m = 4 from fun h => by omega)
  have hq : z.tdiv (g : Int) = ((n / g : Nat) : Int) := by rw [hz, Int.tdiv_eq_ediv_of_nonneg (by omega)]; rfl
  have hr : z.tmod (g : Int) = ((n % g : Nat) : Int) := by rw [hz, Int.tmod_eq_emod_of_nonneg (by omega)]; rfl
  have hql : n / g ≤ 255 := Nat.le_trans (Nat.div_le_self _ _) hn
  have hrl : n % g ≤ 3 := by omega
  have hwr := widM_bd m (n % g)
  have hgz : ¬ g = 0 := by omega
  obtain ⟨q, hqq⟩ : ∃ q, q = n / g := ⟨_, rfl⟩
  obtain ⟨r, hrr⟩ : ∃ r, r = n % g := ⟨_, rfl⟩
  rw [← hqq, ← hrr] at HL
  rw [← hqq] at hq hql
  rw [← hrr] at hr hrl hwr HRM
  clear hqq hrr hrlt hgm
  have hzb : 0 ≤ z ∧ z ≤ 255 := by omega
  have hmul : 0 ≤ (q : Int) * widM m g ∧ (q : Int) * widM m g ≤ 2805 := ⟨Int.mul_nonneg (by omega) hwb.1, by have : (q : Int) * widM m g ≤ 255 * 11 := Int.mul_le_mul (by omega) hwb.2 hwb.1 (by omega); omega⟩
  have HRP := Lib.hid (show r ≠ 0 → 0 < r from fun h => by omega)
  have y1 : -1000000000000 ≤ (q : Int) ∧ (q : Int) ≤ 1000000000000 := by omega
  have y2 : -1000000000000 ≤ (r : Int) ∧ (r : Int) ≤ 1000000000000 := by omega
  have y3 : -1000000000000 ≤ (q : Int) * widM m g ∧ (q : Int) * widM m g ≤ 1000000000000 := by omega
  have y4 : -1000000000000 ≤ 11 + (q : Int) * widM m g ∧ 11 + (q : Int) * widM m g ≤ 1000000000000 := by omega
  have y5 : -1000000000000 ≤ 11 + (q : Int) * widM m g + widM m r ∧ 11 + (q : Int) * widM m g + widM m r ≤ 1000000000000 := by omega
  obtain ⟨a1, b1⟩ := wrp y1
  obtain ⟨a2, b2⟩ := wrp y2
  obtain ⟨a3, b3⟩ := wrp y3
  obtain ⟨a4, b4⟩ := wrp y4
  obtain ⟨a5, b5⟩ := wrp y5
  clear hz hg hn y1 y2 y3 y4 y5
  go_enter Tryz.func81, Tryz.ntmps81
  go_wp2_with fail
  refine (l09Group_any m _).mono ?_
  rintro e w1 ⟨rfl, rfl⟩
  rw [← HG.out]
  go_wp2_with fail
  refine wp_region_S (S := (fun _ => True)) 9 rfl (by kernel_rfl) ?_ (fun hHeld => ?_)
  · (try dsimp only); all_goals trivial
  refine wpAnyH_take (i := 0) (oi := _) (v := ?_) rfl (by kernel_rfl) (by kernel_rfl) (by kernel_rfl) (fun _ _ _ h => h) (Or.inl ⟨by kernel_rfl, ?_⟩) hHeld ?_
  rotate_left
  · intro w0 hSw; (try dsimp only at hSw); go_simp; (try with_reducible rfl)
  (try dsimp only [Act.put, List.setIfInBounds_toArray, List.set_cons_zero, List.set_cons_succ])
  refine wpAnyH_take (i := 1) (oi := _) (v := ?_) rfl (by kernel_rfl) (by kernel_rfl) (by kernel_rfl) (fun _ _ _ h => h) (Or.inl ⟨by kernel_rfl, ?_⟩) hHeld ?_
  rotate_left
  · intro w0 hSw; (try dsimp only at hSw); go_simp; (try with_reducible rfl)
  (try dsimp only [Act.put, List.setIfInBounds_toArray, List.set_cons_zero, List.set_cons_succ])
  refine wpAnyH_take (i := 2) (oi := _) (v := ?_) rfl (by kernel_rfl) (by kernel_rfl) (by kernel_rfl) (fun _ _ _ h => h) (Or.inl ⟨by kernel_rfl, ?_⟩) hHeld ?_
  rotate_left
  · intro w0 hSw; (try dsimp only at hSw); go_simp; (try with_reducible rfl)
  (try dsimp only [Act.put, List.setIfInBounds_toArray, List.set_cons_zero, List.set_cons_succ])
  refine wpAnyH_take (i := 3) (oi := _) (v := ?_) rfl (by kernel_rfl) (by kernel_rfl) (by kernel_rfl) (fun _ _ _ h => h) (Or.inl ⟨by kernel_rfl, ?_⟩) hHeld ?_
  rotate_left
  · intro w0 hSw; (try dsimp only at hSw); go_simp; (try with_reducible rfl)
  (try dsimp only [Act.put, List.setIfInBounds_toArray, List.set_cons_zero, List.set_cons_succ])
  refine wpAnyH_take (i := 4) (oi := _) (v := ?_) rfl (by kernel_rfl) (by kernel_rfl) (by kernel_rfl) (fun _ _ _ h => h) (Or.inl ⟨by kernel_rfl, ?_⟩) hHeld ?_
  rotate_left
  · intro w0 hSw; (try dsimp only at hSw); go_simp; (try with_reducible rfl)
  (try dsimp only [Act.put, List.setIfInBounds_toArray, List.set_cons_zero, List.set_cons_succ])
  refine wpAnyH_ready (rs := [5]) (by kernel_rfl) (by simp) ?_
  refine AllReadyH.cons (o := _) rfl (fun K hK => ?_) AllReadyH.nil
  go_simp
  refine (l09Width_any g HGM.out _ rfl _).mono ?_
  rintro e w3 ⟨rfl, hb3⟩
  go_wp2_with fail
  refine hK.out _ _ ?_ (fun hHeld => ?_)
  · (try dsimp only); all_goals trivial
  clear hK K
  (try dsimp only [Act.put, List.setIfInBounds_toArray, List.set_cons_zero, List.set_cons_succ])
  refine wpAnyH_take (i := 6) (oi := _) (v := ?_) rfl (by kernel_rfl) (by kernel_rfl) (by kernel_rfl) (fun _ _ _ h => h) (Or.inl ⟨by kernel_rfl, ?_⟩) hHeld ?_
  rotate_left
  · intro w0 hSw; (try dsimp only at hSw); go_simp; (try with_reducible rfl)
  (try dsimp only [Act.put, List.setIfInBounds_toArray, List.set_cons_zero, List.set_cons_succ])
  refine wpAnyH_take (i := 7) (oi := _) (v := ?_) rfl (by kernel_rfl) (by kernel_rfl) (by kernel_rfl) (fun _ _ _ h => h) (Or.inl ⟨by kernel_rfl, ?_⟩) hHeld ?_
  rotate_left
  · intro w0 hSw; (try dsimp only at hSw); go_simp; (try with_reducible rfl)
  (try dsimp only [Act.put, List.setIfInBounds_toArray, List.set_cons_zero, List.set_cons_succ])
  refine wpAnyH_take (i := 8) (oi := _) (v := ?_) rfl (by kernel_rfl) (by kernel_rfl) (by kernel_rfl) (fun _ _ _ h => h) (Or.inl ⟨by kernel_rfl, ?_⟩) hHeld ?_
  rotate_left
  · intro w0 hSw; (try dsimp only at hSw); go_simp; (try with_reducible rfl)
  (try dsimp only [Act.put, List.setIfInBounds_toArray, List.set_cons_zero, List.set_cons_succ])
  refine wpAnyH_done (by kernel_rfl) ?_ _
  go_simp
  have B3 := Lib.hid ((Drew.below (drew1 w) _).trans hb3)
  clear hb3 hHeld
  by_cases hr0 : r = 0
  · subst hr0
    have HL2 := Lib.hid (show segW m n = 11 + (q : Int) * widM m g from by rw [HL.out, if_pos rfl, Int.add_zero])
    go_wp2_with fail
    go_ret
    exact ⟨by rw [HL2.out]; rfl, B3.out⟩
  · have HL2 := Lib.hid (show segW m n = 11 + (q : Int) * widM m g + widM m r from by rw [HL.out, if_neg hr0])
    have hrp := HRP.out hr0
    have H2 := Lib.hid (HRM.out hr0)
    go_wp2_with fail
    refine (l09Width_any r H2.out _ rfl _).mono ?_
    rintro e w4 ⟨rfl, hb4⟩
    have B4 := Lib.hid (B3.out.trans (hb4.mono B3.out.size))
    clear hb4
    go_wp2_with fail
    go_ret
    exact ⟨by rw [HL2.out]; rfl, B4.out⟩
end Go.Proofs.YtdcmebegnekkcaaGreat
/-
  The reference's table of the best segmentations.
-/
namespace Go.Proofs.YtdcmebegnekkcaaGreat
open Go.RowKit
set_option linter.unusedVariables false

abbrev segV (a : SegC) : Value := .agg #[.int .i64 a.len, .int .i64 a.cnt, .int .i64 a.size, .int .i64 a.mode]
theorem below2 (w : World) (a b : Obj) : Below w.heap.size w ((w.alloc a).alloc b) := (below1 w a).alloc (by simp) b
set_option maxHeartbeats 4000000 in
theorem l10Better_any (a b : SegC) (w : World) :
    Calls Tryz.prog 82 #[segV a, segV b] w fun e w' => e = .returned (.bool (btr a b)) ∧ Below w.heap.size w w' := by
  have HB := Lib.hid (below2 w (.cells #[.int .i64 a.len, .int .i64 a.cnt, .int .i64 a.size, .int .i64 a.mode] 127) (.cells #[.int .i64 b.len, .int .i64 b.cnt, .int .i64 b.size, .int .i64 b.mode] 127))
  have HT := Lib.hid (show btr a b = _ from rfl)
  unfold btr at HT
  obtain ⟨a1, a2, a3, a4⟩ := a
  obtain ⟨b1, b2, b3, b4⟩ := b
  go_enter Tryz.func82, Tryz.ntmps82
  by_cases h1 : a1 = b1
  · have e1 : (a1 == b1) = true := by simp [h1]
    by_cases h2 : a2 = b2
    · have e2 : (a2 == b2) = true := by simp [h2]
      by_cases h3 : a3 = b3
      · have e3 : (a3 == b3) = true := by simp [h3]
        have HX := Lib.hid (show btr ⟨a1, a2, a3, a4⟩ ⟨b1, b2, b3, b4⟩ = decide (a4 < b4) from by simp [btr, h1, h2, h3])
        clear h1 h2 h3
        go_wp2_with fail
        go_ret
        exact ⟨by rw [HX.out]; rfl, HB.out⟩
      · have e3 : (a3 == b3) = false := by simp [h3]
        have HX := Lib.hid (show btr ⟨a1, a2, a3, a4⟩ ⟨b1, b2, b3, b4⟩ = decide (b3 < a3) from by simp [btr, h1, h2, h3])
        clear h1 h2 h3
        go_wp2_with fail
        go_ret
        exact ⟨by rw [HX.out]; rfl, HB.out⟩
    · have e2 : (a2 == b2) = false := by simp [h2]
      have HX := Lib.hid (show btr ⟨a1, a2, a3, a4⟩ ⟨b1, b2, b3, b4⟩ = decide (a2 < b2) from by simp [btr, h1, h2])
      clear h1 h2
      go_wp2_with fail
      go_ret
      exact ⟨by rw [HX.out]; rfl, HB.out⟩
  · have e1 : (a1 == b1) = false := by simp [h1]
    have HX := Lib.hid (show btr ⟨a1, a2, a3, a4⟩ ⟨b1, b2, b3, b4⟩ = decide (a1 < b1) from by simp [btr, h1])
    clear h1
    go_wp2_with fail
    go_ret
    exact ⟨by rw [HX.out]; rfl, HB.out⟩
abbrev SCT : TypeId := 127
def fld (c : SegC) (k : Nat) : Value := .int .i64 (if k = 0 then c.len else if k = 1 then c.cnt else if k = 2 then c.size else c.mode)
/-- The cells of a table of segments. -/
def segF (T : Nat → SegC) (i : Nat) : Value := fld (T (i / 4)) (i % 4)
section
variable {w : World} {B m i o : Nat} {ty : TypeId} {T : Nat → SegC}
theorem segF_at (T : Nat → SegC) {i k : Nat} (hk : k < 4) : segF T (i * 4 + k) = fld (T i) k := by
  unfold segF
  rw [show (i * 4 + k) / 4 = i by omega, show (i * 4 + k) % 4 = k by omega]
theorem seg_c0 (h : Tf w B (4 * m) ty (segF T)) (hi : i < m) (ho : o = i * 4) : w.cell? ⟨B, o, none⟩ = some (.int .i64 (T i).len) := by
  subst ho; rw [h.cell (by omega), show i * 4 = i * 4 + 0 by rfl, segF_at T (by omega)]; rfl
theorem seg_c1 (h : Tf w B (4 * m) ty (segF T)) (hi : i < m) (ho : o = i * 4 + 1) : w.cell? ⟨B, o, none⟩ = some (.int .i64 (T i).cnt) := by
  subst ho; rw [h.cell (by omega), segF_at T (by omega)]; rfl
theorem seg_c2 (h : Tf w B (4 * m) ty (segF T)) (hi : i < m) (ho : o = i * 4 + 2) : w.cell? ⟨B, o, none⟩ = some (.int .i64 (T i).size) := by
  subst ho; rw [h.cell (by omega), segF_at T (by omega)]; rfl
theorem seg_c3 (h : Tf w B (4 * m) ty (segF T)) (hi : i < m) (ho : o = i * 4 + 3) : w.cell? ⟨B, o, none⟩ = some (.int .i64 (T i).mode) := by
  subst ho; rw [h.cell (by omega), segF_at T (by omega)]; rfl
theorem seg_set (h : Tf w B (4 * m) ty (segF T)) (c : SegC) (i : Nat) (ho : o = i * 4) :
    Tf ((((w.setCell ⟨B, o, none⟩ (.int .i64 c.len)).setCell ⟨B, o + 1, none⟩ (.int .i64 c.cnt)).setCell ⟨B, o + 2, none⟩ (.int .i64 c.size)).setCell ⟨B, o + 3, none⟩ (.int .i64 c.mode)) B (4 * m) ty (segF (fun x => if x = i then c else T x)) := by
  subst ho
  refine ((((h.set _ _).set _ _).set _ _).set _ _).congr fun j hj => ?_
  unfold upd
  by_cases e : j / 4 = i
  · unfold segF
    show _ = fld (if j / 4 = i then c else T (j / 4)) (j % 4)
    rw [if_pos e]
    rcases (show j % 4 = 0 ∨ j % 4 = 1 ∨ j % 4 = 2 ∨ j % 4 = 3 by omega) with h | h | h | h
    · rw [if_neg (by omega), if_neg (by omega), if_neg (by omega), if_pos (by omega), h]; rfl
    · rw [if_neg (by omega), if_neg (by omega), if_pos (by omega), h]; rfl
    · rw [if_neg (by omega), if_pos (by omega), h]; rfl
    · rw [if_pos (by omega), h]; rfl
  · rw [if_neg (by omega), if_neg (by omega), if_neg (by omega), if_neg (by omega)]
    unfold segF
    show _ = fld (if j / 4 = i then c else T (j / 4)) (j % 4)
    rw [if_neg e]
end
/-- The table while the cell of index q is being made: acc there, nothing ahead of it. -/
def tabT (l : List UInt8) (q : Nat) (acc : SegC) (x : Nat) : SegC := if x < q then zeroC else if x = q then acc else (tabC segW l).getD x zeroC
/-- The table behind it. -/
def tabU (l : List UInt8) (q : Nat) (x : Nat) : SegC := if x < q then zeroC else (tabC segW l).getD x zeroC
theorem tabT_start (l : List UInt8) (q x : Nat) : tabU l (q + 1) x = tabT l q zeroC x := by
  unfold tabU tabT
  by_cases h : x < q
  · rw [if_pos (by omega), if_pos h]
  · by_cases e : x = q
    · rw [if_pos (by omega), if_neg h, if_pos e]
    · rw [if_neg (by omega), if_neg h, if_neg e]
theorem tabT_put (l : List UInt8) (q : Nat) (a c : SegC) (x : Nat) : (if x = q then c else tabT l q a x) = tabT l q c x := by
  unfold tabT
  by_cases e : x = q
  · rw [if_pos e, if_neg (by omega), if_pos e]
  · rw [if_neg e, if_neg e, if_neg e]
theorem tabC_at (l : List UInt8) {q : Nat} (hq : q < l.length) : (tabC segW l).getD q zeroC = outC segW (tabC segW (l.drop (q + 1))) (l.drop q) 4 := by
  have h1 := tabC_drop segW l q (by omega)
  have h2 : (tabC segW l).getD q zeroC = ((tabC segW l).drop q).getD 0 zeroC := by
    rw [List.getD_eq_getElem?_getD, List.getD_eq_getElem?_getD, List.getElem?_drop, Nat.add_zero]
  rw [h2, h1, List.drop_eq_getElem_cons hq]
  rfl
theorem tabT_end (l : List UInt8) {q : Nat} (hq : q < l.length) (x : Nat) : tabT l q (outC segW (tabC segW (l.drop (q + 1))) (l.drop q) 4) x = tabU l q x := by
  unfold tabT tabU
  by_cases h : x < q
  · rw [if_pos h, if_pos h]
  · rw [if_neg h, if_neg h]
    by_cases e : x = q
    · rw [if_pos e, e, tabC_at l hq]
    · rw [if_neg e]
theorem tabU_zero (l : List UInt8) (x : Nat) : tabU l 0 x = (tabC segW l).getD x zeroC := if_neg (by omega)
theorem tabU_top (l : List UInt8) (x : Nat) (hx : x ≤ l.length) : tabU l l.length x = zeroC := by
  unfold tabU
  by_cases h : x < l.length
  · rw [if_pos h]
  · obtain rfl : x = l.length := by omega
    rw [if_neg h]
    have h1 := tabC_drop segW l l.length (Nat.le_refl _)
    have h2 : (tabC segW l).getD l.length zeroC = ((tabC segW l).drop l.length).getD 0 zeroC := by
      rw [List.getD_eq_getElem?_getD, List.getD_eq_getElem?_getD, List.getElem?_drop, Nat.add_zero]
    rw [h2, h1, List.drop_length]; rfl
/-- The bounds of a cell of the table. -/
def okC (c : SegC) : Prop := 0 ≤ c.len ∧ c.len ≤ 1200000 ∧ 0 ≤ c.cnt ∧ c.cnt ≤ 401 ∧ 0 ≤ c.size ∧ c.size ≤ 255 ∧ 0 ≤ c.mode ∧ c.mode ≤ 4
theorem tab_ok {l : List UInt8} (hl : l.length ≤ 400) (x : Nat) : okC ((tabC segW l).getD x zeroC) := by
  have hb : SegBd 2827 l.length ((tabC segW l).getD x zeroC) := by
    rw [List.getD_eq_getElem?_getD]
    cases h : (tabC segW l)[x]? with
    | none => exact zeroC_bd 2827 (by omega) _
    | some c => exact tabC_bd (by omega) segW_bd l c (List.mem_of_getElem? h)
  obtain ⟨h1, h2, h3, h4, h5⟩ := hb
  exact ⟨h1, by omega, h3, by omega, h5⟩
theorem inC_ok {l : List UInt8} (hl : l.length ≤ 399) {m : Int} (hm : 1 ≤ m ∧ m ≤ 4) {n : Nat} (hn : n ≤ 255) (b : List UInt8) (j : Nat) (hj : j ≤ 4) : okC (inC segW (tabC segW l) m (outC segW (tabC segW l) b j) n) := by
  have ht := tabC_bd (W := segW) (C := 2827) (by omega) segW_bd l
  obtain ⟨h1, h2, h3, h4, h5⟩ := inC_bd (W := segW) (C := 2827) (by omega) segW_bd ht (m := m) ⟨by omega, hm.2⟩ (outC_bd (by omega) segW_bd ht b j hj) n hn
  have e : ((l.length + 1 : Nat) : Int) ≤ 400 := by omega
  exact ⟨h1, by omega, h3, by omega, h5⟩
/-- The reach goes on where a byte has a value. -/
theorem reach_more {m : Int} {l : List UInt8} {n : Nat} (h : n ≤ reachM m l) (h255 : n < 255) (hl : n < l.length) (hv : okM m l[n] = true) : n + 1 ≤ reachM m l := by
  rcases reachM_end m l with h1 | h1 | ⟨h1, h2⟩
  · omega
  · omega
  · by_cases e : n = reachM m l
    · subst e; rw [hv] at h2; cases h2
    · omega
theorem reach_stop {m : Int} {l : List UInt8} {n : Nat} (h : n ≤ reachM m l) (hl : n < l.length) (hv : okM m l[n] = false) : n = reachM m l := by
  by_cases e : n = reachM m l
  · exact e
  · have := reachM_lt (m := m) (l := l) (k := n) (by omega) hl
    rw [hv] at this; cases this
def tcC (l : List UInt8) (x : Nat) : SegC := (tabC segW l).getD x zeroC
def fndB (c : SegC) : Bool := decide (c.cnt ≠ 0)
/-- What happens at the index q: aO k behind k modes, aI k n behind n sizes of the mode k + 1. -/
structure SegQ (l : List UInt8) (q : Nat) (aO : Nat → SegC) (aI : Nat → Nat → SegC) (rch : Nat → Nat) : Prop where
  z : aO 0 = zeroC
  s : ∀ k, aO (k + 1) = aI k (rch k)
  i0 : ∀ k, aI k 0 = aO k
  i1 : ∀ k n, n < rch k → aI k (n + 1) = stepC (aI k n) ⟨segW ((k : Int) + 1) (n + 1) + (tcC l (q + (n + 1))).len, (tcC l (q + (n + 1))).cnt + 1, (n : Int) + 1, (k : Int) + 1⟩
  ok : ∀ k n, k < 4 → n ≤ 255 → okC (aI k n)
  okO : ∀ k, k ≤ 4 → okC (aO k)
  r : ∀ k, rch k = reachM ((k : Int) + 1) (l.drop q)
  r255 : ∀ k, rch k ≤ 255
  rN : ∀ k, q + rch k ≤ l.length
  more : ∀ k n, n ≤ rch k → n < 255 → ∀ h : q + n < l.length, okM ((k : Int) + 1) l[q + n] = true → n + 1 ≤ rch k
  stop : ∀ k n, n ≤ rch k → ∀ h : q + n < l.length, okM ((k : Int) + 1) l[q + n] = false → n = rch k
  fin : ∀ x, tabT l q (aO 4) x = tabU l q x
theorem segQ {l : List UInt8} (hl : l.length ≤ 400) {q : Nat} (hq : q < l.length) : ∃ aO aI rch, SegQ l q aO aI rch := by
  have hdl : (l.drop (q + 1)).length ≤ 399 := by rw [List.length_drop]; omega
  refine ⟨outC segW (tabC segW (l.drop (q + 1))) (l.drop q), fun k n => inC segW (tabC segW (l.drop (q + 1))) ((k : Int) + 1) (outC segW (tabC segW (l.drop (q + 1))) (l.drop q) k) n, fun k => reachM ((k : Int) + 1) (l.drop q), ?_⟩
  have hrl : ∀ k : Nat, reachM ((k : Int) + 1) (l.drop q) ≤ 255 ∧ q + reachM ((k : Int) + 1) (l.drop q) ≤ l.length := fun k => by
    have h := reachM_le ((k : Int) + 1) (l.drop q)
    rw [List.length_drop] at h
    omega
  refine ⟨rfl, fun k => rfl, fun k => rfl, fun k n hn => ?_, fun k n hk hn => ?_, fun k hk => ?_, fun k => rfl, fun k => (hrl k).1, fun k => (hrl k).2, fun k n hn h255 h hv => ?_, fun k n hn h hv => ?_, fun x => tabT_end l hq x⟩
  · have h := hrl k
    show stepC _ (candC segW (tabC segW (l.drop (q + 1))) ((k : Int) + 1) (n + 1)) = _
    unfold candC
    rw [tabC_rest segW l (show 0 < n + 1 by omega) (show q + (n + 1) ≤ l.length by omega)]
    rfl
  · exact inC_ok hdl (m := (k : Int) + 1) ⟨by omega, by omega⟩ hn _ k (by omega)
  · cases k with
    | zero => exact ⟨by simp [outC, zeroC], by simp [outC, zeroC], by simp [outC, zeroC], by simp [outC, zeroC], by simp [outC, zeroC], by simp [outC, zeroC], by simp [outC, zeroC], by simp [outC, zeroC]⟩
    | succ k => exact inC_ok hdl (m := ((k + 1 : Nat) : Int)) ⟨by omega, by omega⟩ (reachM_le _ _).1 _ k (by omega)
  · have hg : (l.drop q)[n]'(by rw [List.length_drop]; omega) = l[q + n] := by rw [List.getElem_drop]
    exact reach_more hn h255 (by rw [List.length_drop]; omega) (by rw [hg]; exact hv)
  · have hg : (l.drop q)[n]'(by rw [List.length_drop]; omega) = l[q + n] := by rw [List.getElem_drop]
    exact reach_stop hn (by rw [List.length_drop]; omega) (by rw [hg]; exact hv)
theorem info_segc : (Tryz.prog.info? SCT).map (fun i => (i.zero, i.size, i.bytes)) = some (some (.agg #[.int .i64 0, .int .i64 0, .int .i64 0, .int .i64 0]), 4, 32) := by kernel_rfl
theorem run_make_seg (w : World) (n : Nat) (hn : n ≤ 1000000) :
    (Instr.makeSlice 128 (.int .i64 (n : Int)) (.int .i64 (n : Int))).run Tryz.prog w = .ok (.slice (some ⟨w.heap.size, 0, none⟩) n n) (w.alloc (.cells (madeCells #[.int .i64 0, .int .i64 0, .int .i64 0, .int .i64 0] (n * 4)) SCT)) := by
  obtain ⟨i0, hi, hz0, hz1, hz2⟩ := info_parts info_segc
  have := run_make (P := Tryz.prog) w _ SCT i0 _ Tryz.underlying128 hi hz0 .i64 .i64 n n (by omega) (Int.le_refl _) (by rw [hz2]; omega) (by omega)
  rw [hz1] at this
  exact this
end Go.Proofs.YtdcmebegnekkcaaGreat
