/-
  Boxes of items, in the reference.
-/
import Derived.Test.YtdcmebegnekkcaaGreatBoxx
import Derived.Deep.CutRange
namespace Go.Proofs.YtdcmebegnekkcaaGreat
open Go.RowKit
set_option linter.unusedVariables false

/-- An item. -/
structure It where
  kd : Int
  rw : Int
  cl : Int
  sc : Int
  tl : Int
  wd : Int
  nm : List UInt8
  lv : Int
  tx : List UInt8
abbrev ITy : TypeId := 30
def itL (x : It) : List Value := [.int .i64 x.kd, .int .i64 x.rw, .int .i64 x.cl, .int .i64 x.sc, .int .i64 x.tl, .int .i64 x.wd, .string (str x.nm), .int .i64 x.lv, .string (str x.tx)]
abbrev itV (x : It) : Value := .agg (itL x).toArray
def itF (x : It) (j : Nat) : Value := (itL x).getD j undef
/-- An item in a box. -/
def ItB (w : World) (X : Nat) (ty : TypeId) (x : It) : Prop := Tf w X 9 ty (itF x)
section
variable {w w' : World} {X : Nat} {ty : TypeId} {x : It}
theorem ItB.new (w : World) (x : It) (ty : TypeId) : ItB (w.alloc (.cells (itL x).toArray ty)) w.heap.size ty x :=
  (Tf.mkd w (itL x).toArray ty).congr fun i hi => by
    have hi : i < 9 := hi
    rcases (show i = 0 ∨ i = 1 ∨ i = 2 ∨ i = 3 ∨ i = 4 ∨ i = 5 ∨ i = 6 ∨ i = 7 ∨ i = 8 by omega) with rfl | rfl | rfl | rfl | rfl | rfl | rfl | rfl | rfl <;> rfl
theorem ItB.lt (h : ItB w X ty x) : X < w.heap.size := Tf.lt h
theorem ItB.below (h : ItB w X ty x) (hb : Below w.heap.size w w') : ItB w' X ty x := Tf.below h hb (Tf.lt h)
theorem ItB.c0 (h : ItB w X ty x) : w.cell? ⟨X, 0, none⟩ = some (.int .i64 x.kd) := Tf.cell h (i := 0) (by omega)
theorem ItB.c1 (h : ItB w X ty x) : w.cell? ⟨X, 1, none⟩ = some (.int .i64 x.rw) := Tf.cell h (i := 1) (by omega)
theorem ItB.c2 (h : ItB w X ty x) : w.cell? ⟨X, 2, none⟩ = some (.int .i64 x.cl) := Tf.cell h (i := 2) (by omega)
theorem ItB.c3 (h : ItB w X ty x) : w.cell? ⟨X, 3, none⟩ = some (.int .i64 x.sc) := Tf.cell h (i := 3) (by omega)
theorem ItB.c4 (h : ItB w X ty x) : w.cell? ⟨X, 4, none⟩ = some (.int .i64 x.tl) := Tf.cell h (i := 4) (by omega)
theorem ItB.c5 (h : ItB w X ty x) : w.cell? ⟨X, 5, none⟩ = some (.int .i64 x.wd) := Tf.cell h (i := 5) (by omega)
theorem ItB.c6 (h : ItB w X ty x) : w.cell? ⟨X, 6, none⟩ = some (.string (str x.nm)) := Tf.cell h (i := 6) (by omega)
theorem ItB.c7 (h : ItB w X ty x) : w.cell? ⟨X, 7, none⟩ = some (.int .i64 x.lv) := Tf.cell h (i := 7) (by omega)
theorem ItB.c8 (h : ItB w X ty x) : w.cell? ⟨X, 8, none⟩ = some (.string (str x.tx)) := Tf.cell h (i := 8) (by omega)
end
def txtB (l : List UInt8) : Bool := l.all fun b => hasG (b.toNat : Int)
def textB (l : List UInt8) : Bool := txtB l && inR (l.length : Int) 1 40
def plainB (x : It) : Bool := decide (x.nm = []) && decide (x.lv = 0)
def scaledB (x : It) : Bool := inR x.sc 1 8 && (decide (x.tl = 0) && decide (x.wd = 0))
/-- The smallest size of an item's symbol, 0 if there is none. -/
noncomputable def symZ (x : It) : Int := if x.tx.count 10 = 0 then (if fix x.nm < 5 then smlI (fix x.nm) x.lv x.tx else 0) else 0
noncomputable def colZ (x : It) : Int := colI (fix x.nm) (symZ x)
noncomputable def boxB (x : It) : Bool :=
  if x.kd = 1 then plainB x && (scaledB x && textB x.tx)
  else if x.kd = 2 then plainB x && (decide (x.sc = 0) && (decide (x.tx = []) && (inR x.tl 1 400 && inR x.wd 1 400)))
  else if x.kd = 3 then scaledB x && decide (symZ x ≠ 0) else false
noncomputable def boxR (x : It) : Int := if boxB x = true then (if x.kd = 1 then 5 * x.sc else if x.kd = 2 then x.tl else x.sc * symZ x) else 0
noncomputable def boxC (x : It) : Int := if boxB x = true then (if x.kd = 1 then (4 * (x.tx.length : Int) - 1) * x.sc else if x.kd = 2 then x.wd else x.sc * colZ x) else 0
noncomputable def boxE (x : It) : Int := if boxB x = true then 0 else 1
theorem fix_fnm {k : Nat} (hk : k < 5) : fix (fnm k) = k := by
  rcases (show k = 0 ∨ k = 1 ∨ k = 2 ∨ k = 3 ∨ k = 4 by omega) with rfl | rfl | rfl | rfl | rfl <;> decide
theorem fix_none {x : List UInt8} (h : ∀ k, k < 5 → fnm k ≠ x) : ¬ fix x < 5 := by
  unfold fix
  rw [if_neg (h 0 (by omega)), if_neg (h 1 (by omega)), if_neg (h 2 (by omega)), if_neg (h 3 (by omega)), if_neg (h 4 (by omega))]
  omega
theorem str_nil_iff (l : List UInt8) : (str l).toList.isEmpty = decide (l = []) := by
  rw [str_toList]
  cases l <;> simp
theorem fst_bd (H : Nat → Bool) (zs : List Int) (hz : ∀ x ∈ zs, 0 ≤ x ∧ x ≤ 41) : ∀ n i, 0 ≤ fstI H zs n i ∧ fstI H zs n i ≤ 41 := by
  intro n
  induction n with
  | zero => intro i; exact ⟨Int.le_refl _, by show (0 : Int) ≤ 41; omega⟩
  | succ n ih =>
    intro i
    unfold fstI
    split
    · by_cases h : i < zs.length
      · have e : gi zs i = zs[i] := by unfold gi; rw [List.getD_eq_getElem?_getD, List.getElem?_eq_getElem h]; rfl
        rw [e]
        exact hz _ (List.getElem_mem h)
      · unfold gi
        rw [List.getD_eq_getElem?_getD, List.getElem?_eq_none (by omega)]
        decide
    · exact ih _
theorem sml_bd (k : Nat) (lv : Int) (l : List UInt8) : 0 ≤ smlI k lv l ∧ smlI k lv l ≤ 41 := by
  unfold smlI
  split
  · refine fst_bd _ _ ?_ _ _
    unfold fsz
    repeat' split
    all_goals decide
  · exact ⟨Int.le_refl _, by decide⟩
theorem sym_bd (x : It) : 0 ≤ symZ x ∧ symZ x ≤ 41 := by
  unfold symZ
  split
  · split
    · exact sml_bd _ _ _
    · exact ⟨Int.le_refl _, by decide⟩
  · exact ⟨Int.le_refl _, by decide⟩
theorem col_bd (x : It) : 0 ≤ colZ x ∧ colZ x ≤ 1000 := by
  have h := sym_bd x
  unfold colZ colI
  split
  · omega
  · have : 0 ≤ fco (fix x.nm) ∧ fco (fix x.nm) ≤ 8 := by
      unfold fco
      repeat' split
      all_goals omega
    omega
set_option maxHeartbeats 4000000 in
set_option maxRecDepth 100000 in
theorem l29Text_any (l : List UInt8) (hl : l.length ≤ 1048576) (w : World) :
    Calls Tryz.prog 35 #[.string (str l)] w fun e w' => e = .returned (.bool (textB l)) ∧ Below w.heap.size w w' := by
  have hsz := str_size l
  have HT := Lib.hid (show textB l = (txtB l && inR (l.length : Int) 1 40) from rfl)
  have HA := Lib.hid (show txtB l = true → ∀ i (h : i < l.length), hasG (l[i].toNat : Int) = true from fun h i hi => List.all_eq_true.1 h _ (List.getElem_mem hi))
  have HN := Lib.hid (show ∀ i (h : i < l.length), hasG (l[i].toNat : Int) = false → txtB l = false from fun i hi h => by
    cases ht : txtB l
    · rfl
    · rw [List.all_eq_true.1 ht _ (List.getElem_mem hi)] at h; cases h)
  have HF := Lib.hid (show (∀ i (h : i < l.length), hasG (l[i].toNat : Int) = true) → txtB l = true from fun h => List.all_eq_true.2 fun b hb => by
    obtain ⟨i, hi, rfl⟩ := List.getElem_of_mem hb
    exact h i hi)
  go_enter Tryz.func35, Tryz.ntmps35
  go_wp2_with fail
  go_loopw [3] (fun ti wr => ∃ i : Nat, i ≤ l.length ∧ ti = .int .i64 (i : Int) ∧ Hid (∀ j (h : j < l.length), j < i → hasG (l[j].toNat : Int) = true) ∧ Hid (Below w.heap.size w wr)) (fun ti _ => l.length - (intOf ti).toNat)
  case atStart => exact ⟨0, by omega, rfl, Lib.hid (fun j hj h => by omega), Lib.hid (Below.refl _ _)⟩
  case round =>
    obtain ⟨i, hi, rfl, hH, hB⟩ := hrel
    by_cases hlt : i < l.length
    · have hg : (((str l)[i]'(by rw [hsz]; exact hlt)).toNat : Int) = (l[i].toNat : Int) := by rw [str_get]
      have HC := Lib.hid (show glyC (l[i].toNat : Int) = if hasG (l[i].toNat : Int) = true then 0 else 4 from rfl)
      have HM := Lib.hid (show hasG (l[i].toNat : Int) = true → ∀ j (h : j < l.length), j < i + 1 → hasG (l[j].toNat : Int) = true from fun hh j hj h => by
        by_cases e : j = i
        · subst e; exact hh
        · exact hH.out j hj (by omega))
      have HNi := Lib.hid (HN.out i hlt)
      have hr : 0 ≤ (l[i].toNat : Int) ∧ (l[i].toNat : Int) ≤ 255 := by have := l[i].toNat_lt; omega
      generalize (l[i].toNat : Int) = b at *
      go_wp2_with fail
      refine (specGlyphRows_any b _).mono ?_
      rintro e w2 ⟨v, rfl, hb2, hO⟩
      have B2 := Lib.hid (hB.out.trans (hb2.mono hB.out.size))
      clear hb2 hO
      cases hb : hasG b with
      | true =>
        rw [hb] at HC HM
        have hc : glyC b = 0 := HC.out
        rw [hc]
        clear hb hc
        have HM2 := Lib.hid (HM.out rfl)
        go_wp2_with fail
        go_roundw
        case rel => exact ⟨i + 1, by omega, by go_num, HM2, B2⟩
        case measure => simp [intOf]; omega
      | false =>
        rw [hb] at HC HNi
        have hc : glyC b = 4 := HC.out
        rw [hc]
        have HE := Lib.hid (HNi.out rfl)
        clear hb hc
        go_wp2_with fail
        go_ret
        exact ⟨by rw [HT.out, HE.out]; rfl, B2.out⟩
    · obtain rfl : i = l.length := by omega
      have HE := Lib.hid (HF.out fun j hj => hH.out j hj hj)
      go_wp2_with fail
      refine (l01In_any _ _ _ _).mono ?_
      rintro e w2 ⟨rfl, rfl⟩
      go_wp2_with fail
      go_ret
      exact ⟨by rw [HT.out, HE.out]; rfl, hB.out⟩
theorem box_no {x : It} (h : boxB x = false) : boxR x = 0 ∧ boxC x = 0 ∧ boxE x = 1 := by
  unfold boxR boxC boxE
  rw [if_neg (by rw [h]; simp), if_neg (by rw [h]; simp), if_neg (by rw [h]; simp)]
  exact ⟨rfl, rfl, rfl⟩
theorem box_k1 {x : It} (h : x.kd = 1) : boxB x = (plainB x && (scaledB x && textB x.tx)) ∧ (boxB x = true → boxR x = 5 * x.sc ∧ boxC x = (4 * (x.tx.length : Int) - 1) * x.sc ∧ boxE x = 0) := by
  refine ⟨by unfold boxB; rw [if_pos h], fun hb => ?_⟩
  unfold boxR boxC boxE
  rw [if_pos hb, if_pos hb, if_pos hb, if_pos h, if_pos h]
  exact ⟨rfl, rfl, rfl⟩
theorem box_k2 {x : It} (h : x.kd = 2) : boxB x = (plainB x && (decide (x.sc = 0) && (decide (x.tx = []) && (inR x.tl 1 400 && inR x.wd 1 400)))) ∧ (boxB x = true → boxR x = x.tl ∧ boxC x = x.wd ∧ boxE x = 0) := by
  have h1 : ¬ x.kd = 1 := by omega
  refine ⟨by unfold boxB; rw [if_neg h1, if_pos h], fun hb => ?_⟩
  unfold boxR boxC boxE
  rw [if_pos hb, if_pos hb, if_pos hb, if_neg h1, if_neg h1, if_pos h, if_pos h]
  exact ⟨rfl, rfl, rfl⟩
theorem box_k3 {x : It} (h : x.kd = 3) : boxB x = (scaledB x && decide (symZ x ≠ 0)) ∧ (boxB x = true → boxR x = x.sc * symZ x ∧ boxC x = x.sc * colZ x ∧ boxE x = 0) := by
  have h1 : ¬ x.kd = 1 := by omega
  have h2 : ¬ x.kd = 2 := by omega
  refine ⟨by unfold boxB; rw [if_neg h1, if_neg h2, if_pos h], fun hb => ?_⟩
  unfold boxR boxC boxE
  rw [if_pos hb, if_pos hb, if_pos hb, if_neg h1, if_neg h1, if_neg h2, if_neg h2]
  exact ⟨rfl, rfl, rfl⟩
theorem box_k0 {x : It} (h1 : x.kd ≠ 1) (h2 : x.kd ≠ 2) (h3 : x.kd ≠ 3) : boxB x = false := by
  unfold boxB; rw [if_neg h1, if_neg h2, if_neg h3]
theorem scaled_bd {x : It} (h : scaledB x = true) : 1 ≤ x.sc ∧ x.sc ≤ 8 := by
  unfold scaledB at h
  simp only [Bool.and_eq_true] at h
  exact inR_iff.1 h.1
theorem textB_bd {l : List UInt8} (h : textB l = true) : 1 ≤ (l.length : Int) ∧ (l.length : Int) ≤ 40 := by
  unfold textB at h
  simp only [Bool.and_eq_true] at h
  exact inR_iff.1 h.2
theorem mul_bd {a b A B : Int} (a0 : 0 ≤ a) (aA : a ≤ A) (b0 : 0 ≤ b) (bB : b ≤ B) (hA : 0 ≤ A) : 0 ≤ a * b ∧ a * b ≤ A * B := ⟨Int.mul_nonneg a0 b0, Int.mul_le_mul aA bB b0 hA⟩
/-- What the symbol of an item is. -/
def SymE (x : It) (e : Ending) : Prop := (symZ x ≠ 0 ∧ e = .returned (.tuple #[.int .i64 (symZ x), .int .i64 (colZ x), .bool true])) ∨ (symZ x = 0 ∧ e = .returned (.tuple #[.int .i64 0, .int .i64 0, .bool false]))
set_option maxHeartbeats 8000000 in
set_option maxRecDepth 100000 in
theorem l29Symbol_any (x : It) (hl : x.tx.length ≤ 1048576) (w : World) :
    Calls Tryz.prog 36 #[itV x] w fun e w' => SymE x e ∧ Below w.heap.size w w' := by
  have I0 := Lib.hid (ItB.new w x ITy)
  have B0 := Lib.hid (below1 w (.cells (itL x).toArray ITy))
  have HSP := Lib.hid (fun (V : World) => l01Split_any x.tx hl 10 10 rfl V)
  have HZ := Lib.hid (show symZ x = if x.tx.count 10 = 0 then (if fix x.nm < 5 then smlI (fix x.nm) x.lv x.tx else 0) else 0 from rfl)
  have HCZ := Lib.hid (show colZ x = colI (fix x.nm) (symZ x) from rfl)
  have HP := Lib.hid (show ∀ e, SymE x e = ((symZ x ≠ 0 ∧ e = .returned (.tuple #[.int .i64 (symZ x), .int .i64 (colZ x), .bool true])) ∨ (symZ x = 0 ∧ e = .returned (.tuple #[.int .i64 0, .int .i64 0, .bool false]))) from fun _ => rfl)
  have hcl : x.tx.count 10 ≤ 1048576 := Nat.le_trans List.count_le_length hl
  go_enter Tryz.func36, Tryz.ntmps36
  obtain ⟨X, hX⟩ : ∃ X, w.heap.size = X := ⟨_, rfl⟩
  obtain ⟨w1, hw1⟩ : ∃ w1, w.alloc (.cells (itL x).toArray ITy) = w1 := ⟨_, rfl⟩
  rw [hw1, hX] at I0
  rw [hw1] at B0
  have hX1 := I0.out.lt
  have i0 := I0.out.c0
  have i1 := I0.out.c1
  have i2 := I0.out.c2
  have i3 := I0.out.c3
  have i4 := I0.out.c4
  have i5 := I0.out.c5
  have i6 := I0.out.c6
  have i7 := I0.out.c7
  have i8 := I0.out.c8
  go_wp2_with fail
  refine (specFamilyNamed_any x.nm _).mono ?_
  rintro e w2 ⟨hb2, hfam⟩
  have I2 := Lib.hid (I0.out.below hb2)
  have B2 := Lib.hid (B0.out.trans (hb2.mono B0.out.size))
  clear hb2 hw1 I0 B0 hX1 i0 i1 i2 i3 i4 i5 i6 i7 i8
  have hX1 := I2.out.lt
  have i0 := I2.out.c0
  have i1 := I2.out.c1
  have i2 := I2.out.c2
  have i3 := I2.out.c3
  have i4 := I2.out.c4
  have i5 := I2.out.c5
  have i6 := I2.out.c6
  have i7 := I2.out.c7
  have i8 := I2.out.c8
  rcases hfam with ⟨k, a, c, hk, hnm, rfl, hR⟩ | ⟨hno, rfl⟩
  · have hfix : fix x.nm = k := by rw [hnm]; exact fix_fnm hk
    rw [hfix, if_pos hk] at HZ
    rw [hfix] at HCZ
    rw [show fmV k a c = .agg #[.string (str (fnm k)), .int .i64 (fkd k), .int .i64 2, .int .i64 ((fpw k : Nat) : Int), .int .i64 (fg0 k), .slice (some ⟨a, 0, none⟩) (fsz k).length (fsz k).length, .int .i64 (fco k), .slice (some ⟨c, 0, none⟩) (flv k).length (flv k).length] from rfl]
    have FQ := Lib.hid (show FmB (w2.alloc (.cells #[.string (str (fnm k)), .int .i64 (fkd k), .int .i64 2, .int .i64 ((fpw k : Nat) : Int), .int .i64 (fg0 k), .slice (some ⟨a, 0, none⟩) (fsz k).length (fsz k).length, .int .i64 (fco k), .slice (some ⟨c, 0, none⟩) (flv k).length (flv k).length] FmT)) w2.heap.size k a c from FmB.new hR)
    have I3 := Lib.hid (I2.out.below (below1 w2 (.cells #[.string (str (fnm k)), .int .i64 (fkd k), .int .i64 2, .int .i64 ((fpw k : Nat) : Int), .int .i64 (fg0 k), .slice (some ⟨a, 0, none⟩) (fsz k).length (fsz k).length, .int .i64 (fco k), .slice (some ⟨c, 0, none⟩) (flv k).length (flv k).length] FmT)))
    have B3 := Lib.hid (B2.out.trans ((below1 w2 (.cells #[.string (str (fnm k)), .int .i64 (fkd k), .int .i64 2, .int .i64 ((fpw k : Nat) : Int), .int .i64 (fg0 k), .slice (some ⟨a, 0, none⟩) (fsz k).length (fsz k).length, .int .i64 (fco k), .slice (some ⟨c, 0, none⟩) (flv k).length (flv k).length] FmT)).mono B2.out.size))
    clear hfix hnm
    go_wp2_with fail
    refine (HSP.out _).mono ?_
    rintro e w3 ⟨⟨a5, cap5, rfl⟩, hb3⟩
    have FQ3 := Lib.hid (FQ.out.below hb3)
    have I4 := Lib.hid (I3.out.below hb3)
    have B4 := Lib.hid (B3.out.trans (hb3.mono B3.out.size))
    generalize w2.heap.size = Q at *
    clear hb3 FQ I3 B3 I2 B2 hR hX1 i0 i1 i2 i3 i4 i5 i6 i7 i8
    have hX1 := I4.out.lt
    have hQ1 := FQ3.out.lt
    have i0 := I4.out.c0
    have i1 := I4.out.c1
    have i2 := I4.out.c2
    have i3 := I4.out.c3
    have i4 := I4.out.c4
    have i5 := I4.out.c5
    have i6 := I4.out.c6
    have i7 := I4.out.c7
    have i8 := I4.out.c8
    have q0 := FQ3.out.c0
    have q1 := FQ3.out.c1
    have q2 := FQ3.out.c2
    have q3 := FQ3.out.c3
    have q4 := FQ3.out.c4
    have q5 := FQ3.out.c5
    have q6 := FQ3.out.c6
    have q7 := FQ3.out.c7
    by_cases hcn : x.tx.count 10 = 0
    · rw [if_pos hcn] at HZ
      rw [hcn]
      clear hcn hcl
      go_wp2_with fail
      refine (specSmallestSize_at hk x.lv x.tx FQ3.out.r).mono ?_
      rintro e w5 ⟨⟨c5, rfl, hc5⟩, hb5⟩
      have FQ5 := Lib.hid (FQ3.out.below hb5)
      have B5 := Lib.hid (B4.out.trans (hb5.mono B4.out.size))
      clear hb5 I4 B4 FQ3 hX1 hQ1 i0 i1 i2 i3 i4 i5 i6 i7 i8
      clear q0 q1 q2 q3 q4 q5 q6 q7
      have q0 := FQ5.out.c0
      have q1 := FQ5.out.c1
      have q2 := FQ5.out.c2
      have q3 := FQ5.out.c3
      have q4 := FQ5.out.c4
      have q5 := FQ5.out.c5
      have q6 := FQ5.out.c6
      have q7 := FQ5.out.c7
      have hQ1 := FQ5.out.lt
      rw [← HZ.out] at hc5 ⊢
      by_cases hz : symZ x = 0
      · have hc : (c5 != 0) = true := by simp only [bne_iff_ne, ne_eq]; intro h; exact (hc5.1 h) hz
        have HZ0 := Lib.hid hz
        clear hz hc5
        go_wp2_with fail
        go_ret3
        exact ⟨by rw [HP.out]; exact .inr ⟨HZ0.out, rfl⟩, hX ▸ B5.out⟩
      · have hc : (c5 != 0) = false := by simp only [bne_eq_false_iff_eq]; exact hc5.2 hz
        have HZ0 := Lib.hid hz
        clear hz hc5
        go_wp2_with fail
        refine (l18Cols_any hk a c (symZ x) _).mono ?_
        rintro e w6 ⟨rfl, hb6⟩
        have B6 := Lib.hid (B5.out.trans (hb6.mono B5.out.size))
        clear hb6
        go_wp2_with fail
        go_ret3
        exact ⟨by rw [HP.out]; exact .inl ⟨HZ0.out, by rw [HCZ.out]; rfl⟩, hX ▸ B6.out⟩
    · rw [if_neg hcn] at HZ
      have hgt : (1 : Int) < ((x.tx.count 10 : Nat) : Int) + 1 := by omega
      have HZ0 := Lib.hid HZ.out
      clear hcn
      go_wp2_with fail
      go_ret3
      exact ⟨by rw [HP.out]; exact .inr ⟨HZ0.out, rfl⟩, hX ▸ B4.out⟩
  · have hfix := fix_none hno
    have HZ0 := Lib.hid (show symZ x = 0 from by rw [HZ.out, if_neg hfix]; split <;> rfl)
    have B3 := Lib.hid (B2.out.trans ((below1 w2 (.cells fmZ FmT)).mono B2.out.size))
    clear hfix hno
    go_wp2_with fail
    go_ret3
    exact ⟨by rw [HP.out]; exact .inr ⟨HZ0.out, rfl⟩, hX ▸ B3.out⟩
set_option maxHeartbeats 8000000 in
set_option maxRecDepth 100000 in
theorem specItemBox_any (x : It) (hl : x.tx.length ≤ 1048576) (w : World) :
    Calls Tryz.prog 14 #[itV x] w fun e w' => e = .returned (.tuple #[.int .i64 (boxR x), .int .i64 (boxC x), .int .i64 (boxE x)]) ∧ Below w.heap.size w w' := by
  have I0 := Lib.hid (ItB.new w x ITy)
  have B0 := Lib.hid (below1 w (.cells (itL x).toArray ITy))
  have HS := Lib.hid (fun (V : World) => l29Symbol_any x hl V)
  have HT := Lib.hid (fun (V : World) => l29Text_any x.tx hl V)
  have hsb := sym_bd x
  have hcb := col_bd x
  have hsz := str_size x.tx
  have n1 := str_nil_iff x.nm
  have n2 := str_nil_iff x.tx
  go_enter Tryz.func14, Tryz.ntmps14
  obtain ⟨X, hX⟩ : ∃ X, w.heap.size = X := ⟨_, rfl⟩
  obtain ⟨w1, hw1⟩ : ∃ w1, w.alloc (.cells (itL x).toArray ITy) = w1 := ⟨_, rfl⟩
  rw [hw1, hX] at I0
  rw [hw1] at B0
  have hX1 := I0.out.lt
  have i0 := I0.out.c0
  have i1 := I0.out.c1
  have i2 := I0.out.c2
  have i3 := I0.out.c3
  have i4 := I0.out.c4
  have i5 := I0.out.c5
  have i6 := I0.out.c6
  have i7 := I0.out.c7
  have i8 := I0.out.c8
  have HPB := Lib.hid (show plainB x = (decide (x.nm = []) && decide (x.lv = 0)) from rfl)
  have HSB := Lib.hid (show scaledB x = (inR x.sc 1 8 && (decide (x.tl = 0) && decide (x.wd = 0))) from rfl)
  go_upto_region 1 with (fail)
  go_cut [5] from 10 to 17 (fun p wx => p = .bool (plainB x) ∧ wx = w1)
  case first =>
    by_cases h1 : x.nm = []
    · rw [decide_eq_true h1] at n1 HPB
      clear h1
      go_wp2_with fail
      go_meet
      case rel => exact ⟨congrArg Value.bool (by rw [HPB.out, Bool.true_and]; rfl), rfl⟩
    · rw [decide_eq_false h1] at n1 HPB
      clear h1
      go_wp2_with fail
      go_meet
      case rel => exact ⟨congrArg Value.bool (by rw [HPB.out, Bool.false_and]), rfl⟩
  case rest =>
  obtain ⟨rfl, rfl⟩ := hcut
  go_upto_region 2 with (fail)
  go_cut [6] from 18 to 30 (fun p wx => p = .bool (scaledB x) ∧ wx = wc)
  case first =>
    go_wp2_with fail
    refine (l01In_any _ _ _ _).mono ?_
    rintro e w2 ⟨rfl, rfl⟩
    cases h1 : inR x.sc 1 8 with
    | true =>
      rw [h1] at HSB
      clear h1
      by_cases h2 : x.tl = 0
      · rw [decide_eq_true h2] at HSB
        have hb : (x.tl == 0) = true := by simp [h2]
        clear h2
        go_wp2_with fail
        go_meet
        case rel => exact ⟨congrArg Value.bool (by rw [HSB.out, Bool.true_and, Bool.true_and]; rfl), rfl⟩
      · rw [decide_eq_false h2] at HSB
        have hb : (x.tl == 0) = false := by simp [h2]
        clear h2
        go_wp2_with fail
        go_meet
        case rel => exact ⟨congrArg Value.bool (by rw [HSB.out, Bool.false_and, Bool.and_false]), rfl⟩
    | false =>
      rw [h1] at HSB
      clear h1
      go_wp2_with fail
      go_meet
      case rel => exact ⟨congrArg Value.bool (by rw [HSB.out, Bool.false_and]), rfl⟩
  case rest =>
  obtain ⟨rfl, rfl⟩ := hcut
  by_cases k1 : x.kd = 1
  · obtain ⟨hb1, hb2⟩ := box_k1 k1
    have e1 : (x.kd == 1) = true := by simp [k1]
    have HB1 := Lib.hid hb1
    have HB2 := Lib.hid hb2
    have HSD := Lib.hid (fun h => scaled_bd (x := x) h)
    clear hb1 hb2 k1
    cases hp : plainB x with
    | false =>
      have HNO := Lib.hid (box_no (x := x) (by rw [HB1.out, hp]; rfl))
      clear hp
      go_wp2_with fail
      go_ret3
      exact ⟨by rw [HNO.out.1, HNO.out.2.1, HNO.out.2.2]; rfl, hX ▸ B0.out⟩
    | true =>
    rw [hp] at HB1
    clear hp
    cases hs : scaledB x with
    | false =>
      have HNO := Lib.hid (box_no (x := x) (by rw [HB1.out, hs]; rfl))
      clear hs
      go_wp2_with fail
      go_ret3
      exact ⟨by rw [HNO.out.1, HNO.out.2.1, HNO.out.2.2]; rfl, hX ▸ B0.out⟩
    | true =>
    obtain ⟨s1, s2⟩ := HSD.out hs
    rw [hs] at HB1
    clear hs
    go_wp2_with fail
    refine (HT.out _).mono ?_
    rintro e w2 ⟨rfl, hb2⟩
    have I2 := Lib.hid (I0.out.below hb2)
    have B2 := Lib.hid (B0.out.trans (hb2.mono B0.out.size))
    clear hb2 I0 B0 hX1 i0 i1 i2 i3 i4 i5 i6 i7 i8
    have hX1 := I2.out.lt
    have i0 := I2.out.c0
    have i1 := I2.out.c1
    have i2 := I2.out.c2
    have i3 := I2.out.c3
    have i4 := I2.out.c4
    have i5 := I2.out.c5
    have i6 := I2.out.c6
    have i7 := I2.out.c7
    have i8 := I2.out.c8
    cases ht : textB x.tx with
    | false =>
      have HNO := Lib.hid (box_no (x := x) (by rw [HB1.out, ht]; rfl))
      clear ht
      go_wp2_with fail
      go_ret3
      exact ⟨by rw [HNO.out.1, HNO.out.2.1, HNO.out.2.2]; rfl, hX ▸ B2.out⟩
    | true =>
    have HY := Lib.hid (HB2.out (by rw [HB1.out, ht]; rfl))
    obtain ⟨t1, t2⟩ := textB_bd ht
    clear ht
    obtain ⟨pr, hpr⟩ : ∃ pr, (4 * (x.tx.length : Int) - 1) * x.sc = pr := ⟨_, rfl⟩
    obtain ⟨r1, r2⟩ := mul_bd (show 0 ≤ 4 * (x.tx.length : Int) - 1 by omega) (show 4 * (x.tx.length : Int) - 1 ≤ 159 by omega) (show 0 ≤ x.sc by omega) s2 (by omega)
    rw [hpr] at r1 r2 HY
    go_wp2_with fail
    go_quiet (fail)
    go_wp2_with fail
    go_ret3
    exact ⟨by rw [HY.out.1, HY.out.2.1, HY.out.2.2]; rfl, hX ▸ B2.out.trans ((Drew.below ⟨_, rfl⟩ _).mono B2.out.size)⟩
  by_cases k2 : x.kd = 2
  · obtain ⟨hb1, hb2⟩ := box_k2 k2
    have e1 : (x.kd == 1) = false := by simp [k2]
    have e2 : (x.kd == 2) = true := by simp [k2]
    have HB1 := Lib.hid hb1
    have HB2 := Lib.hid hb2
    clear hb1 hb2 k1 k2
    cases hp : plainB x with
    | false =>
      have HNO := Lib.hid (box_no (x := x) (by rw [HB1.out, hp]; rfl))
      clear hp
      go_wp2_with fail
      go_ret3
      exact ⟨by rw [HNO.out.1, HNO.out.2.1, HNO.out.2.2]; rfl, hX ▸ B0.out⟩
    | true =>
    rw [hp] at HB1
    clear hp
    by_cases hs : x.sc = 0
    rotate_left
    · have hsb2 : (x.sc == 0) = false := by simp [hs]
      replace hs := decide_eq_false hs
      have HNO := Lib.hid (box_no (x := x) (by rw [HB1.out, hs]; rfl))
      clear hs
      go_wp2_with fail
      go_ret3
      exact ⟨by rw [HNO.out.1, HNO.out.2.1, HNO.out.2.2]; rfl, hX ▸ B0.out⟩
    have hsb2 : (x.sc == 0) = true := by simp [hs]
    replace hs := decide_eq_true hs
    rw [hs] at HB1
    clear hs
    by_cases ht : x.tx = []
    rotate_left
    · rw [decide_eq_false ht] at n2
      replace ht := decide_eq_false ht
      have HNO := Lib.hid (box_no (x := x) (by rw [HB1.out, ht]; rfl))
      clear ht
      go_wp2_with fail
      go_ret3
      exact ⟨by rw [HNO.out.1, HNO.out.2.1, HNO.out.2.2]; rfl, hX ▸ B0.out⟩
    rw [decide_eq_true ht] at n2
    replace ht := decide_eq_true ht
    rw [ht] at HB1
    clear ht
    go_wp2_with fail
    refine (l01In_any _ _ _ _).mono ?_
    rintro e w2 ⟨rfl, rfl⟩
    cases h4 : inR x.tl 1 400 with
    | false =>
      have HNO := Lib.hid (box_no (x := x) (by rw [HB1.out, h4]; rfl))
      clear h4
      go_wp2_with fail
      go_ret3
      exact ⟨by rw [HNO.out.1, HNO.out.2.1, HNO.out.2.2]; rfl, hX ▸ B0.out⟩
    | true =>
    rw [h4] at HB1
    clear h4
    go_wp2_with fail
    refine (l01In_any _ _ _ _).mono ?_
    rintro e w2 ⟨rfl, rfl⟩
    cases h5 : inR x.wd 1 400 with
    | false =>
      have HNO := Lib.hid (box_no (x := x) (by rw [HB1.out, h5]; rfl))
      clear h5
      go_wp2_with fail
      go_ret3
      exact ⟨by rw [HNO.out.1, HNO.out.2.1, HNO.out.2.2]; rfl, hX ▸ B0.out⟩
    | true =>
    rw [h5] at HB1
    clear h5
    have HY := Lib.hid (HB2.out (by rw [HB1.out]; rfl))
    go_wp2_with fail
    go_quiet (fail)
    go_wp2_with fail
    go_ret3
    exact ⟨by rw [HY.out.1, HY.out.2.1, HY.out.2.2]; rfl, hX ▸ B0.out.trans ((Drew.below ⟨_, rfl⟩ _).mono B0.out.size)⟩
  by_cases k3 : x.kd = 3
  · obtain ⟨hb1, hb2⟩ := box_k3 k3
    have e1 : (x.kd == 1) = false := by simp [k3]
    have e2 : (x.kd == 2) = false := by simp [k3]
    have e3 : (x.kd == 3) = true := by simp [k3]
    have HB1 := Lib.hid hb1
    have HB2 := Lib.hid hb2
    have HSD := Lib.hid (fun h => scaled_bd (x := x) h)
    clear hb1 hb2 k1 k2 k3
    go_wp2_with fail
    refine (HS.out _).mono ?_
    rintro e w2 ⟨hsy, hb2⟩
    have I2 := Lib.hid (I0.out.below hb2)
    have B2 := Lib.hid (B0.out.trans (hb2.mono B0.out.size))
    clear hb2 I0 B0 hX1 i0 i1 i2 i3 i4 i5 i6 i7 i8
    have hX1 := I2.out.lt
    have i0 := I2.out.c0
    have i1 := I2.out.c1
    have i2 := I2.out.c2
    have i3 := I2.out.c3
    have i4 := I2.out.c4
    have i5 := I2.out.c5
    have i6 := I2.out.c6
    have i7 := I2.out.c7
    have i8 := I2.out.c8
    rcases hsy with ⟨hz, rfl⟩ | ⟨hz, rfl⟩
    · replace hz := decide_eq_true hz
      rw [hz] at HB1
      clear hz
      cases hs : scaledB x with
      | false =>
        have HNO := Lib.hid (box_no (x := x) (by rw [HB1.out, hs]; rfl))
        clear hs
        go_wp2_with fail
        go_ret3
        exact ⟨by rw [HNO.out.1, HNO.out.2.1, HNO.out.2.2]; rfl, hX ▸ B2.out⟩
      | true =>
      obtain ⟨s1, s2⟩ := HSD.out hs
      rw [hs] at HB1
      clear hs
      have HY := Lib.hid (HB2.out (by rw [HB1.out]; rfl))
      obtain ⟨r1, r2⟩ := mul_bd (show 0 ≤ x.sc by omega) s2 hsb.1 hsb.2 (by omega)
      obtain ⟨r3, r4⟩ := mul_bd (show 0 ≤ x.sc by omega) s2 hcb.1 hcb.2 (by omega)
      generalize symZ x = z1 at *
      generalize colZ x = z2 at *
      obtain ⟨p1, hp1⟩ : ∃ p, x.sc * z1 = p := ⟨_, rfl⟩
      obtain ⟨p2, hp2⟩ : ∃ p, x.sc * z2 = p := ⟨_, rfl⟩
      rw [hp1] at r1 r2 HY
      rw [hp2] at r3 r4 HY
      go_wp2_with fail
      go_quiet (fail)
      go_wp2_with fail
      go_ret3
      exact ⟨by rw [HY.out.1, HY.out.2.1, HY.out.2.2]; rfl, hX ▸ B2.out.trans ((Drew.below ⟨_, rfl⟩ _).mono B2.out.size)⟩
    · have hz2 : decide (symZ x ≠ 0) = false := decide_eq_false (fun h => h hz)
      have HNO := Lib.hid (box_no (x := x) (by rw [HB1.out, hz2]; simp))
      clear hz hz2
      cases hs : scaledB x with
      | false =>
        clear hs
        go_wp2_with fail
        go_ret3
        exact ⟨by rw [HNO.out.1, HNO.out.2.1, HNO.out.2.2]; rfl, hX ▸ B2.out⟩
      | true =>
        clear hs
        go_wp2_with fail
        go_ret3
        exact ⟨by rw [HNO.out.1, HNO.out.2.1, HNO.out.2.2]; rfl, hX ▸ B2.out⟩
  · have HNO := Lib.hid (box_no (box_k0 k1 k2 k3))
    have e1 : (x.kd == 1) = false := by simp [k1]
    have e2 : (x.kd == 2) = false := by simp [k2]
    have e3 : (x.kd == 3) = false := by simp [k3]
    clear k1 k2 k3
    go_wp2_with fail
    go_ret3
    exact ⟨by rw [HNO.out.1, HNO.out.2.1, HNO.out.2.2]; rfl, hX ▸ B0.out⟩
end Go.Proofs.YtdcmebegnekkcaaGreat
