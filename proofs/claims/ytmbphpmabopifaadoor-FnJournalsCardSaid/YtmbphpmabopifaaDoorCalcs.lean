/-
  The parts Base, Calc, Calc2, Fill, Prime, FieldCalc.
-/
import Derived.Test.YtmbphpmabopifaaDoorMathG
import Derived.Test.YtmbphpmabopifaaDoorProg
import Derived.WalkKit
import Derived.WalkSpells
import Derived.WalkLawsBesides
import Derived.Below
import Derived.Lib.Hide
import Derived.Outline
import Derived.Deep.QuietTactic
import Derived.BigQuiet
import Derived.RegionTactic
import Derived.ChangeAlike
import Derived.IntWalk
import Derived.Laws.BitsAllLaws
import Derived.WalkSmall
/-
  The walks of the field's small functions.
-/
namespace Go.Proofs.YtmbphpmabopifaaDoor
open Go.RowKit
set_option linter.unusedVariables false

theorem ret_bool {a b : Bool} (h : a = b) : Ending.returned (.bool a) = .returned (.bool b) := by rw [h]
theorem ret_int {k : IntKind} {a b : Int} (h : a = b) : Ending.returned (.int k a) = .returned (.int k b) := by rw [h]
/-- low <= n <= high, as the program reckons it. -/
def inR (n lo hi : Int) : Bool := decide (lo ≤ n ∧ n ≤ hi)
theorem inR_true {n lo hi : Int} (h1 : lo ≤ n) (h2 : n ≤ hi) : inR n lo hi = true := by unfold inR; simp [h1, h2]
theorem inR_iff {n lo hi : Int} : inR n lo hi = true ↔ lo ≤ n ∧ n ≤ hi := by unfold inR; simp
theorem inR_false {n lo hi : Int} (h : ¬ (lo ≤ n ∧ n ≤ hi)) : inR n lo hi = false := by unfold inR; simp [h]
theorem inR_lo {n lo hi : Int} (h : n < lo) : inR n lo hi = false := inR_false (by omega)
theorem inR_and {n lo hi : Int} (h : lo ≤ n) : inR n lo hi = decide (n ≤ hi) := by unfold inR; simp [h]

theorem inRange_any (n lo hi : Int) (w : World) : Calls Tryd.prog 46 #[.int .i64 n, .int .i64 lo, .int .i64 hi] w fun e w' => e = .returned (.bool (inR n lo hi)) ∧ w = w' := by
  go_enter Tryd.func46, Tryd.ntmps46
  go_wp2
  all_goals go_ret
  · rename_i h; exact ⟨ret_bool (inR_and h).symm, rfl⟩
  · rename_i h; exact ⟨ret_bool (inR_lo h).symm, rfl⟩
theorem l01In_any (n lo hi : Int) (w : World) : Calls Tryd.prog 45 #[.int .i64 n, .int .i64 lo, .int .i64 hi] w fun e w' => e = .returned (.bool (inR n lo hi)) ∧ w = w' := by
  go_enter Tryd.func45, Tryd.ntmps45
  go_wp2
  all_goals go_ret
  · rename_i h; exact ⟨ret_bool (inR_and h).symm, rfl⟩
  · rename_i h; exact ⟨ret_bool (inR_lo h).symm, rfl⟩

open Classical in
/-- Whether no square up to n has a divisor of n as its root. -/
noncomputable def primeB (n : Int) : Bool := decide (2 ≤ n ∧ ∀ d : Int, 2 ≤ d → d * d ≤ n → n % d ≠ 0)

theorem primeB_no {n d : Int} (h2 : 2 ≤ d) (hd : d * d ≤ n) (h : n % d = 0) : primeB n = false := by
  unfold primeB; simp only [decide_eq_false_iff_not]; exact fun hp => hp.2 d h2 hd h
theorem primeB_yes {n d : Int} (hn : 2 ≤ n) (h2 : 2 ≤ d) (hd : n < d * d) (h : ∀ d' : Int, 2 ≤ d' → d' < d → d' * d' ≤ n → n % d' ≠ 0) : primeB n = true := by
  unfold primeB; simp only [decide_eq_true_eq]
  refine ⟨hn, fun d' h1 h3 => h d' h1 ?_ h3⟩
  apply Int.lt_of_not_ge
  intro hge
  have : d * d ≤ d' * d' := Int.mul_le_mul hge hge (by omega) (by omega)
  omega
/-- What is known when the divisors below d have been tried. -/
def Tried (n d : Int) : Prop := ∀ d' : Int, 2 ≤ d' → d' < d → d' * d' ≤ n → n % d' ≠ 0
theorem Tried.next {n d : Int} (h : Tried n d) (hd : n % d ≠ 0) : Tried n (d + 1) := fun d' h1 h2 h3 => by
  by_cases e : d' = d
  · rw [e]; exact hd
  · exact h d' h1 (by omega) h3
theorem sq_bd {n d : Int} (h0 : 2 ≤ d) (h1 : d ≤ n + 1) (hn : n ≤ 1000000) : 4 ≤ d * d ∧ d * d ≤ 1000002000001 := by
  have h2 : d ≤ 1000001 := by omega
  have h3 : d * d ≤ 1000001 * 1000001 := Int.mul_le_mul h2 h2 (by omega) (by omega)
  have h4 : 2 * 2 ≤ d * d := Int.mul_le_mul h0 h0 (by omega) (by omega)
  omega
theorem sq_le {n d : Int} (h0 : 2 ≤ d) (h : d * d ≤ n) : d ≤ n := by
  have : 1 * d ≤ d * d := Int.mul_le_mul (by omega) (Int.le_refl _) (by omega) (by omega)
  omega
end Go.Proofs.YtmbphpmabopifaaDoor
/-
  The walks of the methods of a field's tables.
-/
namespace Go.Proofs.YtmbphpmabopifaaDoor
open Go.RowKit
set_option linter.unusedVariables false

/-- Block b holds the tables of a field. -/
structure Cal (w : World) (b : Nat) (F : FF) : Prop where
  ok : F.ok
  lt : b < w.heap.size
  bin : w.cell? ⟨b, 0, none⟩ = some (.bool F.bin)
  size : w.cell? ⟨b, 1, none⟩ = some (.int .i64 F.size)
  exp : ∀ n, n < F.N → w.cell? ⟨b, 2 + n, none⟩ = some (.int .i64 (F.exp n))
  log : ∀ a, F.el a → a ≠ 0 → w.cell? ⟨b, 1023 + a.toNat, none⟩ = some (.int .i64 (F.log a))

theorem ofInt_64 (a : Nat) (ha : a < 4611686018427387904) : (BitVec.ofInt 64 (a : Int)).toNat = a := by
  rw [BitVec.ofInt_natCast, BitVec.toNat_ofNat]; exact Nat.mod_eq_of_lt (by omega)
theorem i64_xor (a b : Int) (h1 : 0 ≤ a) (h2 : a < 4611686018427387904) (h3 : 0 ≤ b) (h4 : b < 4611686018427387904) : bits BinOp.xor IntKind.i64 a b = xorI a b := by
  obtain ⟨A, rfl⟩ := Int.eq_ofNat_of_zero_le h1
  obtain ⟨B, rfl⟩ := Int.eq_ofNat_of_zero_le h3
  have hx : A ^^^ B < 2 ^ 62 := Nat.xor_lt_two_pow (by omega) (by omega)
  show IntKind.i64.wrap ((BitVec.ofInt 64 (A : Int) ^^^ BitVec.ofInt 64 (B : Int)).toNat : Int) = _
  rw [BitVec.toNat_xor, ofInt_64 A (by omega), ofInt_64 B (by omega), IntWalk.i64_in _ (by omega)]
  unfold xorI; simp only [Int.toNat_natCast]
theorem i64_and (a b : Int) (h1 : 0 ≤ a) (h2 : a < 4611686018427387904) (h3 : 0 ≤ b) (h4 : b < 4611686018427387904) : bits BinOp.and IntKind.i64 a b = ((a.toNat &&& b.toNat : Nat) : Int) := by
  obtain ⟨A, rfl⟩ := Int.eq_ofNat_of_zero_le h1
  obtain ⟨B, rfl⟩ := Int.eq_ofNat_of_zero_le h3
  have hx : A &&& B < 2 ^ 62 := Nat.and_lt_two_pow _ (by omega)
  show IntKind.i64.wrap ((BitVec.ofInt 64 (A : Int) &&& BitVec.ofInt 64 (B : Int)).toNat : Int) = _
  rw [BitVec.toNat_and, ofInt_64 A (by omega), ofInt_64 B (by omega), IntWalk.i64_in _ (by omega)]
  simp only [Int.toNat_natCast]
/-- An element of a list, by a name that simp does not look behind. -/
def gi (l : List Int) (k : Nat) : Int := l.getD k 0
theorem gi_eq (l : List Int) (k : Nat) : gi l k = l.getD k 0 := rfl
/-- A slice of integers that is read. -/
structure RowAt (w : World) (a : Option Addr) (n : Nat) (zs : List Int) : Prop where
  len : zs.length = n
  small : n ≤ 9223372036854775807
  at' : 0 < n → ∃ b off, a = some ⟨b, off, none⟩ ∧ b < w.heap.size ∧ ∀ j, j < n → w.cell? ⟨b, off + j, none⟩ = some (.int .i64 (gi zs j))
/-- Whether a number is an element. -/
def hasB (F : FF) (a : Int) : Bool := inR a 0 (F.size - 1)
theorem hasB_iff {F : FF} {a : Int} : hasB F a = true ↔ F.el a := by unfold hasB FF.el; rw [inR_iff]; omega
/-- Whether all numbers of a list are elements. -/
def allB (F : FF) (l : List Int) : Bool := l.all (hasB F)
theorem allB_iff {F : FF} {l : List Int} : allB F l = true ↔ ∀ z ∈ l, F.el z := by
  unfold allB; rw [List.all_eq_true]
  exact ⟨fun h z hz => hasB_iff.1 (h z hz), fun h z hz => hasB_iff.2 (h z hz)⟩
theorem allB_snoc {F : FF} {l : List Int} {k : Nat} (hk : k < l.length) (h : allB F (l.take k) = true) (h1 : hasB F (gi l k) = true) : allB F (l.take (k + 1)) = true := by
  rw [VF.take_succ_getD l k hk]; unfold allB at *; rw [List.all_append, h]; simp; exact h1
theorem allB_not {F : FF} {l : List Int} {k : Nat} (hk : k < l.length) (h1 : hasB F (gi l k) = false) : allB F l = false := by
  cases h : allB F l
  · rfl
  · unfold allB at h
    rw [List.all_eq_true] at h
    rw [gi_eq, List.getD_eq_getElem?_getD, List.getElem?_eq_getElem hk] at h1
    have := h _ (List.getElem_mem hk)
    simp only [Option.getD_some] at h1
    rw [this] at h1
    cases h1
end Go.Proofs.YtmbphpmabopifaaDoor
/-
  The walks of inverse and powers, out of a field's tables.
-/
namespace Go.Proofs.YtmbphpmabopifaaDoor
open Go.RowKit
set_option linter.unusedVariables false

end Go.Proofs.YtmbphpmabopifaaDoor
/-
  The walks of the closures that multiply by the generator, and of the filling of the tables.
-/
namespace Go.Proofs.YtmbphpmabopifaaDoor
open Go.RowKit
set_option linter.unusedVariables false

theorem and_pow (k X : Nat) (h : X < 2 * 2 ^ k) : X &&& 2 ^ k = if 2 ^ k ≤ X then 2 ^ k else 0 := by
  rw [nat_bit]
  have h0 : 0 < 2 ^ k := Nat.two_pow_pos k
  split
  · rename_i hle
    have : X / 2 ^ k = 1 := by
      have h1 : 1 ≤ X / 2 ^ k := (Nat.le_div_iff_mul_le h0).2 (by omega)
      have h2 : X / 2 ^ k < 2 := (Nat.div_lt_iff_lt_mul h0).2 (by omega)
      omega
    rw [this]; omega
  · rename_i hle
    rw [Nat.div_eq_of_lt (by omega)]; simp
/-- The logarithms behind k rounds. -/
def logA (T : Int → Int) : Nat → Int → Int
  | 0, _ => 0
  | k + 1, v => if v = orb T k then (k : Int) else logA T k v
theorem heap_setCell_self (w : World) (b o : Nat) (v : Value) (cur : Array Value) (t : TypeId) (fz : Nat × Nat) (h : w.heap[b]? = some (.cells cur t fz)) : (w.setCell ⟨b, o, none⟩ v).heap[b]? = some (.cells (cur.setIfInBounds o v) t fz) := by
  simp only [World.setCell, Array.getElem?_modify, if_true, h]; rfl
/-- What is known of the powers while none of them was 0 or 1 again. -/
def Fine (T : Int → Int) (k : Nat) : Prop := ∀ n, n < k → orb T n ≠ 0 ∧ (0 < n → orb T n ≠ 1)
theorem Fine.next {T : Int → Int} {k : Nat} (h : Fine T k) (h0 : orb T k ≠ 0) (h1 : 0 < k → orb T k ≠ 1) : Fine T (k + 1) := fun n hn => by
  by_cases e : n = k
  · subst e; exact ⟨h0, h1⟩
  · exact h n (by omega)
open Classical in
noncomputable def goodB (T : Int → Int) (N : Nat) : Bool := decide (Good T N)
theorem goodB_no0 {T : Int → Int} {N k : Nat} (hk : k < N) (h : orb T k = 0) : goodB T N = false := by
  unfold goodB; simp only [decide_eq_false_iff_not]; exact fun g => (g.1 k hk).1 h
theorem goodB_no1 {T : Int → Int} {N k : Nat} (hk : k < N) (h0 : 0 < k) (h : orb T k = 1) : goodB T N = false := by
  unfold goodB; simp only [decide_eq_false_iff_not]; exact fun g => (g.1 k hk).2 h0 h
open Classical in
theorem goodB_end {T : Int → Int} {N : Nat} (h : Fine T N) : goodB T N = (orb T N == 1) := by
  unfold goodB
  by_cases e : orb T N = 1
  · rw [decide_eq_true (show Good T N from ⟨h, e⟩)]; simp [e]
  · rw [decide_eq_false (fun g => e g.2)]; simp [e]
end Go.Proofs.YtmbphpmabopifaaDoor
/-
  The walks of 'primePowers' and of 'Field.calc': the tables of a field, or no.
-/
namespace Go.Proofs.YtmbphpmabopifaaDoor
open Go.RowKit
set_option linter.unusedVariables false

def isZ : Value → Bool
  | .int .i64 z => z == 0
  | _ => false
def isF : Value → Bool
  | .bool b => !b
  | _ => false
theorem isZ_eq {v : Value} (h : isZ v = true) : v = .int .i64 0 := by
  unfold isZ at h; split at h
  · simp at h; rw [h]
  · cases h
theorem isF_eq {v : Value} (h : isF v = true) : v = .bool false := by
  unfold isF at h; split at h
  · rename_i b; cases b
    · rfl
    · cases h
  · cases h
def headOk : List Value → Bool
  | [] => false
  | v :: r => isF v && r.all isZ
theorem zeros_of (a : Array Value) (h : headOk a.toList = true) : a[0]? = some (.bool false) ∧ ∀ n, 0 < n → n < a.size → a[n]? = some (.int .i64 0) := by
  obtain ⟨l⟩ := a
  cases l with
  | nil => cases h
  | cons v r =>
    simp only [headOk, Bool.and_eq_true] at h
    refine ⟨by rw [isF_eq h.1]; rfl, fun n hn hs => ?_⟩
    obtain ⟨m, rfl⟩ : ∃ m, n = m + 1 := ⟨n - 1, by omega⟩
    have hm : m < r.length := by simp at hs; omega
    simp only [List.getElem?_toArray, List.getElem?_cons_succ]
    rw [List.getElem?_eq_getElem hm, isZ_eq (List.all_eq_true.1 h.2 _ (List.getElem_mem hm))]
theorem set_first (a : Array Value) (v : Value) (h : a[0]? = some v) : a = a.setIfInBounds 0 v := by
  apply Array.ext_getElem?
  intro i
  by_cases hi : i = 0
  · subst hi
    rw [h, Array.getElem?_setIfInBounds_self_of_lt (Array.getElem?_eq_some_iff.1 h).1]
  · rw [Array.getElem?_setIfInBounds_ne (by omega)]
/-- One less than the size. -/
def nP (p : Int) : Nat := (p - 1).toNat
theorem frame_cell (W : World) (b o : Nat) (v : Value) (a : Addr) (h : a.block ≠ b) : (W.setCell ⟨b, o, none⟩ v).cell? a = W.cell? a := World.cell?_of_block (by rw [Below.heap_setCell _ _ _ _ h])
end Go.Proofs.YtmbphpmabopifaaDoor
/-
  The walk of 'Field.calc': the tables of a field, and whether it is valid.
-/
namespace Go.Proofs.YtmbphpmabopifaaDoor
open Go.RowKit
set_option linter.unusedVariables false

/-- A valid field of prime size. -/
def ValidP (p pw g : Int) : Prop := pw = 1 ∧ 3 ≤ p ∧ p ≤ 1021 ∧ primeB p = true ∧ 2 ≤ g ∧ g < p ∧ goodB (timesP g p) (nP p) = true ∧ ∀ h : Int, 2 ≤ h → h < g → goodB (timesP h p) (nP p) = false
/-- A valid binary field. -/
def ValidB (p pw g : Int) : Prop := p = 2 ∧ 3 ≤ pw ∧ pw ≤ 8 ∧ ((2 ^ pw.toNat : Nat) : Int) ≤ g ∧ g < 2 * ((2 ^ pw.toNat : Nat) : Int) ∧ goodB (timesB ((2 ^ pw.toNat : Nat) : Int) g) (2 ^ pw.toNat - 1) = true
open Classical in
noncomputable def validB (p pw g : Int) : Bool := decide (ValidP p pw g ∨ ValidB p pw g)
/-- The field that the three numbers stand for. -/
def ffOf (p pw g : Int) : FF := if pw = 1 then ⟨false, p, g⟩ else ⟨true, ((2 ^ pw.toNat : Nat) : Int), g⟩
theorem good_of {T : Int → Int} {N : Nat} (h : goodB T N = true) : Good T N := by unfold goodB at h; simpa using h
theorem ffOf_ok {p pw g : Int} (h : validB p pw g = true) : (ffOf p pw g).ok := by
  unfold validB at h; simp only [decide_eq_true_eq] at h
  rcases h with ⟨h1, h2, h3, h4, h5, h6, h7, _⟩ | ⟨h1, h2, h3, h4, h5, h6⟩
  · unfold ffOf; rw [if_pos h1]
    exact FF.ok.mk h2 h3 (good_of h7) (fun h => by cases h) (fun _ => ⟨by show 1 ≤ g; omega, h6⟩)
  · unfold ffOf; rw [if_neg (by omega)]
    have hp : 2 ^ 3 ≤ 2 ^ pw.toNat := Nat.pow_le_pow_right (by omega) (by omega)
    have hp2 : 2 ^ pw.toNat ≤ 2 ^ 8 := Nat.pow_le_pow_right (by omega) (by omega)
    refine ⟨by show (3 : Int) ≤ ((2 ^ pw.toNat : Nat) : Int); omega, by show ((2 ^ pw.toNat : Nat) : Int) ≤ 1021; omega, ?_, fun _ => ⟨pw.toNat, by omega, by omega, rfl, h4, h5⟩, fun h => by cases h⟩
    have := good_of h6
    have e : (((2 ^ pw.toNat : Nat) : Int) - 1).toNat = 2 ^ pw.toNat - 1 := by omega
    show Good (timesB _ _) (((2 ^ pw.toNat : Nat) : Int) - 1).toNat
    rw [e]; exact this
theorem logA_eq {F : FF} (h : F.ok) : ∀ k, k ≤ F.N → ∀ n, n < k → logA F.times k (F.exp n) = n := by
  intro k
  induction k with
  | zero => intro _ n hn; omega
  | succ k ih =>
    intro hk n hn
    unfold logA
    by_cases e : F.exp n = orb F.times k
    · rw [if_pos e]
      have := FF.exp_inj h n k (by omega) (by omega) e
      rw [this]
    · rw [if_neg e]
      exact ih (by omega) n (by
        have : n ≠ k := fun x => e (by rw [x]; rfl)
        omega)
/-- What 'calc' leaves. -/
def CalcPost (p pw g : Int) (w : World) (e : Ending) (w' : World) : Prop :=
  ∃ v, e = .returned (.tuple #[v, .bool (validB p pw g)]) ∧ Below w.heap.size w w' ∧ (validB p pw g = true → ∃ b, v = .pointer (some ⟨b, 0, none⟩) ∧ w.heap.size ≤ b ∧ Cal w' b (ffOf p pw g))
theorem validB_not {p pw g : Int} (h1 : ¬ ValidP p pw g) (h2 : ¬ ValidB p pw g) : validB p pw g = false := by
  unfold validB; simp [h1, h2]
theorem CalcPost.no {p pw g : Int} {w w' : World} {v : Value} (h : validB p pw g = false) (hb : Below w.heap.size w w') : CalcPost p pw g w (.returned (.tuple #[v, .bool false])) w' :=
  ⟨v, by rw [h], hb, fun hh => by rw [h] at hh; cases hh⟩
/-- No generator below h. -/
def NoGen (p h : Int) : Prop := ∀ x : Int, 2 ≤ x → x < h → goodB (timesP x p) (nP p) = false
theorem NoGen.next {p h : Int} (a : NoGen p h) (b : goodB (timesP h p) (nP p) = false) : NoGen p (h + 1) := fun x h1 h2 => by
  by_cases e : x = h
  · rw [e]; exact b
  · exact a x h1 (by omega)
theorem valid_found {p g h : Int} (h3 : 3 ≤ p) (hp : p ≤ 1021) (hpr : primeB p = true) (hh : 2 ≤ h) (hhp : h < p) (hn : NoGen p h) (hg : goodB (timesP h p) (nP p) = true) : validB p 1 g = (h == g) := by
  by_cases e : h = g
  · subst e
    have hv : validB p 1 h = true := by
      unfold validB; simp only [decide_eq_true_eq]
      exact .inl ⟨rfl, h3, hp, hpr, hh, hhp, hg, hn⟩
    rw [hv]; simp
  · have : (h == g) = false := by simp [e]
    rw [this]
    refine validB_not (fun v => ?_) (fun v => by have := v.2.1; omega)
    obtain ⟨_, _, _, _, h5, h6, h7, h8⟩ := v
    rcases Int.lt_trichotomy h g with hl | hl | hl
    · rw [h8 h hh hl] at hg; cases hg
    · exact e hl
    · rw [hn g h5 hl] at h7; cases h7
theorem valid_none {p g h : Int} (hhp : p ≤ h) (hn : NoGen p h) : validB p 1 g = false :=
  validB_not (fun v => by
    obtain ⟨_, _, _, _, h5, h6, h7, h8⟩ := v
    rw [hn g h5 (by omega)] at h7; cases h7) (fun v => by have := v.2.1; omega)
end Go.Proofs.YtmbphpmabopifaaDoor
