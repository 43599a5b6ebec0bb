/-
  The parts Base, Calc, Calc2, Fill, Prime, FieldCalc.
-/
import Derived.Test.YtdcmebegnekkcaaGreatMathG
import Derived.Test.YtdcmebegnekkcaaGreatProg
import Derived.WalkKit
import Derived.WalkSpells
import Derived.WalkLawsBesides
import Derived.Below
import Derived.Lib.Hide
import Derived.Outline
import Derived.Deep.QuietTactic
import Derived.BigQuiet
import Derived.RegionTactic
import Derived.ChangeAlike
import Derived.IntWalk
import Derived.Laws.BitsAllLaws
import Derived.WalkSmall
/-
  The walks of the field's small functions.
-/
namespace Go.Proofs.YtdcmebegnekkcaaGreat
open Go.RowKit
set_option linter.unusedVariables false

theorem ret_bool {a b : Bool} (h : a = b) : Ending.returned (.bool a) = .returned (.bool b) := by rw [h]
theorem ret_int {k : IntKind} {a b : Int} (h : a = b) : Ending.returned (.int k a) = .returned (.int k b) := by rw [h]
/-- low <= n <= high, as the program reckons it. -/
def inR (n lo hi : Int) : Bool := decide (lo ≤ n ∧ n ≤ hi)
theorem inR_true {n lo hi : Int} (h1 : lo ≤ n) (h2 : n ≤ hi) : inR n lo hi = true := by unfold inR; simp [h1, h2]
theorem inR_iff {n lo hi : Int} : inR n lo hi = true ↔ lo ≤ n ∧ n ≤ hi := by unfold inR; simp
theorem inR_false {n lo hi : Int} (h : ¬ (lo ≤ n ∧ n ≤ hi)) : inR n lo hi = false := by unfold inR; simp [h]
theorem inR_lo {n lo hi : Int} (h : n < lo) : inR n lo hi = false := inR_false (by omega)
theorem inR_and {n lo hi : Int} (h : lo ≤ n) : inR n lo hi = decide (n ≤ hi) := by unfold inR; simp [h]

theorem inRange_any (n lo hi : Int) (w : World) : Calls Tryz.prog 46 #[.int .i64 n, .int .i64 lo, .int .i64 hi] w fun e w' => e = .returned (.bool (inR n lo hi)) ∧ w = w' := by
  go_enter Tryz.func46, Tryz.ntmps46
  go_wp2
  all_goals go_ret
  · rename_i h; exact ⟨ret_bool (inR_and h).symm, rfl⟩
  · rename_i h; exact ⟨ret_bool (inR_lo h).symm, rfl⟩
theorem l01In_any (n lo hi : Int) (w : World) : Calls Tryz.prog 31 #[.int .i64 n, .int .i64 lo, .int .i64 hi] w fun e w' => e = .returned (.bool (inR n lo hi)) ∧ w = w' := by
  go_enter Tryz.func31, Tryz.ntmps31
  go_wp2
  all_goals go_ret
  · rename_i h; exact ⟨ret_bool (inR_and h).symm, rfl⟩
  · rename_i h; exact ⟨ret_bool (inR_lo h).symm, rfl⟩

open Classical in
/-- Whether no square up to n has a divisor of n as its root. -/
noncomputable def primeB (n : Int) : Bool := decide (2 ≤ n ∧ ∀ d : Int, 2 ≤ d → d * d ≤ n → n % d ≠ 0)

theorem primeB_no {n d : Int} (h2 : 2 ≤ d) (hd : d * d ≤ n) (h : n % d = 0) : primeB n = false := by
  unfold primeB; simp only [decide_eq_false_iff_not]; exact fun hp => hp.2 d h2 hd h
theorem primeB_yes {n d : Int} (hn : 2 ≤ n) (h2 : 2 ≤ d) (hd : n < d * d) (h : ∀ d' : Int, 2 ≤ d' → d' < d → d' * d' ≤ n → n % d' ≠ 0) : primeB n = true := by
  unfold primeB; simp only [decide_eq_true_eq]
  refine ⟨hn, fun d' h1 h3 => h d' h1 ?_ h3⟩
  apply Int.lt_of_not_ge
  intro hge
  have : d * d ≤ d' * d' := Int.mul_le_mul hge hge (by omega) (by omega)
  omega
/-- What is known when the divisors below d have been tried. -/
def Tried (n d : Int) : Prop := ∀ d' : Int, 2 ≤ d' → d' < d → d' * d' ≤ n → n % d' ≠ 0
theorem Tried.next {n d : Int} (h : Tried n d) (hd : n % d ≠ 0) : Tried n (d + 1) := fun d' h1 h2 h3 => by
  by_cases e : d' = d
  · rw [e]; exact hd
  · exact h d' h1 (by omega) h3
theorem sq_bd {n d : Int} (h0 : 2 ≤ d) (h1 : d ≤ n + 1) (hn : n ≤ 1000000) : 4 ≤ d * d ∧ d * d ≤ 1000002000001 := by
  have h2 : d ≤ 1000001 := by omega
  have h3 : d * d ≤ 1000001 * 1000001 := Int.mul_le_mul h2 h2 (by omega) (by omega)
  have h4 : 2 * 2 ≤ d * d := Int.mul_le_mul h0 h0 (by omega) (by omega)
  omega
theorem sq_le {n d : Int} (h0 : 2 ≤ d) (h : d * d ≤ n) : d ≤ n := by
  have : 1 * d ≤ d * d := Int.mul_le_mul (by omega) (Int.le_refl _) (by omega) (by omega)
  omega
theorem isPrime_any (n : Int) (hn : n ≤ 1000000) (w : World) : Calls Tryz.prog 140 #[.int .i64 n] w fun e w' => e = .returned (.bool (primeB n)) ∧ w = w' := by
  by_cases h2 : n < 2
  · go_enter Tryz.func140, Tryz.ntmps140
    go_wp2
    go_ret
    exact ⟨ret_bool (by unfold primeB; simp; intro h; omega), rfl⟩
  · have h2' : 2 ≤ n := by omega
    go_enter Tryz.func140, Tryz.ntmps140
    go_wp2
    go_loop [3] (fun t => ∃ d : Int, 2 ≤ d ∧ d ≤ n + 1 ∧ Tried n d ∧ t = .int .i64 d) (fun t => (n + 2 - intOf t).toNat)
    case atStart => exact ⟨2, by omega, by omega, fun d' h1 h3 => by omega, rfl⟩
    case round =>
      obtain ⟨d, hd1, hd2, ht, rfl⟩ := hrel
      have hb := sq_bd hd1 hd2 hn
      have hsq := sq_le (n := n) hd1
      by_cases hlt : d * d ≤ n
      · have hdn := hsq hlt
        clear hsq
        by_cases hm : n % d = 0
        · have hm' : (n % d == 0) = true := by simp [hm]
          have hf := Lib.hid (primeB_no hd1 hlt hm)
          clear hm ht
          go_wp2
          go_ret
          exact ⟨ret_bool hf.out.symm, rfl⟩
        · have hm' : (n % d == 0) = false := by simp [hm]
          go_wp2
          go_round
          case rel => exact ⟨d + 1, by omega, by omega, ht.next hm, rfl⟩
          case measure => simp [intOf]; omega
      · go_wp2
        go_ret
        exact ⟨ret_bool (primeB_yes h2' hd1 (by omega) ht).symm, rfl⟩
theorem l02Prime_any (n : Int) (hn : n ≤ 1000000) (hn0 : 0 ≤ n) (w : World) : Calls Tryz.prog 71 #[.int .i64 n] w fun e w' => e = .returned (.bool (primeB n)) ∧ w = w' := by
  go_enter Tryz.func71, Tryz.ntmps71
  go_wp2
  go_loop [3] (fun t => ∃ d : Int, 2 ≤ d ∧ (d = 2 ∨ d ≤ n + 1) ∧ Tried n d ∧ t = .int .i64 d) (fun t => (n + 2 - intOf t).toNat)
  case atStart => exact ⟨2, by omega, by omega, fun d' h1 h3 => by omega, rfl⟩
  case round =>
    obtain ⟨d, hd1, hd2, ht, rfl⟩ := hrel
    have hb : 4 ≤ d * d ∧ d * d ≤ 1000002000001 := by
      rcases hd2 with e | h
      · rw [e]; omega
      · exact sq_bd hd1 h hn
    have hsq := sq_le (n := n) hd1
    by_cases hlt : d * d ≤ n
    · have hdn := hsq hlt
      clear hsq
      by_cases hm : n % d = 0
      · have hm' : (n % d == 0) = true := by simp [hm]
        have hf := Lib.hid (primeB_no hd1 hlt hm)
        clear hm ht
        go_wp2
        go_ret
        exact ⟨ret_bool hf.out.symm, rfl⟩
      · have hm' : (n % d == 0) = false := by simp [hm]
        go_wp2
        go_round
        case rel => exact ⟨d + 1, by omega, by omega, ht.next hm, rfl⟩
        case measure => simp [intOf]; omega
    · go_wp2
      go_ret
      refine ⟨ret_bool ?_, rfl⟩
      by_cases h2 : 2 ≤ n
      · simp [h2, primeB_yes h2 hd1 (by omega) ht]
      · unfold primeB; simp [h2]
end Go.Proofs.YtdcmebegnekkcaaGreat
/-
  The walks of the methods of a field's tables.
-/
namespace Go.Proofs.YtdcmebegnekkcaaGreat
open Go.RowKit
set_option linter.unusedVariables false

/-- Block b holds the tables of a field. -/
structure Cal (w : World) (b : Nat) (F : FF) : Prop where
  ok : F.ok
  lt : b < w.heap.size
  bin : w.cell? ⟨b, 0, none⟩ = some (.bool F.bin)
  size : w.cell? ⟨b, 1, none⟩ = some (.int .i64 F.size)
  exp : ∀ n, n < F.N → w.cell? ⟨b, 2 + n, none⟩ = some (.int .i64 (F.exp n))
  log : ∀ a, F.el a → a ≠ 0 → w.cell? ⟨b, 1023 + a.toNat, none⟩ = some (.int .i64 (F.log a))

theorem ofInt_64 (a : Nat) (ha : a < 4611686018427387904) : (BitVec.ofInt 64 (a : Int)).toNat = a := by
  rw [BitVec.ofInt_natCast, BitVec.toNat_ofNat]; exact Nat.mod_eq_of_lt (by omega)
theorem i64_xor (a b : Int) (h1 : 0 ≤ a) (h2 : a < 4611686018427387904) (h3 : 0 ≤ b) (h4 : b < 4611686018427387904) : bits BinOp.xor IntKind.i64 a b = xorI a b := by
  obtain ⟨A, rfl⟩ := Int.eq_ofNat_of_zero_le h1
  obtain ⟨B, rfl⟩ := Int.eq_ofNat_of_zero_le h3
  have hx : A ^^^ B < 2 ^ 62 := Nat.xor_lt_two_pow (by omega) (by omega)
  show IntKind.i64.wrap ((BitVec.ofInt 64 (A : Int) ^^^ BitVec.ofInt 64 (B : Int)).toNat : Int) = _
  rw [BitVec.toNat_xor, ofInt_64 A (by omega), ofInt_64 B (by omega), IntWalk.i64_in _ (by omega)]
  unfold xorI; simp only [Int.toNat_natCast]
theorem i64_and (a b : Int) (h1 : 0 ≤ a) (h2 : a < 4611686018427387904) (h3 : 0 ≤ b) (h4 : b < 4611686018427387904) : bits BinOp.and IntKind.i64 a b = ((a.toNat &&& b.toNat : Nat) : Int) := by
  obtain ⟨A, rfl⟩ := Int.eq_ofNat_of_zero_le h1
  obtain ⟨B, rfl⟩ := Int.eq_ofNat_of_zero_le h3
  have hx : A &&& B < 2 ^ 62 := Nat.and_lt_two_pow _ (by omega)
  show IntKind.i64.wrap ((BitVec.ofInt 64 (A : Int) &&& BitVec.ofInt 64 (B : Int)).toNat : Int) = _
  rw [BitVec.toNat_and, ofInt_64 A (by omega), ofInt_64 B (by omega), IntWalk.i64_in _ (by omega)]
  simp only [Int.toNat_natCast]
/-- An element of a list, by a name that simp does not look behind. -/
def gi (l : List Int) (k : Nat) : Int := l.getD k 0
/-- A slice of integers that is read. -/
structure RowAt (w : World) (a : Option Addr) (n : Nat) (zs : List Int) : Prop where
  len : zs.length = n
  small : n ≤ 9223372036854775807
  at' : 0 < n → ∃ b off, a = some ⟨b, off, none⟩ ∧ b < w.heap.size ∧ ∀ j, j < n → w.cell? ⟨b, off + j, none⟩ = some (.int .i64 (gi zs j))
/-- Whether a number is an element. -/
def hasB (F : FF) (a : Int) : Bool := inR a 0 (F.size - 1)
/-- Whether all numbers of a list are elements. -/
def allB (F : FF) (l : List Int) : Bool := l.all (hasB F)
end Go.Proofs.YtdcmebegnekkcaaGreat
/-
  The walks of inverse and powers, out of a field's tables.
-/
namespace Go.Proofs.YtdcmebegnekkcaaGreat
open Go.RowKit
set_option linter.unusedVariables false

end Go.Proofs.YtdcmebegnekkcaaGreat
/-
  The walks of the closures that multiply by the generator, and of the filling of the tables.
-/
namespace Go.Proofs.YtdcmebegnekkcaaGreat
open Go.RowKit
set_option linter.unusedVariables false

/-- The closure of a field of prime size: x * g % p. -/
theorem timesP_any (g p x : Int) (w : World) (bg bp : Nat) (hg : w.cell? ⟨bg, 0, none⟩ = some (.int .i64 g)) (hp : w.cell? ⟨bp, 0, none⟩ = some (.int .i64 p))
    (h0 : 0 ≤ x) (h1 : x < p) (h2 : 0 ≤ g) (h3 : g ≤ 1021) (h4 : 3 ≤ p) (h5 : p ≤ 1021) :
    Calls Tryz.prog 154 #[.int .i64 x, .pointer (some ⟨bg, 0, none⟩), .pointer (some ⟨bp, 0, none⟩)] w fun e w' => e = .returned (.int .i64 (timesP g p x)) ∧ w = w' := by
  have hb : 0 ≤ x * g ∧ x * g ≤ 1042441 := by
    have h6 : x * g ≤ 1021 * 1021 := Int.mul_le_mul (by omega) h3 h2 (by omega)
    have h7 : 0 ≤ x * g := Int.mul_nonneg h0 h2
    omega
  have hf := Lib.hid (show timesP g p x = x * g % p from rfl)
  have w3 : ¬ p = 0 := by omega
  go_enter Tryz.func154, Tryz.ntmps154
  go_wp2
  go_ret
  exact ⟨ret_int hf.out.symm, rfl⟩
theorem and_pow (k X : Nat) (h : X < 2 * 2 ^ k) : X &&& 2 ^ k = if 2 ^ k ≤ X then 2 ^ k else 0 := by
  rw [nat_bit]
  have h0 : 0 < 2 ^ k := Nat.two_pow_pos k
  split
  · rename_i hle
    have : X / 2 ^ k = 1 := by
      have h1 : 1 ≤ X / 2 ^ k := (Nat.le_div_iff_mul_le h0).2 (by omega)
      have h2 : X / 2 ^ k < 2 := (Nat.div_lt_iff_lt_mul h0).2 (by omega)
      omega
    rw [this]; omega
  · rename_i hle
    rw [Nat.div_eq_of_lt (by omega)]; simp
theorem timesB_any (k : Nat) (hk : k ≤ 8) (sz poly x : Int) (hsz : sz = ((2 ^ k : Nat) : Int)) (w : World) (bc b bf : Nat) (hc : w.cell? ⟨bc, 0, none⟩ = some (.pointer (some ⟨b, 0, none⟩))) (hs : w.cell? ⟨b, 1, none⟩ = some (.int .i64 sz))
    (hp : w.cell? ⟨bf, 2, none⟩ = some (.int .i64 poly))
    (h0 : 0 ≤ x) (h1 : x < sz) (h4 : sz ≤ poly) (h5 : poly < 2 * sz) :
    Calls Tryz.prog 143 #[.int .i64 x, .pointer (some ⟨bc, 0, none⟩), .pointer (some ⟨bf, 0, none⟩)] w fun e w' => e = .returned (.int .i64 (timesB sz poly x)) ∧ w = w' := by
  have hk2 : 2 ^ k ≤ 2 ^ 8 := Nat.pow_le_pow_right (by omega) hk
  have hand : bits BinOp.and IntKind.i64 (x * 2) sz = if sz ≤ 2 * x then sz else 0 := by
    rw [i64_and _ _ (by omega) (by omega) (by omega) (by omega)]
    have e2 : sz.toNat = 2 ^ k := by omega
    rw [e2, and_pow _ _ (by omega)]
    split
    · rw [if_pos (by omega)]; omega
    · rw [if_neg (by omega)]; rfl
  have hxor := i64_xor (x * 2) poly (by omega) (by omega) (by omega) (by omega)
  have hbd : sz ≤ 256 ∧ 0 < sz := by have := Nat.two_pow_pos k; omega
  clear hsz hk2
  by_cases hle : sz ≤ 2 * x
  · rw [if_pos hle] at hand
    have hf := Lib.hid (show timesB sz poly x = xorI (x * 2) poly by unfold timesB; rw [if_pos hle, Int.mul_comm])
    have hne : (sz != 0) = true := by simp; omega
    have hne2 : ¬ sz = 0 := by omega
    go_enter Tryz.func143, Tryz.ntmps143
    go_wp2
    go_ret
    exact ⟨ret_int hf.out.symm, rfl⟩
  · rw [if_neg hle] at hand
    have hf := Lib.hid (show timesB sz poly x = x * 2 by unfold timesB; rw [if_neg hle, Int.mul_comm])
    go_enter Tryz.func143, Tryz.ntmps143
    go_wp2
    go_ret
    exact ⟨ret_int hf.out.symm, rfl⟩

/-- The logarithms behind k rounds. -/
def logA (T : Int → Int) : Nat → Int → Int
  | 0, _ => 0
  | k + 1, v => if v = orb T k then (k : Int) else logA T k v
/-- The tables behind k rounds: block b. -/
structure Tab (w : World) (b : Nat) (bin : Bool) (sz : Int) (T : Int → Int) (k : Nat) : Prop where
  blk : ∃ cur : Array Value, w.heap[b]? = some (.cells cur 193 (0, 0)) ∧ cur.size = 2044 ∧ cur[0]? = some (.bool bin) ∧ cur[1]? = some (.int .i64 sz) ∧
    (∀ n, n < k → cur[2 + n]? = some (.int .i64 (orb T n))) ∧ (∀ v : Nat, v < 1021 → cur[1023 + v]? = some (.int .i64 (logA T k v)))
theorem Tab.cell {w : World} {b : Nat} {bin : Bool} {sz : Int} {T : Int → Int} {k : Nat} (h : Tab w b bin sz T k) {o : Nat} (ho : o < 2044) : (∃ v, w.cell? ⟨b, o, none⟩ = some v) ∧ w.frozen? ⟨b, o, none⟩ = false := by
  obtain ⟨cur, hb, hs, _⟩ := h.blk
  refine ⟨⟨cur[o]'(by omega), ?_⟩, ?_⟩
  · unfold World.cell?; rw [hb]; simp only [Option.isSome_none, Bool.false_eq_true, if_false]; exact Array.getElem?_eq_getElem (by omega)
  · unfold World.frozen?; rw [hb]; simp
theorem Tab.size {w : World} {b : Nat} {bin : Bool} {sz : Int} {T : Int → Int} {k : Nat} (h : Tab w b bin sz T k) : w.cell? ⟨b, 1, none⟩ = some (.int .i64 sz) := by
  obtain ⟨cur, hb, hs, h0, h1, _⟩ := h.blk
  unfold World.cell?; rw [hb]; exact h1
theorem heap_setCell_self (w : World) (b o : Nat) (v : Value) (cur : Array Value) (t : TypeId) (fz : Nat × Nat) (h : w.heap[b]? = some (.cells cur t fz)) : (w.setCell ⟨b, o, none⟩ v).heap[b]? = some (.cells (cur.setIfInBounds o v) t fz) := by
  simp only [World.setCell, Array.getElem?_modify, if_true, h]; rfl
theorem Tab.next {w : World} {b : Nat} {bin : Bool} {sz : Int} {T : Int → Int} {k : Nat} (h : Tab w b bin sz T k) (hk : k < 1021) (hx0 : 0 ≤ orb T k) (hx : orb T k < 1021) :
    Tab ((w.setCell ⟨b, 2 + k, none⟩ (.int .i64 (orb T k))).setCell ⟨b, 1023 + (orb T k).toNat, none⟩ (.int .i64 k)) b bin sz T (k + 1) := by
  obtain ⟨cur, hb, hs, h0, h1, h2, h3⟩ := h.blk
  refine ⟨⟨_, heap_setCell_self _ _ _ _ _ _ _ (heap_setCell_self _ _ _ _ _ _ _ hb), ?_, ?_, ?_, ?_, ?_⟩⟩
  · simp [hs]
  · rw [Array.getElem?_setIfInBounds_ne (by omega), Array.getElem?_setIfInBounds_ne (by omega)]; exact h0
  · rw [Array.getElem?_setIfInBounds_ne (by omega), Array.getElem?_setIfInBounds_ne (by omega)]; exact h1
  · intro n hn
    rw [Array.getElem?_setIfInBounds_ne (by omega)]
    by_cases e : n = k
    · subst e; rw [Array.getElem?_setIfInBounds_self_of_lt (by omega)]
    · rw [Array.getElem?_setIfInBounds_ne (by omega)]; exact h2 n (by omega)
  · intro v hv
    unfold logA
    by_cases e : (v : Int) = orb T k
    · rw [if_pos e]
      have : (orb T k).toNat = v := by omega
      rw [this, Array.getElem?_setIfInBounds_self_of_lt (by simp; omega)]
    · rw [if_neg e, Array.getElem?_setIfInBounds_ne (by omega), Array.getElem?_setIfInBounds_ne (by omega)]; exact h3 v hv
/-- What is known of the powers while none of them was 0 or 1 again. -/
def Fine (T : Int → Int) (k : Nat) : Prop := ∀ n, n < k → orb T n ≠ 0 ∧ (0 < n → orb T n ≠ 1)
theorem Fine.next {T : Int → Int} {k : Nat} (h : Fine T k) (h0 : orb T k ≠ 0) (h1 : 0 < k → orb T k ≠ 1) : Fine T (k + 1) := fun n hn => by
  by_cases e : n = k
  · subst e; exact ⟨h0, h1⟩
  · exact h n (by omega)
open Classical in
noncomputable def goodB (T : Int → Int) (N : Nat) : Bool := decide (Good T N)
theorem goodB_no0 {T : Int → Int} {N k : Nat} (hk : k < N) (h : orb T k = 0) : goodB T N = false := by
  unfold goodB; simp only [decide_eq_false_iff_not]; exact fun g => (g.1 k hk).1 h
theorem goodB_no1 {T : Int → Int} {N k : Nat} (hk : k < N) (h0 : 0 < k) (h : orb T k = 1) : goodB T N = false := by
  unfold goodB; simp only [decide_eq_false_iff_not]; exact fun g => (g.1 k hk).2 h0 h
open Classical in
theorem goodB_end {T : Int → Int} {N : Nat} (h : Fine T N) : goodB T N = (orb T N == 1) := by
  unfold goodB
  by_cases e : orb T N = 1
  · rw [decide_eq_true (show Good T N from ⟨h, e⟩)]; simp [e]
  · rw [decide_eq_false (fun g => e g.2)]; simp [e]
/-- What 'fill' leaves: the answer, and, if it is yes, the tables. -/
def Filled (bin : Bool) (sz : Int) (T : Int → Int) (N b : Nat) (P : World → Prop) (w : World) (e : Ending) (w' : World) : Prop :=
  e = .returned (.bool (goodB T N)) ∧ Below b w w' ∧ P w' ∧ (goodB T N = true → Tab w' b bin sz T N)
set_option maxHeartbeats 1000000 in
set_option maxRecDepth 100000 in
theorem fill_any (bin : Bool) (sz : Int) (T : Int → Int) (N : Nat) (hN : sz = (N : Int) + 1) (hsz : 3 ≤ sz) (hsz2 : sz ≤ 1021) (hT : ∀ x, 0 ≤ x → x < sz → 0 ≤ T x ∧ T x < sz)
    (fid : Nat) (c1 c2 : Value) (b : Nat) (P : World → Prop) (hP : ∀ W o v, P W → 2 ≤ o → P (W.setCell ⟨b, o, none⟩ v))
    (hcall : ∀ W x, P W → W.cell? ⟨b, 1, none⟩ = some (.int .i64 sz) → 0 ≤ x → x < sz → Calls Tryz.prog fid #[.int .i64 x, c1, c2] W fun e w' => e = .returned (.int .i64 (T x)) ∧ W = w')
    (hcf : ∀ args W, (callFunc fid args).run Tryz.prog W = .ok (.enter fid args) W)
    (w : World) (h0 : Tab w b bin sz T 0) (hPw : P w) :
    Calls Tryz.prog 142 #[.pointer (some ⟨b, 0, none⟩), .func (.func fid) #[] #[c1, c2]] w (Filled bin sz T N b P w) := by
  have hrange : ∀ k, 0 ≤ orb T k ∧ orb T k < sz := by
    intro k
    induction k with
    | zero => exact ⟨by show (0 : Int) ≤ 1; omega, by show (1 : Int) < sz; omega⟩
    | succ k ih => exact hT _ ih.1 ih.2
  have H0 := Lib.hid h0
  have HR := Lib.hid hrange
  have HC := Lib.hid hcall
  have HPP := Lib.hid hP
  have HPW := Lib.hid hPw
  have HT := Lib.hid hT
  have HN := Lib.hid hN
  clear h0 hrange hcall hP hPw hT hN
  go_enter Tryz.func142, Tryz.ntmps142
  go_wp2
  go_loopw [5, 6] (fun x n wr => ∃ k : Nat, k ≤ N ∧ Fine T k ∧ n = .int .i64 k ∧ x = .int .i64 (orb T k) ∧ Tab wr b bin sz T k ∧ Hid (P wr) ∧ Below b w wr) (fun _ n _ => N - (intOf n).toNat)
  case atStart => exact ⟨0, by omega, fun n hn => by omega, rfl, rfl, H0.out, HPW, Below.refl _ _⟩
  case round =>
    obtain ⟨k, hk, hfine, rfl, hxe, htab, hP, hbel⟩ := hrel
    obtain ⟨x, hx⟩ : ∃ x, x = orb T k := ⟨_, rfl⟩
    rw [← hx] at hxe
    subst hxe
    have hsize := htab.size
    have hF := Lib.hid hfine
    have hTab := Lib.hid htab
    have hr : 0 ≤ x ∧ x < sz := by rw [hx]; exact HR.out k
    have HX := Lib.hid hx
    have hkN : sz - 1 = (N : Int) := by have := HN.out; omega
    clear hfine htab hx
    by_cases hlt : k < N
    · have hlt' : (k : Int) < sz - 1 := by omega
      have hk2 : k < 1021 := by omega
      clear hkN
      by_cases hx0 : x = 0
      · have hb0 : (x == 0) = true := by simp [hx0]
        have hf := Lib.hid (goodB_no0 hlt (HX.out ▸ hx0))
        clear hx0
        go_wp2_with fail
        go_ret
        exact ⟨ret_bool hf.out.symm, hbel , hP.out, fun h => by rw [hf.out] at h; cases h⟩
      · have hb0 : (x == 0) = false := by simp [hx0]
        by_cases hx1 : 0 < k ∧ x = 1
        · obtain ⟨hk0, hx1⟩ := hx1
          have hb1 : (x == 1) = true := by simp [hx1]
          have hf := Lib.hid (goodB_no1 hlt hk0 (HX.out ▸ hx1))
          clear hx0 hx1
          go_wp2_with fail
          go_ret
          exact ⟨ret_bool hf.out.symm, hbel, hP.out, fun h => by rw [hf.out] at h; cases h⟩
        · obtain ⟨⟨v1, hv1⟩, hfz1⟩ := hTab.out.cell (o := 2 + k) (by omega)
          obtain ⟨⟨v2, hv2⟩, hfz2⟩ := hTab.out.cell (o := 1023 + x.toNat) (by omega)
          have hx2 : x < 1021 := by omega
          have hFn := Lib.hid (hF.out.next (HX.out ▸ hx0) (fun h e => hx1 ⟨h, HX.out.trans e⟩))
          have hTn := hTab.out.next hk2 (HX.out ▸ hr.1) (HX.out ▸ hx2)
          rw [← HX.out] at hTn
          have HTn := Lib.hid hTn
          have hPn := Lib.hid (HPP.out _ (1023 + x.toNat) (.int .i64 k) (HPP.out _ (2 + k) (.int .i64 x) hP.out (by omega)) (by omega))
          have hsz1 := Lib.hid hTn.size
          clear hTn hx0
          have hbel2 := Lib.hid ((hbel.setCell (p := ⟨b, 2 + k, none⟩) (Nat.le_refl _) (.int .i64 x)).setCell (p := ⟨b, 1023 + x.toNat, none⟩) (Nat.le_refl _) (.int .i64 k))
          have hcx := Lib.hid (HC.out _ x hPn.out hsz1.out hr.1 hr.2)
          have hnx := Lib.hid (show T x = orb T (k + 1) by rw [HX.out]; rfl)
          by_cases hk0 : 0 < k
          · have hb1 : (x == 1) = false := by simp; exact fun e => hx1 ⟨hk0, e⟩
            clear hx1
            go_wp2_with fail
            refine hcx.out.mono ?_
            rintro e w' ⟨rfl, rfl⟩
            go_wp2_with fail
            go_roundw
            case rel => exact ⟨k + 1, hlt, hFn.out, by go_num, by rw [hnx.out], HTn.out, hPn, hbel2.out⟩
            case measure => simp [intOf]; omega
          · clear hx1
            go_wp2_with fail
            refine hcx.out.mono ?_
            rintro e w' ⟨rfl, rfl⟩
            go_wp2_with fail
            go_roundw
            case rel => exact ⟨k + 1, hlt, hFn.out, by go_num, by rw [hnx.out], HTn.out, hPn, hbel2.out⟩
            case measure => simp [intOf]; omega
    · obtain rfl : k = N := by omega
      have hge : ¬ (k : Int) < sz - 1 := by omega
      have hf := Lib.hid ((goodB_end hF.out).trans (by rw [← HX.out]))
      clear hkN
      go_wp2_with fail
      go_ret
      exact ⟨ret_bool hf.out.symm, hbel, hP.out, fun _ => hTab.out⟩
end Go.Proofs.YtdcmebegnekkcaaGreat
/-
  The walks of 'primePowers' and of 'Field.calc': the tables of a field, or no.
-/
namespace Go.Proofs.YtdcmebegnekkcaaGreat
open Go.RowKit
set_option linter.unusedVariables false

def isZ : Value → Bool
  | .int .i64 z => z == 0
  | _ => false
def isF : Value → Bool
  | .bool b => !b
  | _ => false
theorem isZ_eq {v : Value} (h : isZ v = true) : v = .int .i64 0 := by
  unfold isZ at h; split at h
  · simp at h; rw [h]
  · cases h
theorem isF_eq {v : Value} (h : isF v = true) : v = .bool false := by
  unfold isF at h; split at h
  · rename_i b; cases b
    · rfl
    · cases h
  · cases h
def headOk : List Value → Bool
  | [] => false
  | v :: r => isF v && r.all isZ
theorem zero_ok : headOk Tryz.zeroCells193.toList = true := by kernel_rfl
theorem zero_size : Tryz.zeroCells193.size = 2044 := Tryz.zeroCells193_size
theorem zeros_of (a : Array Value) (h : headOk a.toList = true) : a[0]? = some (.bool false) ∧ ∀ n, 0 < n → n < a.size → a[n]? = some (.int .i64 0) := by
  obtain ⟨l⟩ := a
  cases l with
  | nil => cases h
  | cons v r =>
    simp only [headOk, Bool.and_eq_true] at h
    refine ⟨by rw [isF_eq h.1]; rfl, fun n hn hs => ?_⟩
    obtain ⟨m, rfl⟩ : ∃ m, n = m + 1 := ⟨n - 1, by omega⟩
    have hm : m < r.length := by simp at hs; omega
    simp only [List.getElem?_toArray, List.getElem?_cons_succ]
    rw [List.getElem?_eq_getElem hm, isZ_eq (List.all_eq_true.1 h.2 _ (List.getElem_mem hm))]
theorem zero_at (n : Nat) (h0 : 0 < n) (h : n < 2044) : Tryz.zeroCells193[n]? = some (Value.int .i64 0) := (zeros_of _ zero_ok).2 n h0 (by rw [zero_size]; exact h)
theorem set_first (a : Array Value) (v : Value) (h : a[0]? = some v) : a = a.setIfInBounds 0 v := by
  apply Array.ext_getElem?
  intro i
  by_cases hi : i = 0
  · subst hi
    rw [h, Array.getElem?_setIfInBounds_self_of_lt (Array.getElem?_eq_some_iff.1 h).1]
  · rw [Array.getElem?_setIfInBounds_ne (by omega)]
theorem zero_first : Tryz.zeroCells193 = Tryz.zeroCells193.setIfInBounds 0 (.bool false) := set_first _ _ (zeros_of _ zero_ok).1
/-- The new tables, all logarithms 0. -/
theorem tab_of (W : World) (bin : Bool) (sz : Int) (T : Int → Int) (z arr : Array Value) (hz : z.size = 2044) (hza : ∀ n, 0 < n → n < 2044 → z[n]? = some (Value.int .i64 0)) (h0 : arr = (z.setIfInBounds 0 (.bool bin)).setIfInBounds 1 (.int .i64 sz)) :
    Tab (W.alloc (.cells arr 193)) W.heap.size bin sz T 0 := by
  subst h0
  refine ⟨⟨_, heap_alloc_new W _, by simp [hz], ?_, ?_, fun n hn => by omega, fun v hv => ?_⟩⟩
  · rw [Array.getElem?_setIfInBounds_ne (by omega), Array.getElem?_setIfInBounds_self_of_lt (by omega)]
  · rw [Array.getElem?_setIfInBounds_self_of_lt (by simp; omega)]
  · rw [Array.getElem?_setIfInBounds_ne (by omega), Array.getElem?_setIfInBounds_ne (by omega), hza _ (by omega) (by omega)]; rfl
theorem tab_new (W : World) (bin : Bool) (sz : Int) (T : Int → Int) (arr : Array Value) (h0 : arr = (Tryz.zeroCells193.setIfInBounds 0 (.bool bin)).setIfInBounds 1 (.int .i64 sz)) :
    Tab (W.alloc (.cells arr 193)) W.heap.size bin sz T 0 := tab_of W bin sz T _ arr zero_size zero_at h0
/-- One less than the size. -/
def nP (p : Int) : Nat := (p - 1).toNat
/-- What 'primePowers' and 'calc' leave: a new block, and the tables in it if the answer is yes. -/
def Made (bin : Bool) (sz : Int) (T : Int → Int) (ok : Bool) (w : World) (e : Ending) (w' : World) : Prop :=
  ∃ b, e = .returned (.tuple #[.pointer (some ⟨b, 0, none⟩), .bool ok]) ∧ Below w.heap.size w w' ∧ w.heap.size ≤ b ∧ b < w'.heap.size ∧ (goodB T (nP sz) = true → Tab w' b bin sz T (nP sz))

theorem frame_cell (W : World) (b o : Nat) (v : Value) (a : Addr) (h : a.block ≠ b) : (W.setCell ⟨b, o, none⟩ v).cell? a = W.cell? a := World.cell?_of_block (by rw [Below.heap_setCell _ _ _ _ h])
theorem callFunc_p (args : Array Value) (W : World) : (callFunc 154 args).run Tryz.prog W = .ok (.enter 154 args) W := by kernel_rfl
theorem callFunc_b (args : Array Value) (W : World) : (callFunc 143 args).run Tryz.prog W = .ok (.enter 143 args) W := by kernel_rfl

set_option maxHeartbeats 400000 in
set_option maxRecDepth 100000 in
theorem primePowers_any (p g : Int) (w : World) (h3 : 3 ≤ p) (hp : p ≤ 1021) (hg0 : 0 ≤ g) (hg : g ≤ 1021) :
    Calls Tryz.prog 141 #[.int .i64 p, .int .i64 g] w (Made false p (timesP g p) (goodB (timesP g p) (nP p)) w) := by
  go_enter Tryz.func141, Tryz.ntmps141
  go_wp2_with fail
  have hb0 : Below w.heap.size w (((w.alloc (.cells #[.int .i64 p] 2)).alloc (.cells #[.int .i64 g] 2)).alloc (.cells (Tryz.zeroCells193.setIfInBounds 1 (.int .i64 p)) 193)) :=
    (((Below.refl _ _).alloc (Nat.le_refl _) _).alloc (by simp) _).alloc (by simp; omega) _
  refine (fill_any false p (timesP g p) (nP p) (by unfold nP; omega) h3 hp
    (fun x h0 h1 => ⟨Int.emod_nonneg _ (by omega), Int.emod_lt_of_pos _ (by omega)⟩) _ _ _ (w.heap.size + 1 + 1)
    (fun W => W.cell? ⟨w.heap.size, 0, none⟩ = some (.int .i64 p) ∧ W.cell? ⟨w.heap.size + 1, 0, none⟩ = some (.int .i64 g))
    (fun W o v hP ho => ⟨by rw [frame_cell _ _ _ _ _ (by simp; omega)]; exact hP.1, by rw [frame_cell _ _ _ _ _ (by simp)]; exact hP.2⟩)
    (fun W x hP _ h0 h1 => timesP_any g p x W _ _ hP.2 hP.1 h0 h1 hg0 hg h3 hp) callFunc_p _ ?h0 ?h1).mono ?_
  case h0 =>
    have := tab_new ((w.alloc (.cells #[.int .i64 p] 2)).alloc (.cells #[.int .i64 g] 2)) false p (timesP g p) (Tryz.zeroCells193.setIfInBounds 1 (.int .i64 p)) (by rw [← zero_first])
    simpa using this
  case h1 => exact ⟨by simp [go_sem], by simp [go_sem]⟩
  rintro e w' ⟨rfl, hb, hP, ht⟩
  have hsz := hb.size
  have hB := Lib.hid (hb0.trans (hb.mono (by omega)))
  have hlt : w.heap.size + 1 + 1 < w'.heap.size := by simp at hsz; omega
  clear hb hb0 hP hsz
  have HT := Lib.hid ht
  clear ht
  go_wp2_with fail
  go_ret2
  exact ⟨_, rfl, hB.out, by omega, hlt, HT.out⟩
end Go.Proofs.YtdcmebegnekkcaaGreat
/-
  The walk of 'Field.calc': the tables of a field, and whether it is valid.
-/
namespace Go.Proofs.YtdcmebegnekkcaaGreat
open Go.RowKit
set_option linter.unusedVariables false

/-- A valid field of prime size. -/
def ValidP (p pw g : Int) : Prop := pw = 1 ∧ 3 ≤ p ∧ p ≤ 1021 ∧ primeB p = true ∧ 2 ≤ g ∧ g < p ∧ goodB (timesP g p) (nP p) = true ∧ ∀ h : Int, 2 ≤ h → h < g → goodB (timesP h p) (nP p) = false
/-- A valid binary field. -/
def ValidB (p pw g : Int) : Prop := p = 2 ∧ 3 ≤ pw ∧ pw ≤ 8 ∧ ((2 ^ pw.toNat : Nat) : Int) ≤ g ∧ g < 2 * ((2 ^ pw.toNat : Nat) : Int) ∧ goodB (timesB ((2 ^ pw.toNat : Nat) : Int) g) (2 ^ pw.toNat - 1) = true
open Classical in
noncomputable def validB (p pw g : Int) : Bool := decide (ValidP p pw g ∨ ValidB p pw g)
/-- The field that the three numbers stand for. -/
def ffOf (p pw g : Int) : FF := if pw = 1 then ⟨false, p, g⟩ else ⟨true, ((2 ^ pw.toNat : Nat) : Int), g⟩
theorem good_of {T : Int → Int} {N : Nat} (h : goodB T N = true) : Good T N := by unfold goodB at h; simpa using h
theorem ffOf_ok {p pw g : Int} (h : validB p pw g = true) : (ffOf p pw g).ok := by
  unfold validB at h; simp only [decide_eq_true_eq] at h
  rcases h with ⟨h1, h2, h3, h4, h5, h6, h7, _⟩ | ⟨h1, h2, h3, h4, h5, h6⟩
  · unfold ffOf; rw [if_pos h1]
    exact FF.ok.mk h2 h3 (good_of h7) (fun h => by cases h) (fun _ => ⟨by show 1 ≤ g; omega, h6⟩)
  · unfold ffOf; rw [if_neg (by omega)]
    have hp : 2 ^ 3 ≤ 2 ^ pw.toNat := Nat.pow_le_pow_right (by omega) (by omega)
    have hp2 : 2 ^ pw.toNat ≤ 2 ^ 8 := Nat.pow_le_pow_right (by omega) (by omega)
    refine ⟨by show (3 : Int) ≤ ((2 ^ pw.toNat : Nat) : Int); omega, by show ((2 ^ pw.toNat : Nat) : Int) ≤ 1021; omega, ?_, fun _ => ⟨pw.toNat, by omega, by omega, rfl, h4, h5⟩, fun h => by cases h⟩
    have := good_of h6
    have e : (((2 ^ pw.toNat : Nat) : Int) - 1).toNat = 2 ^ pw.toNat - 1 := by omega
    show Good (timesB _ _) (((2 ^ pw.toNat : Nat) : Int) - 1).toNat
    rw [e]; exact this
theorem logA_eq {F : FF} (h : F.ok) : ∀ k, k ≤ F.N → ∀ n, n < k → logA F.times k (F.exp n) = n := by
  intro k
  induction k with
  | zero => intro _ n hn; omega
  | succ k ih =>
    intro hk n hn
    unfold logA
    by_cases e : F.exp n = orb F.times k
    · rw [if_pos e]
      have := FF.exp_inj h n k (by omega) (by omega) e
      rw [this]
    · rw [if_neg e]
      exact ih (by omega) n (by
        have : n ≠ k := fun x => e (by rw [x]; rfl)
        omega)
theorem cal_of_tab {F : FF} (h : F.ok) {w : World} {b : Nat} (hb : b < w.heap.size) (t : Tab w b F.bin F.size F.times F.N) : Cal w b F := by
  obtain ⟨cur, hbk, hs, h0, h1, h2, h3⟩ := t.blk
  have hcell : ∀ o, w.cell? ⟨b, o, none⟩ = cur[o]? := fun o => by unfold World.cell?; rw [hbk]; rfl
  refine ⟨h, hb, by rw [hcell]; exact h0, by rw [hcell]; exact h1, fun n hn => by rw [hcell]; exact h2 n hn, fun a ha ha0 => ?_⟩
  rw [hcell]
  have hhi := h.hi
  have := h3 a.toNat (by have := ha.1; have := ha.2; omega)
  rw [this]
  have e : ((a.toNat : Nat) : Int) = a := Int.toNat_of_nonneg ha.1
  rw [e]
  obtain ⟨n, hn, rfl⟩ := FF.exp_onto h ha ha0
  rw [logA_eq h _ (Nat.le_refl _) n hn, FF.log_exp h n hn]
/-- What 'calc' leaves. -/
def CalcPost (p pw g : Int) (w : World) (e : Ending) (w' : World) : Prop :=
  ∃ v, e = .returned (.tuple #[v, .bool (validB p pw g)]) ∧ Below w.heap.size w w' ∧ (validB p pw g = true → ∃ b, v = .pointer (some ⟨b, 0, none⟩) ∧ w.heap.size ≤ b ∧ Cal w' b (ffOf p pw g))
theorem validB_not {p pw g : Int} (h1 : ¬ ValidP p pw g) (h2 : ¬ ValidB p pw g) : validB p pw g = false := by
  unfold validB; simp [h1, h2]
theorem CalcPost.no {p pw g : Int} {w w' : World} {v : Value} (h : validB p pw g = false) (hb : Below w.heap.size w w') : CalcPost p pw g w (.returned (.tuple #[v, .bool false])) w' :=
  ⟨v, by rw [h], hb, fun hh => by rw [h] at hh; cases hh⟩
theorem calc_none (p pw g : Int) (w : World) (h1 : ¬ (pw = 1 ∧ 3 ≤ p ∧ p ≤ 1021 ∧ primeB p = true)) (h2 : ¬ (p = 2 ∧ 3 ≤ pw ∧ pw ≤ 8 ∧ ((2 ^ pw.toNat : Nat) : Int) ≤ g ∧ g < 2 * ((2 ^ pw.toNat : Nat) : Int))) :
    Calls Tryz.prog 106 #[.agg #[.int .i64 p, .int .i64 pw, .int .i64 g]] w (CalcPost p pw g w) := by
  have hv := Lib.hid (validB_not (fun h => h1 ⟨h.1, h.2.1, h.2.2.1, h.2.2.2.1⟩) (fun h => h2 ⟨h.1, h.2.1, h.2.2.1, h.2.2.2.1, h.2.2.2.2.1⟩))
  have hpost : ∀ v w', Below w.heap.size w w' → CalcPost p pw g w (.returned (.tuple #[v, .bool false])) w' := fun v w' hb => CalcPost.no hv.out hb
  have HP := Lib.hid hpost
  clear hpost
  by_cases hpw : pw = 1
  · have hpw' : (pw == 1) = true := by simp [hpw]
    by_cases hin : 3 ≤ p ∧ p ≤ 1021
    · have hpr : primeB p = false := by
        cases h : primeB p
        · rfl
        · exact absurd ⟨hpw, hin.1, hin.2, h⟩ h1
      have hin' := inR_true hin.1 hin.2
      have hp2 : (p == 2) = false := by simp; omega
      clear h1 h2 hpw
      go_enter Tryz.func106, Tryz.ntmps106
      go_wp2_with fail
      refine (inRange_any _ _ _ _).mono ?_
      rintro e w' ⟨rfl, rfl⟩
      go_wp2_with fail
      refine (isPrime_any p (by omega) _).mono ?_
      rintro e w' ⟨rfl, rfl⟩
      go_wp2_with fail
      go_ret2
      exact HP.out _ _ ((Below.refl _ _).alloc (Nat.le_refl _) _)
    · have hin' : inR p 3 1021 = false := inR_false hin
      have hin2 : inR pw 3 8 = false := inR_lo (by omega)
      by_cases hp2 : p = 2
      · have hp2' : (p == 2) = true := by simp [hp2]
        clear h1 h2 hpw hp2
        go_enter Tryz.func106, Tryz.ntmps106
        go_wp2_with fail
        refine (inRange_any _ _ _ _).mono ?_
        rintro e w' ⟨rfl, rfl⟩
        go_wp2_with fail
        refine (inRange_any _ _ _ _).mono ?_
        rintro e w' ⟨rfl, rfl⟩
        go_wp2_with fail
        go_ret2
        exact HP.out _ _ ((Below.refl _ _).alloc (Nat.le_refl _) _)
      · have hp2' : (p == 2) = false := by simp [hp2]
        clear h1 h2 hpw hp2
        go_enter Tryz.func106, Tryz.ntmps106
        go_wp2_with fail
        refine (inRange_any _ _ _ _).mono ?_
        rintro e w' ⟨rfl, rfl⟩
        go_wp2_with fail
        go_ret2
        exact HP.out _ _ ((Below.refl _ _).alloc (Nat.le_refl _) _)
  · have hpw' : (pw == 1) = false := by simp [hpw]
    by_cases hp2 : p = 2
    · have hp2' : (p == 2) = true := by simp [hp2]
      by_cases hin : 3 ≤ pw ∧ pw ≤ 8
      · have hin' := inR_true hin.1 hin.2
        have hq : (g / 2 ^ pw.toNat == 1) = false := by
          simp only [beq_eq_false_iff_ne]
          intro hq
          apply h2
          have h0 : (0 : Int) < 2 ^ pw.toNat := Int.pow_pos (by omega)
          have e : ((2 ^ pw.toNat : Nat) : Int) = (2 : Int) ^ pw.toNat := by simp
          rw [e]
          refine ⟨hp2, hin.1, hin.2, ?_, ?_⟩
          · have := (Int.le_ediv_iff_mul_le h0).1 (show (1 : Int) ≤ g / 2 ^ pw.toNat by omega); omega
          · have := (Int.ediv_lt_iff_lt_mul h0).1 (show g / 2 ^ pw.toNat < 2 by omega); omega
        have hb0 : 0 ≤ pw := by omega
        have hb1 : pw ≤ 64 := by omega
        clear h1 h2 hpw hp2
        go_enter Tryz.func106, Tryz.ntmps106
        go_wp2_with fail
        refine (inRange_any _ _ _ _).mono ?_
        rintro e w' ⟨rfl, rfl⟩
        go_wp2_with fail
        go_ret2
        exact HP.out _ _ ((Below.refl _ _).alloc (Nat.le_refl _) _)
      · have hin' : inR pw 3 8 = false := inR_false hin
        clear h1 h2 hpw hp2
        go_enter Tryz.func106, Tryz.ntmps106
        go_wp2_with fail
        refine (inRange_any _ _ _ _).mono ?_
        rintro e w' ⟨rfl, rfl⟩
        go_wp2_with fail
        go_ret2
        exact HP.out _ _ ((Below.refl _ _).alloc (Nat.le_refl _) _)
    · have hp2' : (p == 2) = false := by simp [hp2]
      clear h1 h2 hpw hp2
      go_enter Tryz.func106, Tryz.ntmps106
      go_wp2_with fail
      go_ret2
      exact HP.out _ _ ((Below.refl _ _).alloc (Nat.le_refl _) _)

set_option maxHeartbeats 400000 in
set_option maxRecDepth 100000 in
theorem calc_bin (pw g : Int) (w : World) (h3 : 3 ≤ pw) (h8 : pw ≤ 8) (hg1 : ((2 ^ pw.toNat : Nat) : Int) ≤ g) (hg2 : g < 2 * ((2 ^ pw.toNat : Nat) : Int)) :
    Calls Tryz.prog 106 #[.agg #[.int .i64 2, .int .i64 pw, .int .i64 g]] w (CalcPost 2 pw g w) := by
  obtain ⟨sz, hsz⟩ : ∃ sz : Int, sz = ((2 ^ pw.toNat : Nat) : Int) := ⟨_, rfl⟩
  have e : ((2 ^ pw.toNat : Nat) : Int) = (2 : Int) ^ pw.toNat := by simp
  have hq : (g / 2 ^ pw.toNat == 1) = true := by
    simp only [beq_iff_eq]
    have h0 : (0 : Int) < 2 ^ pw.toNat := Int.pow_pos (by omega)
    rw [e] at hg1 hg2
    have h1 := (Int.le_ediv_iff_mul_le h0).2 (show (1 : Int) * 2 ^ pw.toNat ≤ g by omega)
    have h2 := (Int.ediv_lt_iff_lt_mul h0).2 (show g < 2 * 2 ^ pw.toNat by omega)
    omega
  have hlo : 2 ^ 3 ≤ 2 ^ pw.toNat := Nat.pow_le_pow_right (by omega) (by omega)
  have hhi : 2 ^ pw.toNat ≤ 2 ^ 8 := Nat.pow_le_pow_right (by omega) (by omega)
  have hsz1 : 8 ≤ sz ∧ sz ≤ 256 := by omega
  have hpw' : (pw == 1) = false := by simp; omega
  have hin' := inR_true h3 h8
  have hb0 : 0 ≤ pw := by omega
  have hb1 : pw ≤ 64 := by omega
  have hshl : wrap64 ((2 : Int) ^ pw.toNat) = sz := by
    rw [← e, ← hsz]; exact IntWalk.wrap64_in _ (by omega)
  have HSZ := Lib.hid hsz
  rw [← hsz] at hg1 hg2
  clear hlo hhi e hsz
  go_enter Tryz.func106, Tryz.ntmps106
  go_wp2_with fail
  refine (inRange_any _ _ _ _).mono ?_
  rintro e w' ⟨rfl, rfl⟩
  go_wp2_with fail
  have hb0 : Below w.heap.size w (((w.alloc (.cells #[.int .i64 2, .int .i64 pw, .int .i64 g] 88)).alloc (.cells ((Tryz.zeroCells193.setIfInBounds 0 (.bool true)).setIfInBounds 1 (.int .i64 sz)) 193)).alloc (.cells #[.pointer (some ⟨w.heap.size + 1, 0, none⟩)] 186)) :=
    (((Below.refl _ _).alloc (Nat.le_refl _) _).alloc (by simp) _).alloc (by simp; omega) _
  refine (fill_any true sz (timesB sz g) (nP sz) (by unfold nP; omega) (by omega) (by omega)
    (fun x h0 h1 => by
      have := timesB_range pw.toNat g x (by rw [← HSZ.out]; exact hg1) (by rw [← HSZ.out]; exact hg2) h0 (by rw [← HSZ.out]; exact h1)
      rw [← HSZ.out] at this; exact this) _ _ _ (w.heap.size + 1)
    (fun W => W.cell? ⟨w.heap.size + 1 + 1, 0, none⟩ = some (.pointer (some ⟨w.heap.size + 1, 0, none⟩)) ∧ W.cell? ⟨w.heap.size, 2, none⟩ = some (.int .i64 g))
    (fun W o v hP ho => ⟨by rw [frame_cell _ _ _ _ _ (by simp)]; exact hP.1, by rw [frame_cell _ _ _ _ _ (by simp)]; exact hP.2⟩)
    (fun W x hP hs h0 h1 => timesB_any pw.toNat (by omega) sz g x HSZ.out W _ _ _ hP.1 hs hP.2 h0 h1 hg1 hg2) callFunc_b _ ?h0 ?h1).mono ?_
  case h0 =>
    have := tab_new (w.alloc (.cells #[.int .i64 2, .int .i64 pw, .int .i64 g] 88)) true sz (timesB sz g) _ rfl
    obtain ⟨cur, hb, r⟩ := this.blk
    exact ⟨cur, (Below.heap_alloc _ _ _ (by simp)).trans (by simpa using hb), r⟩
  case h1 => exact ⟨by simp [go_sem], by simp [go_sem]⟩
  rintro e w' ⟨rfl, hb, hP, ht⟩
  have hsz := hb.size
  have hB := Lib.hid (hb0.trans (hb.mono (by omega)))
  have hlt : w.heap.size + 1 < w'.heap.size := by simp at hsz; omega
  have hc1 := hP.1
  have hv : validB 2 pw g = goodB (timesB sz g) (nP sz) := by
    have e2 : 2 ^ pw.toNat - 1 = nP sz := by unfold nP; have := HSZ.out; omega
    cases hh : goodB (timesB sz g) (nP sz)
    · refine validB_not (fun h => by have := h.2.1; omega) (fun h => ?_)
      have := h.2.2.2.2.2
      rw [e2, ← HSZ.out, hh] at this
      cases this
    · unfold validB
      simp only [decide_eq_true_eq]
      exact .inr ⟨rfl, h3, h8, by rw [← HSZ.out]; exact hg1, by rw [← HSZ.out]; exact hg2, by rw [e2, ← HSZ.out]; exact hh⟩
  have hff : ffOf 2 pw g = ⟨true, sz, g⟩ := by unfold ffOf; rw [if_neg (by omega), ← HSZ.out]
  have hfin : CalcPost 2 pw g w (.returned (.tuple #[.pointer (some ⟨w.heap.size + 1, 0, none⟩), .bool (goodB (timesB sz g) (nP sz))])) w' := by
    refine ⟨_, by rw [hv], hB.out, fun hh => ⟨_, rfl, by omega, ?_⟩⟩
    have hok := ffOf_ok hh
    rw [hff] at hok ⊢
    rw [hv] at hh
    exact cal_of_tab hok hlt (ht hh)
  have HF := Lib.hid hfin
  clear hb hb0 hP hsz ht hv hff hfin
  go_wp2_with fail
  go_ret2
  exact HF.out

/-- No generator below h. -/
def NoGen (p h : Int) : Prop := ∀ x : Int, 2 ≤ x → x < h → goodB (timesP x p) (nP p) = false
theorem NoGen.next {p h : Int} (a : NoGen p h) (b : goodB (timesP h p) (nP p) = false) : NoGen p (h + 1) := fun x h1 h2 => by
  by_cases e : x = h
  · rw [e]; exact b
  · exact a x h1 (by omega)
theorem valid_found {p g h : Int} (h3 : 3 ≤ p) (hp : p ≤ 1021) (hpr : primeB p = true) (hh : 2 ≤ h) (hhp : h < p) (hn : NoGen p h) (hg : goodB (timesP h p) (nP p) = true) : validB p 1 g = (h == g) := by
  by_cases e : h = g
  · subst e
    have hv : validB p 1 h = true := by
      unfold validB; simp only [decide_eq_true_eq]
      exact .inl ⟨rfl, h3, hp, hpr, hh, hhp, hg, hn⟩
    rw [hv]; simp
  · have : (h == g) = false := by simp [e]
    rw [this]
    refine validB_not (fun v => ?_) (fun v => by have := v.2.1; omega)
    obtain ⟨_, _, _, _, h5, h6, h7, h8⟩ := v
    rcases Int.lt_trichotomy h g with hl | hl | hl
    · rw [h8 h hh hl] at hg; cases hg
    · exact e hl
    · rw [hn g h5 hl] at h7; cases h7
theorem valid_none {p g h : Int} (hhp : p ≤ h) (hn : NoGen p h) : validB p 1 g = false :=
  validB_not (fun v => by
    obtain ⟨_, _, _, _, h5, h6, h7, h8⟩ := v
    rw [hn g h5 (by omega)] at h7; cases h7) (fun v => by have := v.2.1; omega)
set_option maxHeartbeats 1000000 in
set_option maxRecDepth 100000 in
theorem calc_prime (p g : Int) (w : World) (h3 : 3 ≤ p) (hp : p ≤ 1021) (hpr : primeB p = true) :
    Calls Tryz.prog 106 #[.agg #[.int .i64 p, .int .i64 1, .int .i64 g]] w (CalcPost p 1 g w) := by
  have hin' := inR_true h3 hp
  have HPR := Lib.hid hpr
  have hp2 : (p == 2) = false := by simp; omega
  go_enter Tryz.func106, Tryz.ntmps106
  go_wp2_with fail
  refine (inRange_any _ _ _ _).mono ?_
  rintro e w' ⟨rfl, rfl⟩
  go_wp2_with fail
  refine (isPrime_any p (by omega) _).mono ?_
  rintro e w' ⟨rfl, rfl⟩
  go_wp2_with fail
  clear hpr
  go_loopw [4] (fun t wr => ∃ h : Int, 2 ≤ h ∧ h ≤ p ∧ NoGen p h ∧ t = .int .i64 h ∧ Below (w.heap.size + 1) (w.alloc (.cells #[.int .i64 p, .int .i64 1, .int .i64 g] 88)) wr) (fun t _ => (p - intOf t).toNat)
  case atStart => exact ⟨2, by omega, by omega, fun x h1 h2 => by omega, rfl, Below.refl _ _⟩
  case round =>
    obtain ⟨h, h1, h2, hng, rfl, hbel⟩ := hrel
    have hc0 : wr.cell? ⟨w.heap.size, 0, none⟩ = some (.int .i64 p) := by rw [hbel.cell (p := ⟨w.heap.size, 0, none⟩) (by simp)]; simp [go_sem]
    have hc2 : wr.cell? ⟨w.heap.size, 2, none⟩ = some (.int .i64 g) := by rw [hbel.cell (p := ⟨w.heap.size, 2, none⟩) (by simp)]; simp [go_sem]
    have hsz : w.heap.size + 1 ≤ wr.heap.size := by have := hbel.size; simpa using this
    have hbw : Below w.heap.size w (w.alloc (.cells #[.int .i64 p, .int .i64 1, .int .i64 g] 88)) := (Below.refl _ _).alloc (Nat.le_refl _) _
    have HBW := Lib.hid (hbw.trans (hbel.mono (by omega)))
    have HB := Lib.hid hbel
    have HNG := Lib.hid hng
    clear hbel hng hbw
    by_cases hlt : h < p
    · go_wp2_with fail
      refine (primePowers_any p h _ h3 hp (by omega) (by omega)).mono ?_
      rintro e w1 ⟨b, rfl, hb1, hb2, hb3, ht⟩
      have hd0 : w1.cell? ⟨w.heap.size, 0, none⟩ = some (.int .i64 p) := by rw [hb1.cell (p := ⟨w.heap.size, 0, none⟩) (by simp; omega)]; exact hc0
      have hd2 : w1.cell? ⟨w.heap.size, 2, none⟩ = some (.int .i64 g) := by rw [hb1.cell (p := ⟨w.heap.size, 2, none⟩) (by simp; omega)]; exact hc2
      have HT := Lib.hid ht
      have HB1 := Lib.hid hb1
      clear ht hb1
      cases hgd : goodB (timesP h p) (nP p)
      · have hn2 := Lib.hid (HNG.out.next hgd)
        have hbb := Lib.hid (HB.out.trans (HB1.out.mono hsz))
        clear HT
        go_wp2_with fail
        go_roundw
        case rel => exact ⟨h + 1, by omega, by omega, hn2.out, rfl, hbb.out⟩
        case measure => simp [intOf]; omega
      · have hval := valid_found (g := g) h3 hp HPR.out h1 hlt HNG.out hgd
        have hbb := HBW.out.trans (HB1.out.mono (by omega))
        have hff : ffOf p 1 g = ⟨false, p, g⟩ := by unfold ffOf; rw [if_pos rfl]
        have hfin : ∀ n, CalcPost p 1 g w (.returned (.tuple #[.pointer (some ⟨b, 0, none⟩), .bool (h == g)])) (w1.drewN n) := fun n => by
          refine ⟨_, by rw [hval], below_drewN hbb n, fun hh => ⟨_, rfl, by omega, ?_⟩⟩
          have hok := ffOf_ok hh
          rw [hff] at hok ⊢
          rw [hval] at hh
          simp at hh
          subst hh
          refine cal_of_tab hok (by simpa using hb3) ?_
          obtain ⟨cur, hbk, r⟩ := (HT.out hgd).blk
          exact ⟨cur, hbk, r⟩
        have HF := Lib.hid hfin
        clear hfin hval hff hbb
        go_wp2_with fail
        go_quiet (fail)
        go_wp2_with fail
        go_ret2
        exact HF.out _
    · have hv := valid_none (g := g) (show p ≤ h by omega) HNG.out
      have HF := Lib.hid (CalcPost.no (v := .pointer none) hv HBW.out)
      clear hv
      go_wp2_with fail
      go_ret2
      exact HF.out
theorem calc_any (p pw g : Int) (w : World) :
    Calls Tryz.prog 106 #[.agg #[.int .i64 p, .int .i64 pw, .int .i64 g]] w (CalcPost p pw g w) := by
  by_cases h1 : pw = 1 ∧ 3 ≤ p ∧ p ≤ 1021 ∧ primeB p = true
  · obtain ⟨rfl, h3, hp, hpr⟩ := h1
    exact calc_prime p g w h3 hp hpr
  · by_cases h2 : p = 2 ∧ 3 ≤ pw ∧ pw ≤ 8 ∧ ((2 ^ pw.toNat : Nat) : Int) ≤ g ∧ g < 2 * ((2 ^ pw.toNat : Nat) : Int)
    · obtain ⟨rfl, a, b, c, d⟩ := h2
      exact calc_bin pw g w a b c d
    · exact calc_none p pw g w h1 h2
end Go.Proofs.YtdcmebegnekkcaaGreat
