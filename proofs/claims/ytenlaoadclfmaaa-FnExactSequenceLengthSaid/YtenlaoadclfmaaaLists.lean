/-
  Lists of numbers as polynomials over one of the program's fields. Plain mathematics.
-/
import Derived.Test.YtenlaoadclfmaaaMul
import Derived.Test.YtenlaoadclfmaaaPoly
namespace Go.Proofs.Ytenlaoadclfmaaa

/-- A valid field. -/
structure VF where
  F : FF
  ok : F.ok
/-- Its elements. -/
structure El (V : VF) where
  val : Int
  el : V.F.el val
theorem El.ext' {V : VF} {a b : El V} (h : a.val = b.val) : a = b := by cases a; cases b; cases h; rfl
namespace VF
variable (V : VF)
def core : RingCore (El V) where
  zero := ⟨0, FF.zero_el V.ok⟩
  one := ⟨1, FF.one_el V.ok⟩
  add a b := ⟨V.F.add a.val b.val, FF.add_el V.ok a.el b.el⟩
  mul a b := ⟨V.F.mul a.val b.val, FF.mul_el V.ok _ _⟩
  neg a := ⟨V.F.neg a.val, FF.neg_el a.el⟩
  add_zero a := El.ext' (FF.add_zero' a.el)
  add_comm _ _ := El.ext' (FF.add_comm' _ _)
  add_assoc _ _ _ := El.ext' (FF.add_assoc' _ _ _)
  neg_add a := El.ext' (FF.neg_add' a.el)
  mul_comm _ _ := El.ext' (FF.mul_comm' _ _)
  mul_assoc a b c := El.ext' (FF.mul_assoc' V.ok a.el b.el c.el)
  mul_one a := El.ext' (FF.mul_one' V.ok a.el)
  left_distrib a b c := El.ext' (FF.mul_add' V.ok a.el b.el c.el)
instance : CR (El V) := (core V).toCR
theorem zero_val : (0 : El V).val = 0 := rfl
theorem one_val : (1 : El V).val = 1 := by
  have : (1 : El V) = (0 : El V) + (core V).one := rfl
  rw [this]
  have e : (0 : El V) + (core V).one = (core V).one := by grind
  rw [e]; rfl
theorem add_val (a b : El V) : (a + b).val = V.F.add a.val b.val := rfl
theorem mul_val (a b : El V) : (a * b).val = V.F.mul a.val b.val := rfl
theorem neg_val (a : El V) : (-a).val = V.F.neg a.val := rfl
instance : Fld (El V) where
  one_ne h := by
    have : (1 : El V).val = (0 : El V).val := by rw [h]
    rw [one_val, zero_val] at this; omega
  inv a ha := by
    refine ⟨⟨V.F.inv a.val, FF.inv_el V.ok _⟩, El.ext' ?_⟩
    have h0 : a.val ≠ 0 := fun h => ha (El.ext' (by rw [h, zero_val]))
    rw [mul_val, one_val]
    exact FF.mul_inv' V.ok a.el h0
open Classical in
/-- A number as an element. -/
noncomputable def of (a : Int) : El V := if h : V.F.el a then ⟨a, h⟩ else 0
variable {V}
theorem of_val {a : Int} (h : V.F.el a) : (of V a).val = a := by unfold of; rw [dif_pos h]
theorem val_of (a : El V) : of V a.val = a := El.ext' (of_val a.el)
theorem of_inj {a b : Int} (ha : V.F.el a) (hb : V.F.el b) (h : of V a = of V b) : a = b := by
  rw [← of_val ha, ← of_val hb, h]
theorem of_zero : of V 0 = 0 := El.ext' (by rw [of_val (FF.zero_el V.ok)]; rfl)
theorem of_one : of V 1 = 1 := El.ext' (by rw [of_val (FF.one_el V.ok), one_val])
theorem of_add {a b : Int} (ha : V.F.el a) (hb : V.F.el b) : of V (V.F.add a b) = of V a + of V b :=
  El.ext' (by rw [of_val (FF.add_el V.ok ha hb), add_val, of_val ha, of_val hb])
theorem of_mul {a b : Int} (ha : V.F.el a) (hb : V.F.el b) : of V (V.F.mul a b) = of V a * of V b :=
  El.ext' (by rw [of_val (FF.mul_el V.ok a b), mul_val, of_val ha, of_val hb])
theorem of_neg {a : Int} (ha : V.F.el a) : of V (V.F.neg a) = - of V a :=
  El.ext' (by rw [of_val (FF.neg_el ha), neg_val, of_val ha])
theorem of_eq_zero {a : Int} (ha : V.F.el a) : of V a = 0 ↔ a = 0 :=
  ⟨fun h => of_inj ha (FF.zero_el V.ok) (h.trans of_zero.symm), fun h => by rw [h, of_zero]⟩
theorem of_inv {a : Int} (ha : V.F.el a) (h0 : a ≠ 0) : of V a * of V (V.F.inv a) = 1 := by
  rw [← of_mul ha (FF.inv_el V.ok a), FF.mul_inv' V.ok ha h0, of_one]
theorem of_pow {a : Int} (ha : V.F.el a) (n : Nat) : of V (V.F.pow a n) = of V a ^ n := by
  induction n with
  | zero => show of V 1 = _; rw [of_one]; grind
  | succ n ih => show of V (V.F.mul _ _) = _; rw [of_mul (FF.pow_el V.ok a n) ha, ih]; grind
/-- Powers of X. -/
abbrev xp (V : VF) (n : Nat) : PS (El V) := (PS.X : PS (El V)) ^ n
/-- All numbers of a list are elements. -/
def els (V : VF) (l : List Int) : Prop := ∀ z ∈ l, V.F.el z
/-- A list as a polynomial. -/
noncomputable def ps (V : VF) (l : List Int) : PS (El V) := ⟨fun n => of V (l.getD n 0)⟩
theorem els.getD {l : List Int} (h : els V l) (n : Nat) : V.F.el (l.getD n 0) := by
  rw [List.getD_eq_getElem?_getD]
  by_cases hn : n < l.length
  · rw [List.getElem?_eq_getElem hn]; exact h _ (List.getElem_mem hn)
  · rw [List.getElem?_eq_none (by omega)]; exact FF.zero_el V.ok
theorem els_nil : els V [] := fun _ h => by cases h
theorem els_cons {a : Int} {l : List Int} : els V (a :: l) ↔ V.F.el a ∧ els V l := by simp [els]
theorem els_append {l m : List Int} : els V (l ++ m) ↔ els V l ∧ els V m := by
  simp only [els, List.mem_append]
  exact ⟨fun h => ⟨fun z hz => h z (.inl hz), fun z hz => h z (.inr hz)⟩, fun h z hz => hz.elim (h.1 z) (h.2 z)⟩
theorem els.take {l : List Int} (h : els V l) (n : Nat) : els V (l.take n) := fun z hz => h z (List.mem_of_mem_take hz)
theorem els.drop {l : List Int} (h : els V l) (n : Nat) : els V (l.drop n) := fun z hz => h z (List.mem_of_mem_drop hz)
theorem els.reverse {l : List Int} (h : els V l) : els V l.reverse := fun z hz => h z (List.mem_reverse.1 hz)
theorem els.set {l : List Int} (h : els V l) (n : Nat) {a : Int} (ha : V.F.el a) : els V (l.set n a) := fun z hz => by
  rcases List.mem_or_eq_of_mem_set hz with h1 | h1
  · exact h z h1
  · rw [h1]; exact ha
theorem els_replicate (n : Nat) : els V (List.replicate n 0) := fun z hz => by
  rw [List.eq_of_mem_replicate hz]; exact FF.zero_el V.ok
theorem ps_c (l : List Int) (n : Nat) : (ps V l).c n = of V (l.getD n 0) := rfl
theorem ps_nil : ps V [] = 0 := PS.ext' fun n => by rw [ps_c]; exact of_zero
theorem ps_cons (a : Int) (l : List Int) : ps V (a :: l) = PS.C (of V a) + PS.X * ps V l := PS.ext' fun n => by
  rw [PS.add_c]
  cases n with
  | zero => rw [PS.X_mul_c_zero, PS.C_c_zero]; show of V a = _; grind
  | succ n => rw [PS.X_mul_c_succ, PS.C_c_succ]; show of V (l.getD n 0) = 0 + of V (l.getD n 0); grind
theorem ps_dlt (l : List Int) : (ps V l).dlt l.length := fun i hi => by
  rw [ps_c, List.getD_eq_getElem?_getD, List.getElem?_eq_none hi]; exact of_zero
theorem ps_poly (l : List Int) : (ps V l).IsPoly := ⟨_, ps_dlt l⟩
theorem ps_append (l m : List Int) : ps V (l ++ m) = ps V l + (xp V l.length) * ps V m := by
  induction l with
  | nil => rw [List.nil_append, ps_nil]; simp only [List.length_nil]; grind
  | cons a l ih => rw [List.cons_append, ps_cons, ps_cons, ih, List.length_cons]; grind
theorem ps_single (a : Int) : ps V [a] = PS.C (of V a) := by rw [ps_cons, ps_nil]; grind
theorem ps_snoc (l : List Int) (a : Int) : ps V (l ++ [a]) = ps V l + (xp V l.length) * PS.C (of V a) := by rw [ps_append, ps_single]
theorem take_succ_getD (l : List Int) (k : Nat) (hk : k < l.length) : l.take (k + 1) = l.take k ++ [l.getD k 0] := by
  rw [List.take_succ_eq_append_getElem hk, List.getD_eq_getElem?_getD, List.getElem?_eq_getElem hk]; rfl
theorem drop_getD (l : List Int) (k : Nat) (hk : k < l.length) : l.drop k = l.getD k 0 :: l.drop (k + 1) := by
  rw [List.drop_eq_getElem_cons hk, List.getD_eq_getElem?_getD, List.getElem?_eq_getElem hk]; rfl
theorem ps_take_succ (l : List Int) (k : Nat) (hk : k < l.length) : ps V (l.take (k + 1)) = ps V (l.take k) + (xp V k) * PS.C (of V (l.getD k 0)) := by
  rw [take_succ_getD l k hk, ps_snoc, List.length_take, Nat.min_eq_left (by omega)]
theorem ps_drop (l : List Int) (k : Nat) (hk : k < l.length) : ps V (l.drop k) = PS.C (of V (l.getD k 0)) + PS.X * ps V (l.drop (k + 1)) := by
  rw [drop_getD l k hk, ps_cons]
theorem X_pow_mul_c {K : Type} [CR K] (n : Nat) : ∀ (f : PS K) (i : Nat), ((PS.X : PS K) ^ n * f).c i = if n ≤ i then f.c (i - n) else 0 := by
  induction n with
  | zero => intro f i; have : (PS.X : PS K) ^ 0 * f = f := by grind
            rw [this]; simp
  | succ n ih =>
    intro f i
    have : (PS.X : PS K) ^ (n + 1) * f = PS.X * ((PS.X : PS K) ^ n * f) := by grind
    rw [this]
    cases i with
    | zero => rw [PS.X_mul_c_zero, if_neg (by omega)]
    | succ i => rw [PS.X_mul_c_succ, ih]; simp
theorem ps_set (l : List Int) (j : Nat) (hj : j < l.length) (v : Int) : ps V (l.set j v) = ps V l + (xp V j) * PS.C (of V v - of V (l.getD j 0)) := PS.ext' fun n => by
  rw [PS.add_c, X_pow_mul_c, ps_c, ps_c]
  by_cases h : j ≤ n
  · rw [if_pos h]
    by_cases e : n = j
    · subst e
      rw [Nat.sub_self, PS.C_c_zero, List.getD_eq_getElem?_getD, List.getElem?_set_self hj]
      show of V v = _; grind
    · obtain ⟨i, hi⟩ : ∃ i, n - j = i + 1 := ⟨n - j - 1, by omega⟩
      rw [hi, PS.C_c_succ, List.getD_eq_getElem?_getD, List.getElem?_set_ne (by omega), ← List.getD_eq_getElem?_getD]; grind
  · rw [if_neg h, List.getD_eq_getElem?_getD, List.getElem?_set_ne (by omega), ← List.getD_eq_getElem?_getD]; grind
theorem ps_set_add {l : List Int} (hl : els V l) (j : Nat) (hj : j < l.length) {v : Int} (hv : V.F.el v) : ps V (l.set j (V.F.add (l.getD j 0) v)) = ps V l + (xp V j) * PS.C (of V v) := by
  rw [ps_set l j hj, of_add (hl.getD j) hv]
  congr 3; grind
theorem ps_replicate (n : Nat) : ps V (List.replicate n 0) = 0 := PS.ext' fun i => by
  rw [ps_c, List.getD_eq_getElem?_getD, List.getElem?_replicate]
  by_cases h : i < n
  · rw [if_pos h]; exact of_zero
  · rw [if_neg h]; exact of_zero
theorem ps_inj {l m : List Int} (hl : els V l) (hm : els V m) (hn : l.length = m.length) (h : ps V l = ps V m) : l = m := by
  apply List.ext_getElem hn
  intro i h1 h2
  have : (ps V l).c i = (ps V m).c i := by rw [h]
  rw [ps_c, ps_c] at this
  have e := of_inj (hl.getD i) (hm.getD i) this
  rw [List.getD_eq_getElem?_getD, List.getD_eq_getElem?_getD, List.getElem?_eq_getElem h1, List.getElem?_eq_getElem h2] at e
  exact e
/-- No zero at the end. -/
def tight (l : List Int) : Prop := 0 < l.length → l.getD (l.length - 1) 0 ≠ 0
/-- A polynomial of the program's: elements, no zero at the end. -/
structure isP (V : VF) (l : List Int) : Prop where
  els : els V l
  tight : tight l
theorem isP_nil : isP V [] := ⟨els_nil, fun h => by simp at h⟩
theorem isP.top {l : List Int} (h : isP V l) (hn : 0 < l.length) : (ps V l).c (l.length - 1) ≠ 0 := fun e =>
  h.tight hn ((of_eq_zero (h.els.getD _)).1 e)
theorem isP.len_le {l : List Int} (h : isP V l) {n : Nat} (hd : (ps V l).dlt n) : l.length ≤ n := by
  apply Nat.le_of_not_lt
  intro hn
  exact h.top (by omega) (hd _ (by omega))
theorem isP.len_eq {l : List Int} (h : isP V l) {n : Nat} (hd : (ps V l).dlt (n + 1)) (hn : (ps V l).c n ≠ 0) : l.length = n + 1 := by
  have := h.len_le hd
  apply Nat.le_antisymm this
  apply Nat.le_of_not_lt
  intro hlt
  exact hn (ps_dlt l n (by omega))
theorem isP_inj {l m : List Int} (hl : isP V l) (hm : isP V m) (h : ps V l = ps V m) : l = m := by
  refine ps_inj hl.els hm.els ?_ h
  have h1 := hl.len_le (n := m.length) (by rw [h]; exact ps_dlt m)
  have h2 := hm.len_le (n := l.length) (by rw [← h]; exact ps_dlt l)
  omega
theorem isP.eq_nil {l : List Int} (h : isP V l) (h0 : ps V l = 0) : l = [] := isP_inj h isP_nil (h0.trans ps_nil.symm)
theorem isP.ne_zero {l : List Int} (h : isP V l) (h0 : l ≠ []) : ps V l ≠ 0 := fun e => h0 (h.eq_nil e)
/-- Where a list ends without its last zeros, looked at from n on downward. -/
def tlen (l : List Int) : Nat → Nat
  | 0 => 0
  | n + 1 => if l.getD n 0 = 0 then tlen l n else n + 1
def trim (l : List Int) : List Int := l.take (tlen l l.length)
theorem tlen_le (l : List Int) (n : Nat) : tlen l n ≤ n := by
  induction n with
  | zero => exact Nat.le_refl _
  | succ n ih => unfold tlen; split <;> omega
theorem tlen_zero (l : List Int) (n i : Nat) (h : tlen l n ≤ i) (hi : i < n) : l.getD i 0 = 0 := by
  induction n with
  | zero => omega
  | succ n ih =>
    unfold tlen at h
    split at h
    · rename_i h0
      by_cases e : i = n
      · rw [e, h0]
      · exact ih h (by omega)
    · omega
theorem tlen_top (l : List Int) (n : Nat) (h : 0 < tlen l n) : l.getD (tlen l n - 1) 0 ≠ 0 := by
  induction n with
  | zero => simp [tlen] at h
  | succ n ih =>
    unfold tlen at h ⊢
    split
    · rename_i h0; rw [if_pos h0] at h; exact ih h
    · rename_i h0; simpa using h0
theorem trim_length (l : List Int) : (trim l).length = tlen l l.length := by
  unfold trim; rw [List.length_take, Nat.min_eq_left (tlen_le _ _)]
theorem getD_take (l : List Int) (n i : Nat) : (l.take n).getD i 0 = if i < n then l.getD i 0 else 0 := by
  rw [List.getD_eq_getElem?_getD, List.getElem?_take]
  split
  · rw [List.getD_eq_getElem?_getD]
  · rfl
theorem trim_getD (l : List Int) (i : Nat) : (trim l).getD i 0 = l.getD i 0 := by
  unfold trim; rw [getD_take]
  split
  · rfl
  · rename_i h
    by_cases hi : i < l.length
    · exact (tlen_zero l _ i (by omega) hi).symm
    · rw [List.getD_eq_getElem?_getD, List.getElem?_eq_none (by omega)]; rfl
theorem ps_trim (l : List Int) : ps V (trim l) = ps V l := PS.ext' fun n => by rw [ps_c, ps_c, trim_getD]
theorem isP_trim {l : List Int} (h : els V l) : isP V (trim l) := by
  refine ⟨h.take _, fun h0 => ?_⟩
  rw [trim_getD, trim_length]
  rw [trim_length] at h0
  exact tlen_top l _ h0
/-- The value of a list at an element, as the program reckons it. -/
noncomputable def evl (V : VF) (l : List Int) (x : Int) : El V := PS.ev (ps V l) (of V x)
theorem evl_nil (x : Int) : evl V [] x = 0 := by unfold evl; rw [ps_nil, PS.ev_zero]
theorem evl_cons (a : Int) (l : List Int) (x : Int) : evl V (a :: l) x = of V a + of V x * evl V l x := by
  unfold evl
  rw [ps_cons, PS.ev_add (PS.isPoly_C _) (PS.isPoly_X.mul (ps_poly l)), PS.ev_C, PS.ev_X_mul (ps_poly l)]
/-- Horner's sum, from the end: the value of the list from k on. -/
theorem horner {l : List Int} (hl : els V l) {x n : Int} (hx : V.F.el x) (hn : V.F.el n) (k : Nat) (hk : k < l.length) (h : of V n = evl V (l.drop (k + 1)) x) :
    V.F.el (V.F.add (V.F.mul n x) (l.getD k 0)) ∧ of V (V.F.add (V.F.mul n x) (l.getD k 0)) = evl V (l.drop k) x := by
  refine ⟨FF.add_el V.ok (FF.mul_el V.ok _ _) (hl.getD k), ?_⟩
  rw [of_add (FF.mul_el V.ok _ _) (hl.getD k), of_mul hn hx, h, drop_getD l k hk, evl_cons]; grind
end VF
end Go.Proofs.Ytenlaoadclfmaaa
