/-
  The parts PolyDiv, PolyGcd.
-/
import Derived.Test.YtfhkkpfiflgofaaGens
import Derived.Test.YtfhkkpfiflgofaaOwns
import Derived.Test.YtfhkkpfiflgofaaQuo
/-
  The walks of the two PolyDiv.
-/
namespace Go.Proofs.Ytfhkkpfiflgofaa
open Go.RowKit
set_option linter.unusedVariables false

noncomputable def divC (p pw g : Int) (x y : List Int) : Int := if codeP p pw g [x, y] = 0 then (if y = [] then 5 else 0) else codeP p pw g [x, y]
noncomputable def divQ (p pw g : Int) (x y : List Int) : List Int := if y = [] then [] else onP p pw g [x, y] fun V => (VF.dqr V x y).1
noncomputable def divR (p pw g : Int) (x y : List Int) : List Int := if y = [] then [] else onP p pw g [x, y] fun V => (VF.dqr V x y).2
theorem divC_bad {p pw g : Int} {x y : List Int} (h : ¬ codeP p pw g [x, y] = 0) : divC p pw g x y = codeP p pw g [x, y] ∧ divQ p pw g x y = [] ∧ divR p pw g x y = [] := by
  refine ⟨by unfold divC; rw [if_neg h], ?_, ?_⟩
  · unfold divQ; split
    · rfl
    · exact onP_no h
  · unfold divR; split
    · rfl
    · exact onP_no h
theorem divC_zero {p pw g : Int} {x y : List Int} (h : codeP p pw g [x, y] = 0) (hl : y = []) : divC p pw g x y = 5 ∧ divQ p pw g x y = [] ∧ divR p pw g x y = [] := by
  unfold divC divQ divR; rw [if_pos h, if_pos hl, if_pos hl, if_pos hl]; exact ⟨rfl, rfl, rfl⟩
theorem divC_ok {p pw g : Int} {x y : List Int} (h : codeP p pw g [x, y] = 0) (hl : y ≠ []) : divC p pw g x y = 0 ∧ (divQ p pw g x y = onP p pw g [x, y] fun V => (VF.dqr V x y).1) ∧ divR p pw g x y = onP p pw g [x, y] fun V => (VF.dqr V x y).2 := by
  unfold divC divQ divR; rw [if_pos h, if_neg hl, if_neg hl, if_neg hl]; exact ⟨rfl, rfl, rfl⟩
theorem dqr_len (V : VF) {x y : List Int} (hy : VF.isP V y) : (VF.dqr V x y).1.length ≤ x.length ∧ (VF.dqr V x y).2.length ≤ y.length := by
  by_cases h : ∃ z : List Int × List Int, VF.DivOf V x y z.1 z.2
  · obtain ⟨⟨q, r⟩, h⟩ := h
    have h : VF.DivOf V x y q r := h
    rw [VF.dqr_of hy h]
    refine ⟨?_, Nat.le_of_lt h.len⟩
    show q.length ≤ x.length
    apply Nat.le_of_not_lt
    intro hlt
    have hl := h.len
    have hq := h.hq.top (by omega)
    have hd := hy.top (by omega)
    obtain ⟨m, hm⟩ : ∃ m, y.length = m + 1 := ⟨y.length - 1, by omega⟩
    obtain ⟨k, hk⟩ : ∃ k, q.length = k + 1 := ⟨q.length - 1, by omega⟩
    rw [hk] at hq
    rw [hm] at hd
    have h1 : (VF.ps V q).dlt (k + 1) := by rw [← hk]; exact VF.ps_dlt q
    have h2 : (VF.ps V y).dlt (m + 1) := by rw [← hm]; exact VF.ps_dlt y
    have ht := PS.mul_top h2 k (VF.ps V q) h1
    have e := congrArg (fun f : PS (El V) => f.c (k + m)) h.eq
    simp only [PS.add_c] at e
    rw [ht, VF.ps_dlt x (k + m) (by omega), VF.ps_dlt r (k + m) (by omega)] at e
    exact mul_ne hq hd (by simp only [Nat.add_sub_cancel]; grind)
  · unfold VF.dqr; rw [dif_neg h]; simp
theorem divQ_len (p pw g : Int) (x y : List Int) : (divQ p pw g x y).length ≤ 1048576 := by
  unfold divQ
  split
  · simp
  by_cases h : codeP p pw g [x, y] = 0
  · rw [onP_yes h]
    obtain ⟨⟨h1, _⟩, h2, h3⟩ := two_mem (codeP_isP h)
    have := (dqr_len _ (x := x) h3).1
    omega
  · rw [onP_no h]; simp
theorem divR_len (p pw g : Int) (x y : List Int) : (divR p pw g x y).length ≤ 1048576 := by
  unfold divR
  split
  · simp
  by_cases h : codeP p pw g [x, y] = 0
  · rw [onP_yes h]
    obtain ⟨⟨h1, _⟩, h2, h3⟩ := two_mem (codeP_isP h)
    have := (dqr_len _ (x := x) h3).2
    omega
  · rw [onP_no h]; simp
/-- Two results that share no memory: the second in blocks ahead of the first's. -/
def Res2 (w w' : World) (v v2 : Value) (zs zs2 : List Int) : Prop := ∃ mid a cap a2 cap2, v = .slice a zs.length cap ∧ v2 = .slice a2 zs2.length cap2 ∧ w.heap.size ≤ mid ∧ mid ≤ w'.heap.size ∧ Own w' mid w'.heap.size a zs.length zs ∧ Own w' w.heap.size mid a2 zs2.length zs2
theorem Res2.none (w w' : World) (h : Below w.heap.size w w') : Res2 w w' (.slice none 0 0) (.slice none 0 0) [] [] :=
  ⟨w.heap.size, _, _, _, _, rfl, rfl, Nat.le_refl _, h.size, ⟨OwnAt.nil _ _ _, fun h => by simp at h⟩, ⟨OwnAt.nil _ _ _, fun h => by simp at h⟩⟩
theorem TwoL.res {w W w' : World} {v v2 : Value} {zs zs2 : List Int} (h : TwoL W w' v v2 zs zs2) (hb : w.heap.size ≤ W.heap.size) : Res2 w w' v v2 zs zs2 := by
  obtain ⟨mid, h1, h2, h3, h4⟩ := h
  obtain ⟨a, c, rfl, _, ho⟩ := h1.shape
  obtain ⟨a2, c2, rfl, _, ho2⟩ := h2.shape
  refine ⟨mid, _, _, _, _, rfl, rfl, by omega, h1.1, Own.of ho, ⟨ho2.mono hb, fun hn x hx => ?_⟩⟩
  subst hx
  exact h4 _ rfl
end Go.Proofs.Ytfhkkpfiflgofaa
/-
  The walks of the two PolyGcd.
-/
namespace Go.Proofs.Ytfhkkpfiflgofaa
open Go.RowKit
set_option linter.unusedVariables false

/-- A copy of a whole slice of another type. -/
theorem copy_row2 {w : World} {ops : Array Oper} {rest : List Oper} {o : Oper} {a : Act} {Q : Exit → Act → World → Prop} (hgd : o.guard = none) (s x : Operand) (t t2 : TypeId)
    (ho : o.op = .call { callee := .builtin .append, args := #[s, x], argTypes := #[t, t2] }) (ht : Try.prog.underlying t = some (.slice 2)) (ht2 : Try.prog.underlying t2 = some (.slice 2))
    {B : Nat} {v : Value} (hown : OwnL w B v []) (hs : a.eval s = v) {ad : Option Addr} {m : Nat} {ys : List Int} (c : Nat) (hrow : RowAt w ad m ys) (hx : a.eval x = .slice ad m c) (hc : ad = none → c = 0) (hn : m ≤ 16777216)
    (h : ∀ ao co w', OwnL w' B (.slice ao m co) ys → Below B w w' → m ≤ co → (ao = none → co = 0) → wpList Try.prog ops Q rest (a.put o.dst (.slice ao m co)) w') : wpList Try.prog ops Q (o :: rest) a w := by
  obtain ⟨i0, hi, hz0, hz1, hz2⟩ := info_parts info_int
  obtain ⟨hB, hown⟩ := hown
  have fin : ∀ v' w', OwnL w' B v' ys → Below B w w' → wpList Try.prog ops Q rest (a.put o.dst v') w' := by
    intro v' w' h1 hb
    obtain ⟨ao, co, e, h2, h3, _⟩ := h1.cap
    rw [hrow.len] at e h2
    subst e
    exact h ao co w' h1 hb h2 h3
  cases ad with
  | none =>
    obtain rfl : m = 0 := by
      apply Classical.byContradiction; intro h0
      obtain ⟨b, off, e, _⟩ := hrow.at' (by omega)
      cases e
    rw [hc rfl] at hx
    have hys : ys = [] := List.eq_nil_of_length_eq_zero hrow.len
    subst hys
    refine wpList_plain hgd fun K hK => ?_
    have hrun := run_append_owned_none (P := Try.prog) (w := w) B t o.type 2 i0 1 ht hi v 0 [] (by simpa using hown)
    rw [← append_types t t2 o.type _ _ ht ht2] at hrun
    unfold Oper.wp
    simp [execOp, ho, resolve, invoke, builtin, hs, hx, hrun, Result.andThen]
    exact hK _ _ (fin v w ⟨hB, by simpa using hown⟩ (Below.refl _ _))
  | some ad =>
    refine wpList_plain hgd fun K hK => ?_
    obtain ⟨v', w', hrun, h1, hg, _⟩ := run_append_own (P := Try.prog) w B t o.type 2 i0 (.int .i64 0) 1 8 ht hi hz0 hz1 hz2 rfl (by decide) v 0 [] (by simpa using hown) ad m c (ys.map (Value.int .i64)) (by rw [List.length_map, hrow.len]; omega) (cells_of_row hrow ad rfl)
      (by intro u hu; obtain ⟨y, _, rfl⟩ := List.mem_map.1 hu; rfl) (by unfold maxLen; omega) (by omega) hB
    rw [← append_types t t2 o.type _ _ ht ht2] at hrun
    unfold Oper.wp
    simp [execOp, ho, resolve, invoke, builtin, hs, hx, hrun, Result.andThen]
    refine hK _ _ (fin v' w' ⟨by have := hg.size; omega, ?_⟩ ((Below.refl B w).grown hg hB (fun k hk => (hown.lt k hk).1)))
    rw [hrow.len]; simpa using h1
/-- Euclid's sums: both reckon the remainders in turn. -/
noncomputable def gcdTo (V : VF) : Nat → List Int → List Int → List Int
  | 0, a, _ => a
  | f + 1, a, b => if b = [] then a else gcdTo V f b (VF.dqr V a b).2
theorem gcdTo_nil (V : VF) (f : Nat) (a : List Int) : gcdTo V f a [] = a := by
  cases f with
  | zero => rfl
  | succ f => unfold gcdTo; rw [if_pos rfl]
theorem gcdTo_step (V : VF) {f : Nat} {a b : List Int} (hb : b ≠ []) : gcdTo V (f + 1) a b = gcdTo V f b (VF.dqr V a b).2 := by
  conv => lhs; unfold gcdTo
  rw [if_neg hb]
/-- The last polynomial, made to end in 1. -/
noncomputable def monic (V : VF) (a : List Int) : List Int := VF.lst V (PS.C (VF.of V (V.F.inv (gi a (a.length - 1)))) * VF.ps V a)
noncomputable def gcdL (V : VF) (x y : List Int) : List Int := monic V (gcdTo V (y.length + 1) x y)
theorem monic_len (V : VF) (a : List Int) : (monic V a).length ≤ a.length := VF.lst_len (PS.dlt_C_mul _ (VF.ps_dlt a))
/-- What holds of the two lists at every round's head. -/
structure GcdInv (V : VF) (x y : List Int) (f : Nat) (a b : List Int) : Prop where
  ha : VF.isP V a
  hb : VF.isP V b
  ne : a ≠ [] ∨ b ≠ []
  eq : gcdTo V (y.length + 1) x y = gcdTo V f a b
  lt : b.length < f
  la : a.length ≤ 4096
  lb : b.length ≤ 4096
theorem GcdInv.start {V : VF} {x y : List Int} (hx : VF.isP V x) (hy : VF.isP V y) (hne : x ≠ [] ∨ y ≠ []) (h1 : x.length ≤ 512) (h2 : y.length ≤ 512) : GcdInv V x y (y.length + 1) x y :=
  ⟨hx, hy, hne, rfl, by omega, by omega, by omega⟩
theorem GcdInv.step {V : VF} {x y : List Int} {f : Nat} {a b q r : List Int} (h : GcdInv V x y (f + 1) a b) (hb : b ≠ []) (hd : VF.DivOf V a b q r) : GcdInv V x y f b r := by
  have e := VF.dqr_of h.hb hd
  have hl := hd.len
  have hlt := h.lt
  have hlb := h.lb
  refine ⟨h.hb, hd.hr, .inl hb, ?_, by omega, by omega, by omega⟩
  rw [h.eq, gcdTo_step V hb, e]
theorem GcdInv.done {V : VF} {x y : List Int} {f : Nat} {a : List Int} (h : GcdInv V x y f a []) : gcdL V x y = monic V a ∧ a ≠ [] := by
  unfold gcdL
  rw [h.eq, gcdTo_nil]
  exact ⟨rfl, h.ne.resolve_right (fun h => h rfl)⟩
theorem gcdTo_len (V : VF) : ∀ (f : Nat) (a b : List Int), VF.isP V b → a.length ≤ 512 → b.length ≤ 512 → (gcdTo V f a b).length ≤ 512
  | 0, a, b, _, h1, _ => h1
  | f + 1, a, b, hb, h1, h2 => by
    by_cases h : b = []
    · rw [h, gcdTo_nil]; exact h1
    · rw [gcdTo_step V h]
      refine gcdTo_len V f b _ ?_ h2 (Nat.le_trans (dqr_len V hb).2 h2)
      by_cases hx : ∃ z : List Int × List Int, VF.DivOf V a b z.1 z.2
      · obtain ⟨⟨q, r⟩, hd⟩ := hx
        have hd : VF.DivOf V a b q r := hd
        rw [VF.dqr_of hb hd]; exact hd.hr
      · unfold VF.dqr; rw [dif_neg hx]; exact VF.isP_nil
noncomputable def gcdC (p pw g : Int) (x y : List Int) : Int := if codeP p pw g [x, y] = 0 then (if x = [] ∧ y = [] then 5 else 0) else codeP p pw g [x, y]
noncomputable def gcdR (p pw g : Int) (x y : List Int) : List Int := if x = [] ∧ y = [] then [] else onP p pw g [x, y] fun V => gcdL V x y
theorem gcdC_bad {p pw g : Int} {x y : List Int} (h : ¬ codeP p pw g [x, y] = 0) : gcdC p pw g x y = codeP p pw g [x, y] ∧ gcdR p pw g x y = [] := by
  refine ⟨by unfold gcdC; rw [if_neg h], ?_⟩
  unfold gcdR; split
  · rfl
  · exact onP_no h
theorem gcdC_zero {p pw g : Int} {x y : List Int} (h : codeP p pw g [x, y] = 0) (hl : x = [] ∧ y = []) : gcdC p pw g x y = 5 ∧ gcdR p pw g x y = [] := by
  unfold gcdC gcdR; rw [if_pos h, if_pos hl, if_pos hl]; exact ⟨rfl, rfl⟩
theorem gcdC_ok {p pw g : Int} {x y : List Int} (h : codeP p pw g [x, y] = 0) (hl : ¬ (x = [] ∧ y = [])) : gcdC p pw g x y = 0 ∧ (gcdR p pw g x y = onP p pw g [x, y] fun V => gcdL V x y) := by
  unfold gcdC gcdR; rw [if_pos h, if_neg hl, if_neg hl]; exact ⟨rfl, rfl⟩
theorem gcdR_len (p pw g : Int) (x y : List Int) : (gcdR p pw g x y).length ≤ 1048576 := by
  unfold gcdR
  split
  · simp
  by_cases h : codeP p pw g [x, y] = 0
  · rw [onP_yes h]
    obtain ⟨⟨h1, _⟩, h2, h3⟩ := two_mem (codeP_isP h)
    have := monic_len (vfOf p pw g (codeP_zero h).1) (gcdTo (vfOf p pw g (codeP_zero h).1) (y.length + 1) x y)
    have h4 := gcdTo_len (vfOf p pw g (codeP_zero h).1) (y.length + 1) x y h3 h1 h2
    unfold gcdL
    omega
  · rw [onP_no h]; simp
theorem xp_zero (V : VF) : VF.xp V 0 = 1 := by unfold VF.xp; grind
end Go.Proofs.Ytfhkkpfiflgofaa
