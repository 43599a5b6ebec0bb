/-
  The walks of the closures that multiply by the generator, and of the filling of the tables.
-/
import Derived.Test.YtenlaoadclfmaaaCalc
import Derived.Laws.BitsAllLaws
namespace Go.Proofs.Ytenlaoadclfmaaa
open Go.RowKit
set_option linter.unusedVariables false

/-- The closure of a field of prime size: x * g % p. -/
theorem timesP_any (g p x : Int) (w : World) (bg bp : Nat) (hg : w.cell? ⟨bg, 0, none⟩ = some (.int .i64 g)) (hp : w.cell? ⟨bp, 0, none⟩ = some (.int .i64 p))
    (h0 : 0 ≤ x) (h1 : x < p) (h2 : 0 ≤ g) (h3 : g ≤ 1021) (h4 : 3 ≤ p) (h5 : p ≤ 1021) :
    Calls Try.prog 132 #[.int .i64 x, .pointer (some ⟨bg, 0, none⟩), .pointer (some ⟨bp, 0, none⟩)] w fun e w' => e = .returned (.int .i64 (timesP g p x)) ∧ w = w' := by
  have hb : 0 ≤ x * g ∧ x * g ≤ 1042441 := by
    have h6 : x * g ≤ 1021 * 1021 := Int.mul_le_mul (by omega) h3 h2 (by omega)
    have h7 : 0 ≤ x * g := Int.mul_nonneg h0 h2
    omega
  have hf := Lib.hid (show timesP g p x = x * g % p from rfl)
  have w3 : ¬ p = 0 := by omega
  go_enter Try.func132, Try.ntmps132
  go_wp2
  go_ret
  exact ⟨ret_int hf.out.symm, rfl⟩
theorem and_pow (k X : Nat) (h : X < 2 * 2 ^ k) : X &&& 2 ^ k = if 2 ^ k ≤ X then 2 ^ k else 0 := by
  rw [nat_bit]
  have h0 : 0 < 2 ^ k := Nat.two_pow_pos k
  split
  · rename_i hle
    have : X / 2 ^ k = 1 := by
      have h1 : 1 ≤ X / 2 ^ k := (Nat.le_div_iff_mul_le h0).2 (by omega)
      have h2 : X / 2 ^ k < 2 := (Nat.div_lt_iff_lt_mul h0).2 (by omega)
      omega
    rw [this]; omega
  · rename_i hle
    rw [Nat.div_eq_of_lt (by omega)]; simp
theorem timesB_any (k : Nat) (hk : k ≤ 8) (sz poly x : Int) (hsz : sz = ((2 ^ k : Nat) : Int)) (w : World) (bc b bf : Nat) (hc : w.cell? ⟨bc, 0, none⟩ = some (.pointer (some ⟨b, 0, none⟩))) (hs : w.cell? ⟨b, 1, none⟩ = some (.int .i64 sz))
    (hp : w.cell? ⟨bf, 2, none⟩ = some (.int .i64 poly))
    (h0 : 0 ≤ x) (h1 : x < sz) (h4 : sz ≤ poly) (h5 : poly < 2 * sz) :
    Calls Try.prog 123 #[.int .i64 x, .pointer (some ⟨bc, 0, none⟩), .pointer (some ⟨bf, 0, none⟩)] w fun e w' => e = .returned (.int .i64 (timesB sz poly x)) ∧ w = w' := by
  have hk2 : 2 ^ k ≤ 2 ^ 8 := Nat.pow_le_pow_right (by omega) hk
  have hand : bits BinOp.and IntKind.i64 (x * 2) sz = if sz ≤ 2 * x then sz else 0 := by
    rw [i64_and _ _ (by omega) (by omega) (by omega) (by omega)]
    have e2 : sz.toNat = 2 ^ k := by omega
    rw [e2, and_pow _ _ (by omega)]
    split
    · rw [if_pos (by omega)]; omega
    · rw [if_neg (by omega)]; rfl
  have hxor := i64_xor (x * 2) poly (by omega) (by omega) (by omega) (by omega)
  have hbd : sz ≤ 256 ∧ 0 < sz := by have := Nat.two_pow_pos k; omega
  clear hsz hk2
  by_cases hle : sz ≤ 2 * x
  · rw [if_pos hle] at hand
    have hf := Lib.hid (show timesB sz poly x = xorI (x * 2) poly by unfold timesB; rw [if_pos hle, Int.mul_comm])
    have hne : (sz != 0) = true := by simp; omega
    have hne2 : ¬ sz = 0 := by omega
    go_enter Try.func123, Try.ntmps123
    go_wp2
    go_ret
    exact ⟨ret_int hf.out.symm, rfl⟩
  · rw [if_neg hle] at hand
    have hf := Lib.hid (show timesB sz poly x = x * 2 by unfold timesB; rw [if_neg hle, Int.mul_comm])
    go_enter Try.func123, Try.ntmps123
    go_wp2
    go_ret
    exact ⟨ret_int hf.out.symm, rfl⟩

/-- The logarithms behind k rounds. -/
def logA (T : Int → Int) : Nat → Int → Int
  | 0, _ => 0
  | k + 1, v => if v = orb T k then (k : Int) else logA T k v
/-- The tables behind k rounds: block b. -/
structure Tab (w : World) (b : Nat) (bin : Bool) (sz : Int) (T : Int → Int) (k : Nat) : Prop where
  blk : ∃ cur : Array Value, w.heap[b]? = some (.cells cur 125 (0, 0)) ∧ cur.size = 2044 ∧ cur[0]? = some (.bool bin) ∧ cur[1]? = some (.int .i64 sz) ∧
    (∀ n, n < k → cur[2 + n]? = some (.int .i64 (orb T n))) ∧ (∀ v : Nat, v < 1021 → cur[1023 + v]? = some (.int .i64 (logA T k v)))
theorem Tab.cell {w : World} {b : Nat} {bin : Bool} {sz : Int} {T : Int → Int} {k : Nat} (h : Tab w b bin sz T k) {o : Nat} (ho : o < 2044) : (∃ v, w.cell? ⟨b, o, none⟩ = some v) ∧ w.frozen? ⟨b, o, none⟩ = false := by
  obtain ⟨cur, hb, hs, _⟩ := h.blk
  refine ⟨⟨cur[o]'(by omega), ?_⟩, ?_⟩
  · unfold World.cell?; rw [hb]; simp only [Option.isSome_none, Bool.false_eq_true, if_false]; exact Array.getElem?_eq_getElem (by omega)
  · unfold World.frozen?; rw [hb]; simp
theorem Tab.size {w : World} {b : Nat} {bin : Bool} {sz : Int} {T : Int → Int} {k : Nat} (h : Tab w b bin sz T k) : w.cell? ⟨b, 1, none⟩ = some (.int .i64 sz) := by
  obtain ⟨cur, hb, hs, h0, h1, _⟩ := h.blk
  unfold World.cell?; rw [hb]; exact h1
theorem heap_setCell_self (w : World) (b o : Nat) (v : Value) (cur : Array Value) (t : TypeId) (fz : Nat × Nat) (h : w.heap[b]? = some (.cells cur t fz)) : (w.setCell ⟨b, o, none⟩ v).heap[b]? = some (.cells (cur.setIfInBounds o v) t fz) := by
  simp only [World.setCell, Array.getElem?_modify, if_true, h]; rfl
theorem Tab.next {w : World} {b : Nat} {bin : Bool} {sz : Int} {T : Int → Int} {k : Nat} (h : Tab w b bin sz T k) (hk : k < 1021) (hx0 : 0 ≤ orb T k) (hx : orb T k < 1021) :
    Tab ((w.setCell ⟨b, 2 + k, none⟩ (.int .i64 (orb T k))).setCell ⟨b, 1023 + (orb T k).toNat, none⟩ (.int .i64 k)) b bin sz T (k + 1) := by
  obtain ⟨cur, hb, hs, h0, h1, h2, h3⟩ := h.blk
  refine ⟨⟨_, heap_setCell_self _ _ _ _ _ _ _ (heap_setCell_self _ _ _ _ _ _ _ hb), ?_, ?_, ?_, ?_, ?_⟩⟩
  · simp [hs]
  · rw [Array.getElem?_setIfInBounds_ne (by omega), Array.getElem?_setIfInBounds_ne (by omega)]; exact h0
  · rw [Array.getElem?_setIfInBounds_ne (by omega), Array.getElem?_setIfInBounds_ne (by omega)]; exact h1
  · intro n hn
    rw [Array.getElem?_setIfInBounds_ne (by omega)]
    by_cases e : n = k
    · subst e; rw [Array.getElem?_setIfInBounds_self_of_lt (by omega)]
    · rw [Array.getElem?_setIfInBounds_ne (by omega)]; exact h2 n (by omega)
  · intro v hv
    unfold logA
    by_cases e : (v : Int) = orb T k
    · rw [if_pos e]
      have : (orb T k).toNat = v := by omega
      rw [this, Array.getElem?_setIfInBounds_self_of_lt (by simp; omega)]
    · rw [if_neg e, Array.getElem?_setIfInBounds_ne (by omega), Array.getElem?_setIfInBounds_ne (by omega)]; exact h3 v hv
/-- What is known of the powers while none of them was 0 or 1 again. -/
def Fine (T : Int → Int) (k : Nat) : Prop := ∀ n, n < k → orb T n ≠ 0 ∧ (0 < n → orb T n ≠ 1)
theorem Fine.next {T : Int → Int} {k : Nat} (h : Fine T k) (h0 : orb T k ≠ 0) (h1 : 0 < k → orb T k ≠ 1) : Fine T (k + 1) := fun n hn => by
  by_cases e : n = k
  · subst e; exact ⟨h0, h1⟩
  · exact h n (by omega)
open Classical in
noncomputable def goodB (T : Int → Int) (N : Nat) : Bool := decide (Good T N)
theorem goodB_no0 {T : Int → Int} {N k : Nat} (hk : k < N) (h : orb T k = 0) : goodB T N = false := by
  unfold goodB; simp only [decide_eq_false_iff_not]; exact fun g => (g.1 k hk).1 h
theorem goodB_no1 {T : Int → Int} {N k : Nat} (hk : k < N) (h0 : 0 < k) (h : orb T k = 1) : goodB T N = false := by
  unfold goodB; simp only [decide_eq_false_iff_not]; exact fun g => (g.1 k hk).2 h0 h
open Classical in
theorem goodB_end {T : Int → Int} {N : Nat} (h : Fine T N) : goodB T N = (orb T N == 1) := by
  unfold goodB
  by_cases e : orb T N = 1
  · rw [decide_eq_true (show Good T N from ⟨h, e⟩)]; simp [e]
  · rw [decide_eq_false (fun g => e g.2)]; simp [e]
/-- What 'fill' leaves: the answer, and, if it is yes, the tables. -/
def Filled (bin : Bool) (sz : Int) (T : Int → Int) (N b : Nat) (P : World → Prop) (w : World) (e : Ending) (w' : World) : Prop :=
  e = .returned (.bool (goodB T N)) ∧ Below b w w' ∧ P w' ∧ (goodB T N = true → Tab w' b bin sz T N)
set_option maxHeartbeats 1000000 in
set_option maxRecDepth 100000 in
theorem fill_any (bin : Bool) (sz : Int) (T : Int → Int) (N : Nat) (hN : sz = (N : Int) + 1) (hsz : 3 ≤ sz) (hsz2 : sz ≤ 1021) (hT : ∀ x, 0 ≤ x → x < sz → 0 ≤ T x ∧ T x < sz)
    (fid : Nat) (c1 c2 : Value) (b : Nat) (P : World → Prop) (hP : ∀ W o v, P W → 2 ≤ o → P (W.setCell ⟨b, o, none⟩ v))
    (hcall : ∀ W x, P W → W.cell? ⟨b, 1, none⟩ = some (.int .i64 sz) → 0 ≤ x → x < sz → Calls Try.prog fid #[.int .i64 x, c1, c2] W fun e w' => e = .returned (.int .i64 (T x)) ∧ W = w')
    (hcf : ∀ args W, (callFunc fid args).run Try.prog W = .ok (.enter fid args) W)
    (w : World) (h0 : Tab w b bin sz T 0) (hPw : P w) :
    Calls Try.prog 122 #[.pointer (some ⟨b, 0, none⟩), .func (.func fid) #[] #[c1, c2]] w (Filled bin sz T N b P w) := by
  have hrange : ∀ k, 0 ≤ orb T k ∧ orb T k < sz := by
    intro k
    induction k with
    | zero => exact ⟨by show (0 : Int) ≤ 1; omega, by show (1 : Int) < sz; omega⟩
    | succ k ih => exact hT _ ih.1 ih.2
  have H0 := Lib.hid h0
  have HR := Lib.hid hrange
  have HC := Lib.hid hcall
  have HPP := Lib.hid hP
  have HPW := Lib.hid hPw
  have HT := Lib.hid hT
  have HN := Lib.hid hN
  clear h0 hrange hcall hP hPw hT hN
  go_enter Try.func122, Try.ntmps122
  go_wp2
  go_loopw [5, 6] (fun x n wr => ∃ k : Nat, k ≤ N ∧ Fine T k ∧ n = .int .i64 k ∧ x = .int .i64 (orb T k) ∧ Tab wr b bin sz T k ∧ Hid (P wr) ∧ Below b w wr) (fun _ n _ => N - (intOf n).toNat)
  case atStart => exact ⟨0, by omega, fun n hn => by omega, rfl, rfl, H0.out, HPW, Below.refl _ _⟩
  case round =>
    obtain ⟨k, hk, hfine, rfl, hxe, htab, hP, hbel⟩ := hrel
    obtain ⟨x, hx⟩ : ∃ x, x = orb T k := ⟨_, rfl⟩
    rw [← hx] at hxe
    subst hxe
    have hsize := htab.size
    have hF := Lib.hid hfine
    have hTab := Lib.hid htab
    have hr : 0 ≤ x ∧ x < sz := by rw [hx]; exact HR.out k
    have HX := Lib.hid hx
    have hkN : sz - 1 = (N : Int) := by have := HN.out; omega
    clear hfine htab hx
    by_cases hlt : k < N
    · have hlt' : (k : Int) < sz - 1 := by omega
      have hk2 : k < 1021 := by omega
      clear hkN
      by_cases hx0 : x = 0
      · have hb0 : (x == 0) = true := by simp [hx0]
        have hf := Lib.hid (goodB_no0 hlt (HX.out ▸ hx0))
        clear hx0
        go_wp2_with fail
        go_ret
        exact ⟨ret_bool hf.out.symm, hbel , hP.out, fun h => by rw [hf.out] at h; cases h⟩
      · have hb0 : (x == 0) = false := by simp [hx0]
        by_cases hx1 : 0 < k ∧ x = 1
        · obtain ⟨hk0, hx1⟩ := hx1
          have hb1 : (x == 1) = true := by simp [hx1]
          have hf := Lib.hid (goodB_no1 hlt hk0 (HX.out ▸ hx1))
          clear hx0 hx1
          go_wp2_with fail
          go_ret
          exact ⟨ret_bool hf.out.symm, hbel, hP.out, fun h => by rw [hf.out] at h; cases h⟩
        · obtain ⟨⟨v1, hv1⟩, hfz1⟩ := hTab.out.cell (o := 2 + k) (by omega)
          obtain ⟨⟨v2, hv2⟩, hfz2⟩ := hTab.out.cell (o := 1023 + x.toNat) (by omega)
          have hx2 : x < 1021 := by omega
          have hFn := Lib.hid (hF.out.next (HX.out ▸ hx0) (fun h e => hx1 ⟨h, HX.out.trans e⟩))
          have hTn := hTab.out.next hk2 (HX.out ▸ hr.1) (HX.out ▸ hx2)
          rw [← HX.out] at hTn
          have HTn := Lib.hid hTn
          have hPn := Lib.hid (HPP.out _ (1023 + x.toNat) (.int .i64 k) (HPP.out _ (2 + k) (.int .i64 x) hP.out (by omega)) (by omega))
          have hsz1 := Lib.hid hTn.size
          clear hTn hx0
          have hbel2 := Lib.hid ((hbel.setCell (p := ⟨b, 2 + k, none⟩) (Nat.le_refl _) (.int .i64 x)).setCell (p := ⟨b, 1023 + x.toNat, none⟩) (Nat.le_refl _) (.int .i64 k))
          have hcx := Lib.hid (HC.out _ x hPn.out hsz1.out hr.1 hr.2)
          have hnx := Lib.hid (show T x = orb T (k + 1) by rw [HX.out]; rfl)
          by_cases hk0 : 0 < k
          · have hb1 : (x == 1) = false := by simp; exact fun e => hx1 ⟨hk0, e⟩
            clear hx1
            go_wp2_with fail
            refine hcx.out.mono ?_
            rintro e w' ⟨rfl, rfl⟩
            go_wp2_with fail
            go_roundw
            case rel => exact ⟨k + 1, hlt, hFn.out, by go_num, by rw [hnx.out], HTn.out, hPn, hbel2.out⟩
            case measure => simp [intOf]; omega
          · clear hx1
            go_wp2_with fail
            refine hcx.out.mono ?_
            rintro e w' ⟨rfl, rfl⟩
            go_wp2_with fail
            go_roundw
            case rel => exact ⟨k + 1, hlt, hFn.out, by go_num, by rw [hnx.out], HTn.out, hPn, hbel2.out⟩
            case measure => simp [intOf]; omega
    · obtain rfl : k = N := by omega
      have hge : ¬ (k : Int) < sz - 1 := by omega
      have hf := Lib.hid ((goodB_end hF.out).trans (by rw [← HX.out]))
      clear hkN
      go_wp2_with fail
      go_ret
      exact ⟨ret_bool hf.out.symm, hbel, hP.out, fun _ => hTab.out⟩
end Go.Proofs.Ytenlaoadclfmaaa
