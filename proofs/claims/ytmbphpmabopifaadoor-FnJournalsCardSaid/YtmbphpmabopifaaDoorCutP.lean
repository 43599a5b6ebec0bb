/-
  A journal that is cut off: in plain Lean.
-/
import Derived.Test.YtmbphpmabopifaaDoorRcvK
namespace Go.Proofs.YtmbphpmabopifaaDoor
open Go.RowKit
set_option linter.unusedVariables false

/-- The line ends in a text. -/
def nlC (l : List UInt8) : Nat := l.countP (· = 10)
theorem nlC_app (a b : List UInt8) : nlC (a ++ b) = nlC a + nlC b := List.countP_append
theorem nlC_no {l : List UInt8} (h : noB 10 l) : nlC l = 0 := List.countP_eq_zero.2 fun c hc => by simpa using h c hc
theorem nlC_take {l : List UInt8} {k : Nat} (h : k < l.length) : nlC (l.take (k + 1)) = nlC (l.take k) + if l[k] = 10 then 1 else 0 := by
  rw [List.take_succ_eq_append_getElem h, nlC_app]
  unfold nlC
  by_cases e : l[k] = 10 <;> simp [e]
theorem nlC_hit {l : List UInt8} {k : Nat} (h : k < l.length) (e : l[k] = 10) : nlC (l.take (k + 1)) = nlC (l.take k) + 1 := by rw [nlC_take h]; simp [e]
theorem nlC_miss {l : List UInt8} {k : Nat} (h : k < l.length) (e : ¬ l[k] = 10) : nlC (l.take (k + 1)) = nlC (l.take k) := by rw [nlC_take h]; simp [e]
theorem nlC_jou {L : List (Int × Int)} (hL : okL L) : ∀ k, k ≤ L.length → nlC (jouL L k).1 = k
  | 0, _ => rfl
  | k + 1, hk => by
    have h1 := nlC_jou hL k (by omega)
    have hs := jouL_sum L k
    show nlC ((jouL L k).1 ++ (lineL (k : Int) (gr L k) (jouL L k).2 ++ [10])) = k + 1
    rw [nlC_app, nlC_app, h1, nlC_no (noB_line (by omega) (recB_bd (hL k (by omega))).2.2.1 hs.1 hs.2)]
    rfl
/-- A cut leaves whole lines and a piece of one. -/
theorem jou_cut {L : List (Int × Int)} (hL : okL L) (c : Nat) : ∀ n, n ≤ L.length → ∃ k q, k ≤ n ∧ (jouL L n).1.take c = (jouL L k).1 ++ q ∧ noB 10 q
  | 0, _ => ⟨0, [], Nat.le_refl _, by show List.take c [] = [] ++ []; simp, fun _ h => by cases h⟩
  | n + 1, hn => by
    have hs := jouL_sum L n
    have hno := noB_line (n := (n : Int)) (r := gr L n) (by omega) (recB_bd (hL n (by omega))).2.2.1 hs.1 hs.2
    have e : (jouL L (n + 1)).1 = (jouL L n).1 ++ (lineL (n : Int) (gr L n) (jouL L n).2 ++ [10]) := rfl
    generalize lineL (n : Int) (gr L n) (jouL L n).2 = ln at *
    by_cases h1 : c < (jouL L n).1.length
    · obtain ⟨k, q, hk, h2, h3⟩ := jou_cut hL c n (by omega)
      refine ⟨k, q, by omega, ?_, h3⟩
      rw [e, List.take_append_of_le_length (by omega)]
      exact h2
    · by_cases h2 : c ≤ (jouL L n).1.length + ln.length
      · refine ⟨n, ln.take (c - (jouL L n).1.length), by omega, ?_, fun x hx => hno x (List.mem_of_mem_take hx)⟩
        rw [e, List.take_append, List.take_of_length_le (by omega : (jouL L n).1.length ≤ c), List.take_append_of_le_length (by omega)]
      · refine ⟨n + 1, [], Nat.le_refl _, ?_, fun _ h => by cases h⟩
        rw [List.append_nil, e, List.take_of_length_le]
        rw [List.length_append, List.length_append]
        simp
        omega
theorem gr_take {L : List (Int × Int)} {k j : Nat} (h : j < k) : gr (L.take k) j = gr L j := by
  unfold gr
  rw [List.getD_eq_getElem?_getD, List.getD_eq_getElem?_getD, List.getElem?_take_of_lt h]
theorem cut_rec {L : List (Int × Int)} (hL : okL L) (h300 : L.length ≤ 300) (c : Nat) : RecP ((jouL L L.length).1.take c) (L.take (nlC ((jouL L L.length).1.take c))) ∧ nlC ((jouL L L.length).1.take c) ≤ L.length := by
  obtain ⟨k, q, hk, h1, h2⟩ := jou_cut hL c L.length (Nat.le_refl _)
  have e : nlC ((jouL L L.length).1.take c) = k := by rw [h1, nlC_app, nlC_jou hL k hk, nlC_no h2]; rfl
  rw [e, h1]
  have hl : (L.take k).length = k := by rw [List.length_take]; omega
  have hj : jouL (L.take k) k = jouL L k := jouL_congr fun j hj => gr_take hj
  refine ⟨⟨by omega, fun j hj => ?_, ?_, .inr fun r hr hp => ?_⟩, hk⟩
  · rw [hl] at hj
    rw [gr_take hj]
    exact hL j (by omega)
  · rw [hl, hj]; exact List.prefix_append _ _
  · rw [hl, hj, List.prefix_append_right_inj] at hp
    exact h2 10 (hp.subset (by simp)) rfl
/-- How long a journal can be. -/
theorem dec_len : ∀ (k n : Nat), n < 10 ^ (k + 1) → (Lib.decDigits n).length ≤ k + 1
  | 0, n, h => by rw [dec_small (by omega)]; simp
  | k + 1, n, h => by
    by_cases h1 : n < 10
    · rw [dec_small h1]; simp
    · rw [dec_big h1, List.length_append]
      have := dec_len k (n / 10) (by rw [Nat.pow_succ] at h; omega)
      simp
      omega
theorem itoa_len {n : Int} (h0 : 0 ≤ n) (k : Nat) (h : n < 10 ^ (k + 1)) : (Lib.itoa n).length ≤ k + 1 := by
  obtain ⟨m, rfl⟩ : ∃ m : Nat, n = m := ⟨n.toNat, by omega⟩
  have e : Lib.itoa (m : Int) = Lib.decDigits m := by unfold Lib.itoa; simp
  rw [e]
  exact dec_len k m (by exact_mod_cast h)
theorem line_short {n : Int} {r : Int × Int} {s : Int} (h0 : 0 ≤ n) (h1 : n < 1000) (hr : recB r.1 r.2 = true) (h4 : 0 ≤ s) (h5 : s < 65521) : (lineL n r s).length ≤ 20 := by
  have hb := recB_bd hr
  have hs := sumL_bd h4 h5 (bodyL n r)
  have a1 := itoa_len h0 2 (by omega)
  have a2 := itoa_len hb.2.2.1 2 (by omega)
  have a3 := itoa_len hs.1 4 (by omega)
  have a4 := wrdL_le r.1
  unfold lineL
  rw [List.length_append, List.length_append]
  have : (bodyL n r).length ≤ 13 := by
    unfold bodyL
    simp only [List.length_append, List.length_cons, List.length_nil]
    omega
  simp only [List.length_cons, List.length_nil]
  omega
theorem jou_short {L : List (Int × Int)} (hL : okL L) (h300 : L.length ≤ 300) : ∀ k, k ≤ L.length → (jouL L k).1.length ≤ 21 * k
  | 0, _ => Nat.le_refl _
  | k + 1, hk => by
    have h1 := jou_short hL h300 k (by omega)
    have hs := jouL_sum L k
    have h2 := line_short (n := (k : Int)) (r := gr L k) (by omega) (by omega) (hL k (by omega)) hs.1 hs.2
    show ((jouL L k).1 ++ (lineL (k : Int) (gr L k) (jouL L k).2 ++ [10])).length ≤ 21 * (k + 1)
    rw [List.length_append, List.length_append]
    simp only [List.length_cons, List.length_nil]
    omega
end Go.Proofs.YtmbphpmabopifaaDoor
