/-
  Encoded words are code words; the walks of MessageOf and IsCode.
-/
import Derived.Test.YtfhkkpfiflgofaaEncW
import Derived.Test.YtfhkkpfiflgofaaSyndOf
import Derived.Test.YtfhkkpfiflgofaaPeel
namespace Go.Proofs.Ytfhkkpfiflgofaa
open Go.RowKit
set_option linter.unusedVariables false


theorem VF.exists_divE {V : VF} {p d : List Int} (hp : VF.isP V p) (hd : VF.isP V d) (h0 : d ≠ []) : ∃ q r, VF.DivOf V p d q r := by
  have hl : 0 < d.length := List.length_pos_iff.2 h0
  by_cases h : p.length < d.length
  · exact ⟨_, _, VF.DivOf.small hp h⟩
  obtain ⟨k, hk⟩ : ∃ k, k + (d.length - 1) = p.length := ⟨p.length - (d.length - 1), by omega⟩
  have key : ∀ k (fO fR : PS (El V)), DivInv V p d k fO fR → ∃ q r, VF.DivOf V p d q r := by
    intro k
    induction k with
    | zero => intro fO fR h; exact ⟨_, _, h.done hl⟩
    | succ k ih =>
      intro fO fR h
      obtain ⟨b, hb⟩ := Fld.inv ((VF.ps V d).c (d.length - 1)) (hd.top hl)
      exact ih _ _ (h.step hl (y := fR.c (k + (d.length - 1)) * b) (by
        have : fR.c (k + (d.length - 1)) * b * (VF.ps V d).c (d.length - 1) = fR.c (k + (d.length - 1)) * ((VF.ps V d).c (d.length - 1) * b) := by grind
        rw [this, hb]; grind))
  exact key k _ _ (DivInv.start hk)
theorem VF.dqr_specE {V : VF} {p d : List Int} (hp : VF.isP V p) (hd : VF.isP V d) (h0 : d ≠ []) : VF.DivOf V p d (VF.dqr V p d).1 (VF.dqr V p d).2 := by
  obtain ⟨q, r, h⟩ := VF.exists_divE hp hd h0
  rw [VF.dqr_of hd h]; exact h
section
variable {V : VF}
theorem ev_xp (n : Nat) (x : El V) : PS.ev (VF.xp V n) x = x ^ n := by
  induction n with
  | zero =>
    have e : VF.xp V 0 = 1 := by unfold VF.xp; grind
    rw [e, PS.ev_one]; grind
  | succ n ih =>
    have e : VF.xp V (n + 1) = PS.X * VF.xp V n := by unfold VF.xp; grind
    rw [e, PS.ev_X_mul (xp_poly n), ih]; grind
theorem ev_xpC (n : Nat) (a x : El V) : PS.ev (VF.xp V n * PS.C a) x = x ^ n * a := by
  have e : VF.xp V n * PS.C a = PS.C a * VF.xp V n := by grind
  rw [e, PS.ev_C_mul (xp_poly n), ev_xp]; grind
theorem sv_hi {L : Nat} {zs : List Int} (hz : VF.els V zs) {x : Int} (hx : V.F.el x) (k : Nat) (hk : k ≤ L) : VF.of V (svTo V.F zs x k) * VF.of V x ^ (L - k) = PS.ev (hiF V L zs k) (VF.of V x) := by
  induction k with
  | zero =>
    show VF.of V 0 * _ = PS.ev 0 _
    rw [VF.of_zero, PS.ev_zero]; grind
  | succ k ih =>
    have h1 := ih (by omega)
    show VF.of V (V.F.add (V.F.mul (svTo V.F zs x k) x) (gi zs k)) * _ = PS.ev (hiF V L zs k + VF.xp V (L - 1 - k) * PS.C (VF.of V (gi zs k))) _
    have hs := svTo_el V.ok hz x k
    have hg := el_gi V.ok hz k
    rw [VF.of_add (FF.mul_el V.ok _ _) hg, VF.of_mul hs hx, PS.ev_add (hiF_poly V L zs k (by omega)) ((xp_poly _).mul (PS.isPoly_C _)), ← h1, ev_xpC]
    have e : L - k = (L - 1 - k) + 1 := by omega
    rw [e, show L - (k + 1) = L - 1 - k by omega]; grind
theorem hiF_c {L : Nat} (zs : List Int) (k i : Nat) (hk : k ≤ L) : (hiF V L zs k).c i = if i < L ∧ L - 1 - i < k then VF.of V (gi zs (L - 1 - i)) else 0 := by
  induction k with
  | zero => rw [if_neg (by omega)]; rfl
  | succ k ih =>
    show (hiF V L zs k + VF.xp V (L - 1 - k) * PS.C (VF.of V (gi zs k))).c i = _
    rw [PS.add_c, ih (by omega), xpC_c]
    by_cases e : i = L - 1 - k
    · subst e
      rw [if_neg (by omega), if_pos rfl, if_pos (by omega), show L - 1 - (L - 1 - k) = k by omega]; grind
    · rw [if_neg e]
      by_cases h : i < L ∧ L - 1 - i < k
      · rw [if_pos h, if_pos (by omega)]; grind
      · rw [if_neg h, if_neg (by omega)]; grind
theorem genF_ev (n j : Nat) (hj : j < n) : PS.ev (genF V n) (VF.of V (V.F.exp (j + 1))) = 0 := by
  induction n with
  | zero => omega
  | succ n ih =>
    show PS.ev (genF V n * (PS.X - PS.C _)) _ = 0
    rw [ev_mul_lin (genF_poly V n)]
    by_cases e : j = n
    · subst e; grind
    · rw [ih (by omega)]; grind
theorem encR_div {L c : Nat} {msg : List Int} (hm : msg.length + c = L) : VF.DivOf V (VF.lst V (hiF V L msg msg.length)) (VF.lst V (genF V c)) (VF.dqr V (VF.lst V (hiF V L msg msg.length)) (VF.lst V (genF V c))).1 (encR V L c msg) := by
  have h1 := VF.lst_isP (hiF_poly V L msg msg.length (by omega))
  have h2 := VF.lst_isP (genF_poly V c)
  have h3 : VF.lst V (genF V c) ≠ [] := fun e => by have := genF_length V c; rw [e] at this; simp at this
  exact VF.dqr_specE h1 h2 h3
theorem enc_hi {L c : Nat} {msg : List Int} (hm : msg.length + c = L) (hz : VF.els V msg) : hiF V L (encL V L c msg) L = hiF V L msg msg.length - VF.ps V (encR V L c msg) := PS.ext' fun i => by
  have hD := encR_div (V := V) hm
  have hrl : (encR V L c msg).length ≤ c := by have := hD.len; rw [genF_length] at this; omega
  rw [PS.sub_c, hiF_c _ _ _ (Nat.le_refl _), hiF_c _ _ _ (by omega)]
  by_cases hi : i < L
  · rw [if_pos (by omega)]
    by_cases hc : i < c
    · rw [if_neg (by omega)]
      have e : gi (encL V L c msg) (L - 1 - i) = V.F.neg (gi (encR V L c msg) i) := by
        unfold encL
        unfold gi
        rw [List.getD_eq_getElem?_getD, List.getElem?_append_right (by omega), ← List.getD_eq_getElem?_getD]
        unfold chkTo
        rw [List.getD_eq_getElem?_getD, List.getElem?_map, List.getElem?_range (by omega)]
        show V.F.neg (gi _ _) = _
        congr 2; omega
      rw [e, VF.of_neg (el_gi V.ok hD.hr.els i), VF.ps_c]
      show - VF.of V (gi (encR V L c msg) i) = 0 - VF.of V (gi (encR V L c msg) i)
      grind
    · rw [if_pos (by omega)]
      have e : gi (encL V L c msg) (L - 1 - i) = gi msg (L - 1 - i) := by
        unfold encL gi
        rw [List.getD_eq_getElem?_getD, List.getElem?_append_left (by omega), ← List.getD_eq_getElem?_getD]
      rw [e, VF.ps_dlt _ i (by omega)]; grind
  · rw [if_neg (by omega), if_neg (by omega), VF.ps_dlt _ i (by omega)]; grind
theorem encL_els {L c : Nat} {msg : List Int} (hm : msg.length + c = L) (hz : VF.els V msg) : VF.els V (encL V L c msg) := by
  have hD := encR_div (V := V) hm
  unfold encL
  refine VF.els_append.2 ⟨hz, fun z hz => ?_⟩
  unfold chkTo at hz
  obtain ⟨j, _, rfl⟩ := List.mem_map.1 hz
  exact FF.neg_el (el_gi V.ok hD.hr.els _)
theorem enc_syn {L c : Nat} {msg : List Int} (hm : msg.length + c = L) (hz : VF.els V msg) (j : Nat) (hj : j < c) : svTo V.F (encL V L c msg) (V.F.exp (j + 1)) (encL V L c msg).length = 0 := by
  have hD := encR_div (V := V) hm
  have hE := encL_els (V := V) hm hz
  have hlen : (encL V L c msg).length = L := by rw [encL_length]; exact hm
  have hx : V.F.el (V.F.exp (j + 1)) := FF.exp_el V.ok _
  have h1 := sv_hi (V := V) (L := L) hE hx L (Nat.le_refl _)
  rw [Nat.sub_self, enc_hi hm hz] at h1
  have h2 := hD.eq
  rw [VF.lst_eq (hiF_poly V L msg msg.length (by omega)), VF.lst_eq (genF_poly V c)] at h2
  rw [hlen]
  refine VF.of_inj (svTo_el V.ok hE _ _) (FF.zero_el V.ok) ?_
  rw [VF.of_zero]
  have e : hiF V L msg msg.length - VF.ps V (encR V L c msg) = VF.ps V (VF.dqr V (VF.lst V (hiF V L msg msg.length)) (VF.lst V (genF V c))).1 * genF V c := by rw [h2]; grind
  rw [e, PS.ev_mul (VF.ps_poly _) (genF_poly V c), genF_ev c j hj] at h1
  have : VF.of V (svTo V.F (encL V L c msg) (V.F.exp (j + 1)) L) * VF.of V (V.F.exp (j + 1)) ^ 0 = VF.of V (svTo V.F (encL V L c msg) (V.F.exp (j + 1)) L) := by grind
  rw [← this, h1]; grind
end
noncomputable def moR (p pw g l c : Int) (zs : List Int) : List Int := if codeC p pw g l c [zs] = 0 then zs.take (l - c).toNat else []
theorem implIsCode_any (p pw g l c : Int) (w : World) :
    Calls Try.prog 91 #[cV p pw g l c] w fun e w' => e = .returned (.bool (validC p pw g l c)) ∧ Below w.heap.size w w' := by
  go_enter Try.func91, Try.ntmps91
  go_wp2_with fail
  refine (coder_any p pw g l c _).mono ?_
  rintro e w1 ⟨v, rfl, hb1, -⟩
  have HB := Lib.hid ((below1 w (.cells #[.int .i64 p, .int .i64 pw, .int .i64 g, .int .i64 l, .int .i64 c] CT)).trans (hb1.mono (by simp)))
  clear hb1
  go_wp2_with fail
  go_ret
  exact ⟨rfl, HB.out⟩
end Go.Proofs.Ytfhkkpfiflgofaa
