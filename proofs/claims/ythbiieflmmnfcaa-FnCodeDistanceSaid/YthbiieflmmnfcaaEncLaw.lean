/-
  Encoded words are code words; the walks of MessageOf and IsCode.
-/
import Derived.Test.YthbiieflmmnfcaaEncW
import Derived.Test.YthbiieflmmnfcaaSyndOf
import Derived.Test.YthbiieflmmnfcaaPeel
namespace Go.Proofs.Ythbiieflmmnfcaa
open Go.RowKit
set_option linter.unusedVariables false


theorem implEncodeWordO_any (p pw g l c : Int) (w : World) {a : Option Addr} {n cap : Nat} {zs : List Int} (hr : RowAt w a n zs) (hca : a = none → cap = 0) :
    Calls Try.prog 25 #[cV p pw g l c, .slice a n cap] w fun e w' => ∃ v, e = .returned (.tuple #[v, .int .i64 (encC p pw g l c zs)]) ∧ Below w.heap.size w w' ∧ OwnL w' w.heap.size v (encWR p pw g l c zs) := by
  have HR := Lib.hid hr
  have HCA := Lib.hid hca
  have hl := Lib.hid hr.len
  have hsm := hr.small
  clear hr hca
  have ec := Lib.hid (codeC_nil p pw g l c)
  go_enter Try.func25, Try.ntmps25
  go_wp2_with fail
  refine (words_any p pw g l c _ (rows_none _ none)).mono ?_
  rintro e w1 ⟨v, rfl, hb1, hcod⟩
  rw [ec.out] at hcod ⊢
  have HB := Lib.hid ((below1 w _).trans (hb1.mono (by simp)))
  have HCOD := Lib.hid hcod
  clear hb1 hcod
  cases h : validC p pw g l c
  · have e1 : validI p pw g l c = 1 := by unfold validI; rw [h]; rfl
    have hcn : (validI p pw g l c != 0) = true := by rw [e1]; rfl
    obtain ⟨f0, f1⟩ := enc_bad (zs := zs) h
    have hf0 := Lib.hid (show encC p pw g l c zs = validI p pw g l c by rw [f0, e1])
    have hf1 := Lib.hid f1
    clear f0 f1 e1
    go_wp2_with fail
    go_ret2
    exact ⟨_, by rw [hf0.out]; rfl, HB.out, by rw [hf1.out]; exact OwnL.nil _ _ HB.out.size⟩
  have e1 : validI p pw g l c = 0 := by unfold validI; rw [h]; rfl
  have hcn : (validI p pw g l c != 0) = false := by rw [e1]; rfl
  obtain ⟨b, rfl, _, hcod⟩ := HCOD.out e1
  have HCD := Lib.hid hcod
  obtain ⟨_, hc1, hc2, hcl, hl1, _⟩ := validC_iff h
  obtain ⟨bc, hc0, hcal⟩ := hcod.cal
  have HA := Lib.hid (fun q => hasAll_any (hcal.drewN q) (cap := cap) ((Drew.more (Drew.refl w1) q).row (HR.out.below' HB.out)))
  have hl0 := hcod.len
  have hk0 := hcod.chk
  clear e1 hcod hcal HCOD
  by_cases hn : (n : Int) = l - c
  rotate_left
  · obtain ⟨f0, f1⟩ := enc_range (zs := zs) h (fun x => hn (by rw [← hl.out]; exact x.1))
    have hf0 := Lib.hid f0
    have hf1 := Lib.hid f1
    have hn' : ((n : Int) != l - c) = true := by simp; omega
    have q1 : IntKind.i64.wrap (l - c) = l - c := IntWalk.i64_in _ (by omega)
    clear f0 f1
    go_wp2_with fail
    go_quiet (fail)
    go_wp2_with fail
    go_ret2
    exact ⟨_, by rw [hf0.out]; rfl, HB.out.trans ((Drew.below (drew4 _ _) _).mono HB.out.size), by rw [hf1.out]; exact OwnL.nil _ _ HB.out.size⟩
  have hn' : ((n : Int) != l - c) = false := by simp; omega
  have q1 : IntKind.i64.wrap (l - c) = l - c := IntWalk.i64_in _ (by omega)
  have HN := Lib.hid hn
  clear hn
  cases hal : allB (ffOf p pw g) zs
  · obtain ⟨f0, f1⟩ := enc_range (zs := zs) h (fun x => by rw [hal] at x; cases x.2)
    have hf0 := Lib.hid f0
    have hf1 := Lib.hid f1
    rw [hal] at HA
    clear f0 f1
    go_wp2_with fail
    go_quiet (first | (go_at_call 74; exact Calls.quiet_of_same ((HA.out _).mono fun e w' h => ⟨h.1, h.2.symm⟩)))
    go_wp2_with fail
    go_ret2
    exact ⟨_, by rw [hf0.out]; rfl, HB.out.trans ((Drew.below (drew4 _ _) _).mono HB.out.size), by rw [hf1.out]; exact OwnL.nil _ _ HB.out.size⟩
  · rw [hal] at HA
    obtain ⟨V, hs, hz, f0, f1⟩ := enc_ok h (by rw [hl.out]; exact HN.out) hal
    have hf0 := Lib.hid f0
    have hf1 := Lib.hid f1
    have HE := Lib.hid (fun q => encode_any hs (w := w1.drewN q) (HCD.out.below (Drew.below (drew4 w1 q) _)) (cap := cap) ((HR.out.below' HB.out).below' (Drew.below (drew4 w1 q) _)) HCA.out hz HN.out)
    clear f0 f1 hz
    go_wp2_with fail
    go_quiet (first | (go_at_call 74; exact Calls.quiet_of_same ((HA.out _).mono fun e w' h => ⟨h.1, h.2.symm⟩)))
    go_wp2_with fail
    refine (HE.out _).mono ?_
    rintro e w3 ⟨v3, rfl, hb3, ho3⟩
    have hb3' : Below w1.heap.size w1 w3 := Below.more (Drew.below (drew4 w1 _) w1.heap.size) (Nat.le_refl _) hb3
    have HB3 := Lib.hid (HB.out.trans (hb3'.mono HB.out.size))
    have HO3 := Lib.hid (ho3.lower (C := w.heap.size) (by have := HB.out.size; first | exact this | (show w.heap.size ≤ w1.heap.size; exact this)))
    clear hb3 hb3' ho3
    go_wp2_with fail
    go_ret2
    exact ⟨_, by rw [hf0.out]; rfl, HB3.out, by rw [hf1.out]; exact HO3.out⟩
theorem VF.exists_divE {V : VF} {p d : List Int} (hp : VF.isP V p) (hd : VF.isP V d) (h0 : d ≠ []) : ∃ q r, VF.DivOf V p d q r := by
  have hl : 0 < d.length := List.length_pos_iff.2 h0
  by_cases h : p.length < d.length
  · exact ⟨_, _, VF.DivOf.small hp h⟩
  obtain ⟨k, hk⟩ : ∃ k, k + (d.length - 1) = p.length := ⟨p.length - (d.length - 1), by omega⟩
  have key : ∀ k (fO fR : PS (El V)), DivInv V p d k fO fR → ∃ q r, VF.DivOf V p d q r := by
    intro k
    induction k with
    | zero => intro fO fR h; exact ⟨_, _, h.done hl⟩
    | succ k ih =>
      intro fO fR h
      obtain ⟨b, hb⟩ := Fld.inv ((VF.ps V d).c (d.length - 1)) (hd.top hl)
      exact ih _ _ (h.step hl (y := fR.c (k + (d.length - 1)) * b) (by
        have : fR.c (k + (d.length - 1)) * b * (VF.ps V d).c (d.length - 1) = fR.c (k + (d.length - 1)) * ((VF.ps V d).c (d.length - 1) * b) := by grind
        rw [this, hb]; grind))
  exact key k _ _ (DivInv.start hk)
theorem VF.dqr_specE {V : VF} {p d : List Int} (hp : VF.isP V p) (hd : VF.isP V d) (h0 : d ≠ []) : VF.DivOf V p d (VF.dqr V p d).1 (VF.dqr V p d).2 := by
  obtain ⟨q, r, h⟩ := VF.exists_divE hp hd h0
  rw [VF.dqr_of hd h]; exact h
section
variable {V : VF}
theorem xp_polyE (k : Nat) : PS.IsPoly (VF.xp V k) := xp_poly k
theorem ev_xp (n : Nat) (x : El V) : PS.ev (VF.xp V n) x = x ^ n := by
  induction n with
  | zero =>
    have e : VF.xp V 0 = 1 := by unfold VF.xp; grind
    rw [e, PS.ev_one]; grind
  | succ n ih =>
    have e : VF.xp V (n + 1) = PS.X * VF.xp V n := by unfold VF.xp; grind
    rw [e, PS.ev_X_mul (xp_poly n), ih]; grind
theorem ev_xpC (n : Nat) (a x : El V) : PS.ev (VF.xp V n * PS.C a) x = x ^ n * a := by
  have e : VF.xp V n * PS.C a = PS.C a * VF.xp V n := by grind
  rw [e, PS.ev_C_mul (xp_poly n), ev_xp]; grind
theorem sv_hi {L : Nat} {zs : List Int} (hz : VF.els V zs) {x : Int} (hx : V.F.el x) (k : Nat) (hk : k ≤ L) : VF.of V (svTo V.F zs x k) * VF.of V x ^ (L - k) = PS.ev (hiF V L zs k) (VF.of V x) := by
  induction k with
  | zero =>
    show VF.of V 0 * _ = PS.ev 0 _
    rw [VF.of_zero, PS.ev_zero]; grind
  | succ k ih =>
    have h1 := ih (by omega)
    show VF.of V (V.F.add (V.F.mul (svTo V.F zs x k) x) (gi zs k)) * _ = PS.ev (hiF V L zs k + VF.xp V (L - 1 - k) * PS.C (VF.of V (gi zs k))) _
    have hs := svTo_el V.ok hz x k
    have hg := el_gi V.ok hz k
    rw [VF.of_add (FF.mul_el V.ok _ _) hg, VF.of_mul hs hx, PS.ev_add (hiF_poly V L zs k (by omega)) ((xp_poly _).mul (PS.isPoly_C _)), ← h1, ev_xpC]
    have e : L - k = (L - 1 - k) + 1 := by omega
    rw [e, show L - (k + 1) = L - 1 - k by omega]; grind
theorem hiF_c {L : Nat} (zs : List Int) (k i : Nat) (hk : k ≤ L) : (hiF V L zs k).c i = if i < L ∧ L - 1 - i < k then VF.of V (gi zs (L - 1 - i)) else 0 := by
  induction k with
  | zero => rw [if_neg (by omega)]; rfl
  | succ k ih =>
    show (hiF V L zs k + VF.xp V (L - 1 - k) * PS.C (VF.of V (gi zs k))).c i = _
    rw [PS.add_c, ih (by omega), xpC_c]
    by_cases e : i = L - 1 - k
    · subst e
      rw [if_neg (by omega), if_pos rfl, if_pos (by omega), show L - 1 - (L - 1 - k) = k by omega]; grind
    · rw [if_neg e]
      by_cases h : i < L ∧ L - 1 - i < k
      · rw [if_pos h, if_pos (by omega)]; grind
      · rw [if_neg h, if_neg (by omega)]; grind
theorem genF_ev (n j : Nat) (hj : j < n) : PS.ev (genF V n) (VF.of V (V.F.exp (j + 1))) = 0 := by
  induction n with
  | zero => omega
  | succ n ih =>
    show PS.ev (genF V n * (PS.X - PS.C _)) _ = 0
    rw [ev_mul_lin (genF_poly V n)]
    by_cases e : j = n
    · subst e; grind
    · rw [ih (by omega)]; grind
theorem encR_div {L c : Nat} {msg : List Int} (hm : msg.length + c = L) : VF.DivOf V (VF.lst V (hiF V L msg msg.length)) (VF.lst V (genF V c)) (VF.dqr V (VF.lst V (hiF V L msg msg.length)) (VF.lst V (genF V c))).1 (encR V L c msg) := by
  have h1 := VF.lst_isP (hiF_poly V L msg msg.length (by omega))
  have h2 := VF.lst_isP (genF_poly V c)
  have h3 : VF.lst V (genF V c) ≠ [] := fun e => by have := genF_length V c; rw [e] at this; simp at this
  exact VF.dqr_specE h1 h2 h3
theorem enc_hi {L c : Nat} {msg : List Int} (hm : msg.length + c = L) (hz : VF.els V msg) : hiF V L (encL V L c msg) L = hiF V L msg msg.length - VF.ps V (encR V L c msg) := PS.ext' fun i => by
  have hD := encR_div (V := V) hm
  have hrl : (encR V L c msg).length ≤ c := by have := hD.len; rw [genF_length] at this; omega
  rw [PS.sub_c, hiF_c _ _ _ (Nat.le_refl _), hiF_c _ _ _ (by omega)]
  by_cases hi : i < L
  · rw [if_pos (by omega)]
    by_cases hc : i < c
    · rw [if_neg (by omega)]
      have e : gi (encL V L c msg) (L - 1 - i) = V.F.neg (gi (encR V L c msg) i) := by
        unfold encL
        unfold gi
        rw [List.getD_eq_getElem?_getD, List.getElem?_append_right (by omega), ← List.getD_eq_getElem?_getD]
        unfold chkTo
        rw [List.getD_eq_getElem?_getD, List.getElem?_map, List.getElem?_range (by omega)]
        show V.F.neg (gi _ _) = _
        congr 2; omega
      rw [e, VF.of_neg (el_gi V.ok hD.hr.els i), VF.ps_c]
      show - VF.of V (gi (encR V L c msg) i) = 0 - VF.of V (gi (encR V L c msg) i)
      grind
    · rw [if_pos (by omega)]
      have e : gi (encL V L c msg) (L - 1 - i) = gi msg (L - 1 - i) := by
        unfold encL gi
        rw [List.getD_eq_getElem?_getD, List.getElem?_append_left (by omega), ← List.getD_eq_getElem?_getD]
      rw [e, VF.ps_dlt _ i (by omega)]; grind
  · rw [if_neg (by omega), if_neg (by omega), VF.ps_dlt _ i (by omega)]; grind
theorem encL_els {L c : Nat} {msg : List Int} (hm : msg.length + c = L) (hz : VF.els V msg) : VF.els V (encL V L c msg) := by
  have hD := encR_div (V := V) hm
  unfold encL
  refine VF.els_append.2 ⟨hz, fun z hz => ?_⟩
  unfold chkTo at hz
  obtain ⟨j, _, rfl⟩ := List.mem_map.1 hz
  exact FF.neg_el (el_gi V.ok hD.hr.els _)
theorem enc_syn {L c : Nat} {msg : List Int} (hm : msg.length + c = L) (hz : VF.els V msg) (j : Nat) (hj : j < c) : svTo V.F (encL V L c msg) (V.F.exp (j + 1)) (encL V L c msg).length = 0 := by
  have hD := encR_div (V := V) hm
  have hE := encL_els (V := V) hm hz
  have hlen : (encL V L c msg).length = L := by rw [encL_length]; exact hm
  have hx : V.F.el (V.F.exp (j + 1)) := FF.exp_el V.ok _
  have h1 := sv_hi (V := V) (L := L) hE hx L (Nat.le_refl _)
  rw [Nat.sub_self, enc_hi hm hz] at h1
  have h2 := hD.eq
  rw [VF.lst_eq (hiF_poly V L msg msg.length (by omega)), VF.lst_eq (genF_poly V c)] at h2
  rw [hlen]
  refine VF.of_inj (svTo_el V.ok hE _ _) (FF.zero_el V.ok) ?_
  rw [VF.of_zero]
  have e : hiF V L msg msg.length - VF.ps V (encR V L c msg) = VF.ps V (VF.dqr V (VF.lst V (hiF V L msg msg.length)) (VF.lst V (genF V c))).1 * genF V c := by rw [h2]; grind
  rw [e, PS.ev_mul (VF.ps_poly _) (genF_poly V c), genF_ev c j hj] at h1
  have : VF.of V (svTo V.F (encL V L c msg) (V.F.exp (j + 1)) L) * VF.of V (V.F.exp (j + 1)) ^ 0 = VF.of V (svTo V.F (encL V L c msg) (V.F.exp (j + 1)) L) := by grind
  rw [← this, h1]; grind
end
noncomputable def moR (p pw g l c : Int) (zs : List Int) : List Int := if codeC p pw g l c [zs] = 0 then zs.take (l - c).toNat else []
theorem implIsCode_any (p pw g l c : Int) (w : World) :
    Calls Try.prog 32 #[cV p pw g l c] w fun e w' => e = .returned (.bool (validC p pw g l c)) ∧ Below w.heap.size w w' := by
  go_enter Try.func32, Try.ntmps32
  go_wp2_with fail
  refine (coder_any p pw g l c _).mono ?_
  rintro e w1 ⟨v, rfl, hb1, -⟩
  have HB := Lib.hid ((below1 w (.cells #[.int .i64 p, .int .i64 pw, .int .i64 g, .int .i64 l, .int .i64 c] CT)).trans (hb1.mono (by simp)))
  clear hb1
  go_wp2_with fail
  go_ret
  exact ⟨rfl, HB.out⟩
set_option maxRecDepth 100000 in
set_option maxHeartbeats 2000000 in
theorem implMessageOf_any (p pw g l c : Int) (w : World) {a : Option Addr} {n cap : Nat} {zs : List Int} (hr : RowAt w a n zs) (hca : a = none → cap = 0) (hcap : n ≤ cap) :
    Calls Try.prog 34 #[cV p pw g l c, .slice a n cap] w fun e w' => ∃ v, e = .returned (.tuple #[v, .int .i64 (codeC p pw g l c [zs])]) ∧ Below w.heap.size w w' ∧ ResL w w' v (moR p pw g l c zs) := by
  have HR := Lib.hid hr
  have HCA := Lib.hid hca
  have hlen := hr.len
  have hsm := hr.small
  have hrow := hr.below' (below1 w (.cells #[.int .i64 p, .int .i64 pw, .int .i64 g, .int .i64 l, .int .i64 c] CT))
  have HROWS := Lib.hid (rows_one _ T1' a n cap zs hrow (w.heap.size + 1) (by simp))
  clear hr hrow hca
  go_enter Try.func34, Try.ntmps34
  go_wp2_with fail
  refine (words_any p pw g l c _ HROWS.out).mono ?_
  rintro e w1 ⟨v, rfl, hb1, hcal⟩
  have HB := Lib.hid (((below1 _ _).alloc (by simp) _).trans (hb1.mono (by simp; omega)))
  have HCAL := Lib.hid hcal
  clear hb1 hcal
  by_cases hc : codeC p pw g l c [zs] = 0
  rotate_left
  · have hcn : (codeC p pw g l c [zs] != 0) = true := by simp [hc]
    have hf1 := Lib.hid (show moR p pw g l c zs = [] by unfold moR; rw [if_neg hc])
    clear hc
    go_wp2_with fail
    go_ret2
    exact ⟨_, rfl, HB.out, by rw [hf1.out]; exact ResL.none _ _⟩
  have hcn : (codeC p pw g l c [zs] != 0) = false := by simp [hc]
  obtain ⟨b, rfl, hbb, hcod⟩ := HCAL.out hc
  obtain ⟨hv, hw⟩ := codeC_zero hc
  obtain ⟨hwl, hel⟩ := wordB_iff (hw zs (by simp))
  obtain ⟨hvB, hc1, hc2, hcl, hl1, -⟩ := validC_iff hv
  have c1 := hcod.len
  have c2 := hcod.chk
  obtain ⟨m, hm⟩ : ∃ m : Nat, l - c = (m : Int) := ⟨(l - c).toNat, by omega⟩
  have hmn : m ≤ n := by omega
  have hmc : (m : Int) ≤ (cap : Int) := by omega
  have hf1 := Lib.hid (show moR p pw g l c zs = zs.take m by unfold moR; rw [if_pos hc, hm]; rfl)
  have HC := Lib.hid hc
  have HRT := Lib.hid (show RowAt w1 a m (zs.take m) from ⟨by rw [List.length_take]; omega, by omega, fun h0 => by
    obtain ⟨b, off, e, hb, hcs⟩ := (HR.out.below' HB.out).at' (by omega)
    exact ⟨b, off, e, hb, fun j hj => by rw [gi_take hj]; exact hcs j (by omega)⟩⟩)
  clear hc hv hw hel hcod hwl hlen hvB
  have hw' : wrap64 (m : Int) = (m : Int) := IntWalk.wrap64_in _ (by omega)
  have hw3 : IntKind.i64.wrap (m : Int) = (m : Int) := IntWalk.i64_in _ (by omega)
  have hmc2 : m ≤ cap := by omega
  have hcap0 : ¬ cap = 0 := by omega
  obtain ⟨ba, oa, rfl, -, -⟩ := HR.out.at' (by omega)
  go_wp2_with fail
  refine wp_region_last (S := (fun w' => w'.cell? ⟨b, 1, none⟩ = some (.int .i64 l) ∧ w'.cell? ⟨b, 2, none⟩ = some (.int .i64 c))) 13 (by kernel_rfl) rfl (by kernel_rfl) ?_ (fun hHeld => ?_)
  · (try dsimp only); exact ⟨c1, c2⟩
  simp only [List.take_succ_cons, List.take_zero]
  refine wpAnyH_take (i := 0) (oi := _) (v := ?_) rfl (by kernel_rfl) (by kernel_rfl) (by kernel_rfl) (fun _ _ _ h => h) (Or.inl ⟨by rfl, ?_⟩) hHeld ?_
  rotate_left
  · intro w0 hSw; (try dsimp only at hSw); go_simp; (try with_reducible rfl)
  (try dsimp only [Act.put, List.setIfInBounds_toArray, List.set_cons_zero, List.set_cons_succ])
  refine wpAnyH_take (i := 1) (oi := _) (v := ?_) rfl (by kernel_rfl) (by kernel_rfl) (by kernel_rfl) (fun _ _ _ h => h) (Or.inl ⟨by rfl, ?_⟩) hHeld ?_
  rotate_left
  · intro w0 hSw; (try dsimp only at hSw); go_simp; (try with_reducible rfl)
  (try dsimp only [Act.put, List.setIfInBounds_toArray, List.set_cons_zero, List.set_cons_succ])
  refine wpAnyH_take (i := 2) (oi := _) (v := ?_) rfl (by kernel_rfl) (by kernel_rfl) (by kernel_rfl) (fun _ _ _ h => h) (Or.inl ⟨by rfl, ?_⟩) hHeld ?_
  rotate_left
  · intro w0 hSw; (try dsimp only at hSw); go_simp; (try with_reducible rfl)
  (try dsimp only [Act.put, List.setIfInBounds_toArray, List.set_cons_zero, List.set_cons_succ])
  refine wpAnyH_take (i := 3) (oi := _) (v := ?_) rfl (by kernel_rfl) (by kernel_rfl) (by kernel_rfl) (fun _ _ _ h => h) (Or.inl ⟨by rfl, ?_⟩) hHeld ?_
  rotate_left
  · intro w0 hSw; (try dsimp only at hSw); go_simp; (try with_reducible rfl)
  (try dsimp only [Act.put, List.setIfInBounds_toArray, List.set_cons_zero, List.set_cons_succ])
  refine wpAnyH_take (i := 4) (oi := _) (v := ?_) rfl (by kernel_rfl) (by kernel_rfl) (by kernel_rfl) (fun _ _ _ h => h) (Or.inl ⟨by rfl, ?_⟩) hHeld ?_
  rotate_left
  · intro w0 hSw; (try dsimp only at hSw); go_simp; (try with_reducible rfl)
  (try dsimp only [Act.put, List.setIfInBounds_toArray, List.set_cons_zero, List.set_cons_succ])
  refine wpAnyH_take (i := 5) (oi := _) (v := ?_) rfl (by kernel_rfl) (by kernel_rfl) (by kernel_rfl) (fun _ _ _ h => h) (Or.inl ⟨by rfl, ?_⟩) hHeld ?_
  rotate_left
  · intro w0 hSw; (try dsimp only at hSw); go_simp; (try with_reducible rfl)
  (try dsimp only [Act.put, List.setIfInBounds_toArray, List.set_cons_zero, List.set_cons_succ])
  refine wpAnyH_take (i := 6) (oi := _) (v := ?_) rfl (by kernel_rfl) (by kernel_rfl) (by kernel_rfl) (fun _ _ _ h => h) (Or.inl ⟨by rfl, ?_⟩) hHeld ?_
  rotate_left
  · intro w0 hSw; (try dsimp only at hSw); go_simp; (try with_reducible rfl)
  (try dsimp only [Act.put, List.setIfInBounds_toArray, List.set_cons_zero, List.set_cons_succ])
  refine wpAnyH_take (i := 7) (oi := _) (v := ?_) rfl (by kernel_rfl) (by kernel_rfl) (by kernel_rfl) (fun _ _ _ h => h) (Or.inl ⟨by rfl, ?_⟩) hHeld ?_
  rotate_left
  · intro w0 hSw; (try dsimp only at hSw); go_simp; (try with_reducible rfl)
  (try dsimp only [Act.put, List.setIfInBounds_toArray, List.set_cons_zero, List.set_cons_succ])
  refine wpAnyH_take (i := 8) (oi := _) (v := ?_) rfl (by kernel_rfl) (by kernel_rfl) (by kernel_rfl) (fun _ _ _ h => h) (Or.inl ⟨by rfl, ?_⟩) hHeld ?_
  rotate_left
  · intro w0 hSw; (try dsimp only at hSw); go_simp; (try with_reducible rfl)
  (try dsimp only [Act.put, List.setIfInBounds_toArray, List.set_cons_zero, List.set_cons_succ])
  refine wpAnyH_take (i := 9) (oi := _) (v := ?_) rfl (by kernel_rfl) (by kernel_rfl) (by kernel_rfl) (fun _ _ _ h => h) (Or.inl ⟨by rfl, ?_⟩) hHeld ?_
  rotate_left
  · intro w0 hSw; (try dsimp only at hSw); go_simp; (try with_reducible rfl)
  (try dsimp only [Act.put, List.setIfInBounds_toArray, List.set_cons_zero, List.set_cons_succ])
  refine wpAnyH_take (i := 10) (oi := _) (v := ?_) rfl (by kernel_rfl) (by kernel_rfl) (by kernel_rfl) (fun _ _ _ h => h) (Or.inl ⟨by rfl, ?_⟩) hHeld ?_
  rotate_left
  · intro w0 hSw; (try dsimp only at hSw); go_simp; (try with_reducible rfl)
  (try dsimp only [Act.put, List.setIfInBounds_toArray, List.set_cons_zero, List.set_cons_succ])
  refine wpAnyH_ready (rs := [11]) (by kernel_rfl) (by simp) ?_
  refine AllReadyH.cons (o := _) rfl (fun K hK => ?_) AllReadyH.nil
  go_simp
  refine (copyOf_any (HRT.out.below' (Drew.below (drew1 w1) _)) HCA.out (by omega)).mono ?_
  rintro e w2 ⟨v, rfl, hb2, ho2⟩
  go_wp2_with fail
  refine hK.out _ _ ?_ (fun hHeld => ?_)
  · (try dsimp only); exact ⟨keep_cell hb2 hHeld.1, keep_cell hb2 hHeld.2⟩
  clear hK K
  (try dsimp only [Act.put, List.setIfInBounds_toArray, List.set_cons_zero, List.set_cons_succ])
  refine wpAnyH_take (i := 12) (oi := _) (v := ?_) rfl (by kernel_rfl) (by kernel_rfl) (by kernel_rfl) (fun _ _ _ h => h) (Or.inl ⟨by rfl, ?_⟩) hHeld ?_
  rotate_left
  · intro w0 hSw; (try dsimp only at hSw); go_simp; (try with_reducible rfl)
  (try dsimp only [Act.put, List.setIfInBounds_toArray, List.set_cons_zero, List.set_cons_succ])
  refine wpAnyH_done (by kernel_rfl) (lastQ_normal ?_) _
  have hb2' := Below.trans (Drew.below (drew1 w1) w1.heap.size) hb2
  have HB2 := Lib.hid (HB.out.trans (hb2'.mono HB.out.size))
  have HO2 := Lib.hid ((ho2.lower (C := w1.heap.size) (Nat.le_refl _)).res (w := w) HB.out.size)
  clear hb2 ho2
  go_wp2_with fail
  go_ret2
  exact ⟨_, by rw [HC.out]; rfl, HB2.out, by rw [hf1.out]; exact HO2.out⟩
end Go.Proofs.Ythbiieflmmnfcaa
