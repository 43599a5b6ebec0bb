/-
  The walks of the two DamageOf, and the plain laws of damage.
-/
import Derived.Test.YtcjkmfhnlggohaaGreatCorW
import Derived.Test.YtcjkmfhnlggohaaGreatTwo
import Derived.Test.YtcjkmfhnlggohaaGreatDecU
import Derived.BigQuiet
namespace Go.Proofs.YtcjkmfhnlggohaaGreat
open Go.RowKit
set_option linter.unusedVariables false

/-- Twice the indices below k, outside E, at which two words differ, and the number of E. -/
def dmgN (W o E : List Int) (k : Nat) : Int := (E.length : Int) + 2 * ((filtL (fun i => (gi W i != gi o i) && !memB E (i : Int)) k).length : Int)
theorem dmgN_zero (W o E : List Int) : dmgN W o E 0 = E.length := by unfold dmgN filtL; simp
theorem dmgN_yes {W o E : List Int} {k : Nat} (h : (gi W k != gi o k) = true) (h2 : memB E (k : Int) = false) : dmgN W o E (k + 1) = dmgN W o E k + 2 := by
  unfold dmgN
  rw [filtL_yes (show ((gi W k != gi o k) && !memB E (k : Int)) = true by rw [h, h2]; rfl), List.length_append]
  simp; omega
theorem dmgN_no {W o E : List Int} {k : Nat} (h : (gi W k != gi o k) = false) : dmgN W o E (k + 1) = dmgN W o E k := by
  unfold dmgN
  rw [filtL_no (show ((gi W k != gi o k) && !memB E (k : Int)) = false by rw [h]; rfl)]
theorem dmgN_has {W o E : List Int} {k : Nat} (h2 : memB E (k : Int) = true) : dmgN W o E (k + 1) = dmgN W o E k := by
  unfold dmgN
  rw [filtL_no (show ((gi W k != gi o k) && !memB E (k : Int)) = false by rw [h2]; simp)]
theorem dmgN_le (W o E : List Int) (k : Nat) : (E.length : Int) ≤ dmgN W o E k ∧ dmgN W o E k ≤ E.length + 2 * k := by
  unfold dmgN
  have := filtL_length (fun i => (gi W i != gi o i) && !memB E (i : Int)) k
  omega
noncomputable def dmgR (p pw g l c : Int) (W o E : List Int) : Int := if dmC p pw g l c [W, o] E = 0 then dmgN W o E W.length else 0
theorem codeC_left {p pw g l c : Int} {W o : List Int} (h : codeC p pw g l c [W, o] = 0) : codeC p pw g l c [W] = 0 := by
  obtain ⟨hv, hw⟩ := codeC_zero h
  unfold codeC wordsB
  rw [if_pos hv, if_pos (by simp [hw W (by simp)])]
theorem dmC_left {p pw g l c : Int} {W o E : List Int} (h : codeC p pw g l c [W, o] = 0) : dmC p pw g l c [W] E = dmC p pw g l c [W, o] E := by
  unfold dmC; rw [if_pos h, if_pos (codeC_left h)]
theorem holds_any (w : World) {a : Option Addr} {n cap : Nat} {zs : List Int} (hr : RowAt w a n zs) (x : Int) :
    Calls Tryz.prog 24 #[.slice a n cap, .int .i64 x] w fun e w' => e = .returned (.bool (memB zs x)) ∧ w = w' := by
  have HR := Lib.hid hr
  have hl := Lib.hid hr.len
  have hsm := hr.small
  clear hr
  go_enter Tryz.func24, Tryz.ntmps24
  go_wp2_with fail
  go_loop [9] (fun t => ∃ k : Nat, k ≤ n ∧ t = .int .i64 k ∧ Hid (∀ j, j < k → gi zs j ≠ x)) (fun t => n - (intOf t).toNat)
  case atStart => exact ⟨0, by omega, rfl, fun j hj => by omega⟩
  case round =>
    obtain ⟨k, hk, rfl, hall⟩ := hrel
    by_cases hlt : k < n
    · obtain ⟨b1, o1, rfl, hb1, hcs⟩ := HR.out.at' (by omega)
      have hcell := hcs k hlt
      clear hcs
      by_cases hz : gi zs k = x
      · have hzb : (gi zs k == x) = true := by simp [hz]
        have hf := Lib.hid (show memB zs x = true by unfold memB; rw [List.contains_iff_mem, ← hz]; exact gi_mem (by rw [hl.out]; exact hlt))
        clear hz
        go_wp2_with fail
        go_ret
        exact ⟨ret_bool hf.out.symm, rfl⟩
      · have hzb : (gi zs k == x) = false := by simp [hz]
        have hall2 : Hid (∀ j, j < k + 1 → gi zs j ≠ x) := Lib.hid fun j hj => by
          rcases Nat.lt_or_ge j k with h | h
          · exact hall.out j h
          · obtain rfl : j = k := by omega
            exact hz
        clear hz
        go_wp2_with fail
        go_round
        case rel => exact ⟨k + 1, by omega, by go_num, hall2⟩
        case measure => simp [intOf]; omega
    · have hf := Lib.hid (show memB zs x = false from by
        unfold memB
        cases h : zs.contains x
        · rfl
        · obtain ⟨j, hj, e⟩ := mem_gi (List.contains_iff_mem.1 h)
          exact absurd e (hall.out j (by have := hl.out; omega)))
      go_wp2_with fail
      go_ret
      exact ⟨ret_bool hf.out.symm, rfl⟩
/-- Elements of a field. -/
def VFels (F : FF) (zs : List Int) : Prop := ∀ z ∈ zs, F.el z
theorem VFels_set {F : FF} {zs : List Int} (h : VFels F zs) (k : Nat) {y : Int} (hy : F.el y) : VFels F (zs.set k y) := fun z hz => by
  rcases List.mem_or_eq_of_mem_set hz with h1 | h1
  · exact h z h1
  · subst h1; exact hy
theorem el_zero (F : FF) (h : 0 < F.size) : F.el 0 := ⟨Int.le_refl _, h⟩
theorem next_el {z s : Int} (h0 : 0 ≤ z) (h1 : z < s) (h2 : 2 ≤ s) : 0 ≤ (z + 1).tmod s ∧ (z + 1).tmod s < s ∧ (z + 1).tmod s ≠ z := by
  rw [Int.tmod_eq_emod_of_nonneg (by omega)]
  rcases Int.lt_or_le (z + 1) s with h3 | h3
  · rw [Int.emod_eq_of_lt (by omega) h3]; omega
  · have : z + 1 = s := by omega
    rw [this, Int.emod_self]; omega
set_option maxHeartbeats 1000000 in
theorem implDamageOf_any (p pw g l c : Int) (w : World) {a : Option Addr} {n cap : Nat} {W : List Int} (hr : RowAt w a n W) {a2 : Option Addr} {n2 cap2 : Nat} {o : List Int} (hr2 : RowAt w a2 n2 o) {a' : Option Addr} {n' cap' : Nat} {E : List Int} (hr' : RowAt w a' n' E) :
    Calls Tryz.prog 11 #[cV p pw g l c, .slice a n cap, .slice a2 n2 cap2, .slice a' n' cap'] w fun e w' => e = .returned (.tuple #[.int .i64 (dmgR p pw g l c W o E), .int .i64 (dmC p pw g l c [W, o] E)]) ∧ Below w.heap.size w w' := by
  have HR := Lib.hid hr
  have HR2 := Lib.hid hr2
  have HR' := Lib.hid hr'
  have hl := Lib.hid hr.len
  have hl2 := Lib.hid hr2.len
  have hle := Lib.hid hr'.len
  have hrow := hr.below' (below1 w (.cells #[.int .i64 p, .int .i64 pw, .int .i64 g, .int .i64 l, .int .i64 c] CT))
  have hrow2 := hr2.below' (below1 w (.cells #[.int .i64 p, .int .i64 pw, .int .i64 g, .int .i64 l, .int .i64 c] CT))
  have HROWS := Lib.hid (rows_two _ T1' a n cap W hrow a2 n2 cap2 o hrow2 (w.heap.size + 1) (by simp))
  have HX := Lib.hid ((boxC_new w p pw g l c CT).below (below1 _ (.cells #[.slice a n cap, .slice a2 n2 cap2] T1')) (boxC_new w p pw g l c CT).lt)
  clear hr hr2 hr' hrow hrow2
  go_enter Tryz.func11, Tryz.ntmps11
  go_wp2_with fail
  refine (words_any p pw g l c _ HROWS.out).mono ?_
  rintro e w1 ⟨v, rfl, hb1, -⟩
  have HB := Lib.hid (((below1 _ _).alloc (by simp) _).trans (hb1.mono (by simp; omega)))
  have HX1 := Lib.hid (HX.out.below hb1 HX.out.lt)
  clear hb1 HX
  by_cases hcc : codeC p pw g l c [W, o] = 0
  rotate_left
  · have hcn : (codeC p pw g l c [W, o] != 0) = true := by simp [hcc]
    have hfc := Lib.hid (dmC_bad (E := E) hcc)
    have hf := Lib.hid (show dmgR p pw g l c W o E = 0 by unfold dmgR; rw [if_neg (by rw [hfc.out]; exact hcc)])
    clear hcc
    obtain ⟨cc, hcc⟩ : ∃ cc, cc = codeC p pw g l c [W, o] := ⟨_, rfl⟩
    rw [← hcc] at hcn ⊢
    have HG := Lib.hid hcc
    clear hcc
    go_wp2_with fail
    go_ret2
    exact ⟨by rw [hf.out, hfc.out, ← HG.out]; rfl, HB.out⟩
  have hcn : (codeC p pw g l c [W, o] != 0) = false := by simp [hcc]
  have HD := Lib.hid (dmC_left (E := E) hcc)
  have HDA := Lib.hid (damaged_any p pw g l c w1 (cap := cap) (HR.out.below' HB.out) (cap' := cap') (HR'.out.below' HB.out))
  have HCC := Lib.hid hcc
  obtain ⟨_, x0, x1, x2, x3, x4⟩ := HX1.out
  clear hcc
  go_wp2_with fail
  refine HDA.out.mono ?_
  rintro e w2 ⟨v2, rfl, hb2, hco⟩
  rw [HD.out] at hco ⊢
  have HB2 := Lib.hid (HB.out.trans (hb2.mono HB.out.size))
  have HCO := Lib.hid hco
  clear hb2 hco HB HX1 HDA
  by_cases hc : dmC p pw g l c [W, o] E = 0
  rotate_left
  · have hcn2 : (dmC p pw g l c [W, o] E != 0) = true := by simp [hc]
    have hf := Lib.hid (show dmgR p pw g l c W o E = 0 by unfold dmgR; rw [if_neg hc])
    clear hc x0 x1 x2 x3 x4
    obtain ⟨cc, hcc⟩ : ∃ cc, cc = dmC p pw g l c [W, o] E := ⟨_, rfl⟩
    rw [← hcc] at hcn2 ⊢
    have HG := Lib.hid hcc
    clear hcc
    go_wp2_with fail
    go_ret2
    exact ⟨by rw [hf.out, ← HG.out]; rfl, HB2.out⟩
  have hcn2 : (dmC p pw g l c [W, o] E != 0) = false := by simp [hc]
  obtain ⟨b, rfl, _, _⟩ := HCO.out hc
  have hf := Lib.hid (show dmgR p pw g l c W o E = dmgN W o E n by unfold dmgR; rw [if_pos hc, hl.out])
  obtain ⟨hv, hw⟩ := codeC_zero (dmC_zero hc).1
  obtain ⟨_, hc1, hc2, hcl, hl1, _⟩ := validC_iff hv
  have hw1 := (wordB_iff (hw W (by simp))).1
  have hw2 := (wordB_iff (hw o (by simp))).1
  have hn : n ≤ 255 := by have := hl.out; omega
  obtain rfl : n2 = n := by have := hl.out; have := hl2.out; omega
  have hnE := HR'.out.small
  have HC := Lib.hid hc
  have HR1 := Lib.hid (HR.out.below' HB2.out)
  have HR3 := Lib.hid (HR2.out.below' HB2.out)
  have HR4 := Lib.hid (HR'.out.below' HB2.out)
  have hEl : E.length = n' := hle.out
  have HST := Lib.hid (show ((n' : Nat) : Int) = dmgN W o E 0 by rw [dmgN_zero, hEl])
  have hris := (risB_iff (dmC_zero hc).2)
  have hnE2 : n' ≤ 256 := by
    have h1 := ris_len hris (by omega)
    omega
  clear hc hv hw hw1 hw2 hcl hc1 hc2 hl1 hEl hris x0 x1 x2 x3 x4
  go_wp2_with fail
  go_loopw [13, 45] (fun m t wr => ∃ (k : Nat) (z : Int), k ≤ n2 ∧ t = .int .i64 k ∧ m = .int .i64 z ∧ 0 ≤ z ∧ z ≤ 10000 ∧ Hid (z = dmgN W o E k) ∧ wr = w2) (fun _ t _ => n2 - (intOf t).toNat)
  case atStart => exact ⟨0, (n' : Int), by omega, rfl, rfl, by omega, by omega, HST, rfl⟩
  case round =>
    obtain ⟨k, z, hk, rfl, rfl, hz1, hz2, hzz, rfl⟩ := hrel
    by_cases hlt : k < n2
    · obtain ⟨b1, o1, e1, _, hcs⟩ := HR1.out.at' (by omega)
      obtain ⟨b2, o2, e2, _, hcs'⟩ := HR3.out.at' (by omega)
      subst e1 e2
      have hc1 := hcs k hlt
      have hc2 := hcs' k hlt
      have HN := Lib.hid (fun h => dmgN_no (W := W) (o := o) (E := E) (k := k) h)
      have HH := Lib.hid (fun h => dmgN_has (W := W) (o := o) (E := E) (k := k) h)
      have HY := Lib.hid (fun h h2 => dmgN_yes (W := W) (o := o) (E := E) (k := k) h h2)
      have HLE := Lib.hid (dmgN_le W o E (k + 1))
      have HHO := Lib.hid (holds_any wr (cap := cap') HR4.out (k : Int))
      clear hcs hcs'
      generalize gi W k = x at *
      generalize gi o k = y at *
      cases hb : (x != y)
      · have HN2 := Lib.hid (show z = dmgN W o E (k + 1) by rw [HN.out hb]; exact hzz.out)
        go_wp2_with fail
        go_roundw
        case rel => exact ⟨k + 1, z, by omega, by go_num, rfl, by omega, by omega, HN2, by first | rfl | trivial⟩
        case measure => simp [intOf]; omega
      · cases hm : memB E (k : Int)
        · have HN2 := Lib.hid (show z + 2 = dmgN W o E (k + 1) by rw [HY.out hb hm, ← hzz.out])
          have hz3 : z + 2 ≤ 10000 := by have := HLE.out; have := HN2.out; have := hle.out; omega
          rw [hm] at HHO
          clear hm
          go_wp2_with fail
          refine HHO.out.mono ?_
          rintro e w3 ⟨rfl, rfl⟩
          go_wp2_with fail
          go_roundw
          case rel => exact ⟨k + 1, z + 2, by omega, by go_num, by go_num, by omega, by omega, HN2, by first | rfl | trivial⟩
          case measure => simp [intOf]; omega
        · have HN2 := Lib.hid (show z = dmgN W o E (k + 1) by rw [HH.out hm]; exact hzz.out)
          rw [hm] at HHO
          clear hm
          go_wp2_with fail
          refine HHO.out.mono ?_
          rintro e w3 ⟨rfl, rfl⟩
          go_wp2_with fail
          go_roundw
          case rel => exact ⟨k + 1, z, by omega, by go_num, rfl, by omega, by omega, HN2, by first | rfl | trivial⟩
          case measure => simp [intOf]; omega
    · obtain rfl : k = n2 := by omega
      have hfin : dmgR p pw g l c W o E = z := by rw [hf.out, ← hzz.out]
      go_wp2_with fail
      go_ret2
      exact ⟨by rw [hfin, HC.out]; rfl, HB2.out⟩
theorem dmgN_congr {W W' o E : List Int} {k : Nat} (h : ∀ i, i < k → gi W i = gi W' i) : dmgN W o E k = dmgN W' o E k := by
  unfold dmgN
  rw [filtL_congr fun i hi => by rw [h i hi]]
theorem dmgN_errs (W o E : List Int) (L : Nat) : dmgN W o E L = (E.length : Int) + 2 * ((errs L W E o).length : Int) := by
  unfold dmgN errs memB
  rw [filtL_congr fun i _ => Bool.and_comm _ _]
theorem icwB_of {p pw g l c : Int} {o : List Int} (h : codeC p pw g l c [o] = 0) (hz : ∀ j, j < c.toNat → svTo (ffOf p pw g) o ((ffOf p pw g).exp (j + 1)) o.length = 0) : icwB p pw g l c o = true := by
  unfold icwB
  rw [decide_eq_true h, Bool.true_and]
  unfold zeroB
  rw [List.all_eq_true]
  intro z hz2
  obtain ⟨j, hj, rfl⟩ := mem_gi hz2
  rw [syn_length] at hj
  rw [syn_gi _ _ hj, hz j hj]; rfl
theorem icwB_zero {p pw g l c : Int} {o : List Int} (h : icwB p pw g l c o = true) : codeC p pw g l c [o] = 0 ∧ ∀ j, j < c.toNat → svTo (ffOf p pw g) o ((ffOf p pw g).exp (j + 1)) o.length = 0 := by
  unfold icwB at h
  rw [Bool.and_eq_true, decide_eq_true_eq] at h
  refine ⟨h.1, fun j hj => Classical.byContradiction fun hne => ?_⟩
  rw [← syn_gi (ffOf p pw g) o hj] at hne
  rw [zeroB_not (by rw [syn_length]; exact hj) hne] at h
  exact Bool.noConfusion h.2
theorem codeC_two {p pw g l c : Int} {W o : List Int} (h1 : codeC p pw g l c [W] = 0) (h2 : codeC p pw g l c [o] = 0) : codeC p pw g l c [W, o] = 0 := by
  obtain ⟨hv, hw⟩ := codeC_zero h1
  obtain ⟨_, hw2⟩ := codeC_zero h2
  unfold codeC wordsB
  rw [if_pos hv, if_pos (by simp [hw W (by simp), hw2 o (by simp)])]
/-- A corrected word is a code word within the bound. -/
theorem corrected_plain {p pw g l c : Int} {W E : List Int} (h : crC p pw g l c W E = 0) :
    dmC p pw g l c [W, crO p pw g l c W E] E = 0 ∧ dmgR p pw g l c W (crO p pw g l c W E) E ≤ c ∧ icwB p pw g l c (crO p pw g l c W E) = true := by
  have h0 : dmC p pw g l c [W] E = 0 := Classical.byContradiction fun hn => hn ((cr_bad hn).1.symm.trans h)
  have hcc := dmC_zero h0
  obtain ⟨V, n, hs, rfl, hz, hwl, hris, hy, hno⟩ := cr_V h0
  obtain ⟨hvB, hc1, hc2, hcl, hl1, hlz⟩ := validC_iff hs.valid
  have hf : fixB V n c.toNat W E = true := by
    cases hf : fixB V n c.toNat W E
    · have := (hno hf).1; omega
    · rfl
  have hd := fix_spec hf
  rw [(hy hf).2.1]
  have hco : codeC p pw g (n : Int) c [fixO V n c.toNat W E] = 0 := codeC_one hs.valid (by
    unfold wordB
    rw [Bool.and_eq_true, decide_eq_true_eq]
    exact ⟨by rw [hd.len], allB_iff.2 (by rw [← hs.sf.hV]; exact hd.els)⟩)
  have hd2 : dmC p pw g (n : Int) c [W, fixO V n c.toNat W E] E = 0 := dmC_ok (codeC_two hcc.1 hco) hcc.2
  refine ⟨hd2, ?_, icwB_of hco fun j hj => ?_⟩
  · unfold dmgR
    rw [if_pos hd2, hwl, dmgN_errs]
    have := hd.dmg; omega
  · rw [hd.len, ← hs.sf.hV]; exact hd.zero j hj
/-- A word whose damage is within the bound is corrected to what was sent. -/
theorem within_plain {p pw g l c : Int} {W S E hz : List Int} {left : Int} (h : dmC p pw g l c [W, S] E = 0) (hi : icwB p pw g l c S = true) (hl : hz.length = S.length) (he : ∀ z ∈ hz, (ffOf p pw g).el z)
    (hd : dmgN hz S E S.length = c - left) (h0 : (E.length : Int) ≤ c → 0 ≤ left) :
    ((E.length : Int) > c → crC p pw g l c hz E = 7) ∧ (¬ (E.length : Int) > c → crC p pw g l c hz E = 0 ∧ crO p pw g l c hz E = S) := by
  have hcc := dmC_zero h
  obtain ⟨hiC, hiz⟩ := icwB_zero hi
  obtain ⟨hv, hw⟩ := codeC_zero hiC
  obtain ⟨hsl, hse⟩ := wordB_iff (hw S (by simp))
  have hch : codeC p pw g l c [hz] = 0 := codeC_one hv (by
    unfold wordB
    rw [Bool.and_eq_true, decide_eq_true_eq]
    exact ⟨by rw [hl]; exact hsl, allB_iff.2 he⟩)
  obtain ⟨V, n, hs, rfl, hze, hwl, hris, hy, hno⟩ := cr_V (dmC_ok hch hcc.2)
  obtain ⟨hvB, hc1, hc2, hcl, hl1, hlz⟩ := validC_iff hs.valid
  constructor
  · intro hgt
    cases hf : fixB V n c.toNat hz E
    · exact (hno hf).1
    · have := (fix_spec hf).dmg; omega
  · intro hle
    have hSl : S.length = n := by omega
    have hD : Dec V n c.toNat hz E S := by
      refine ⟨fun z hz => by rw [hs.sf.hV]; exact hse z hz, hSl, fun j hj => ?_, ?_⟩
      · have := hiz j hj
        rw [hSl] at this
        rw [hs.sf.hV]; exact this
      · rw [dmgN_errs, hSl] at hd
        have := h0 (by omega); omega
    obtain ⟨f1, f2⟩ := hD.fix (by rw [hs.sf.hV]; omega) (by omega) hze (by omega) hris
    have h3 := hy f1
    exact ⟨h3.1, by rw [h3.2.1, f2]⟩
end Go.Proofs.YtcjkmfhnlggohaaGreat
