/-
  The parts Roots, Find.
-/
import Derived.Test.YtfhkkpfiflgofaaLocs
import Derived.Test.YtfhkkpfiflgofaaFits
/-
  Indices whose locators' inverses are roots: the walks of rootIndices and l05Find.
-/
namespace Go.Proofs.Ytfhkkpfiflgofaa
open Go.RowKit
set_option linter.unusedVariables false

/-- The value at the inverse of a locator. -/
def rootV (F : FF) (l : Int) (zs : List Int) (i : Nat) : Int := evI F zs (F.inv (locI F l (i : Int)))
/-- The indices below k at which a polynomial has a root. -/
def rootTo (F : FF) (l : Int) (zs : List Int) (k : Nat) : List Int := ((List.range k).filter fun i => rootV F l zs i == 0).map Int.ofNat
theorem rootTo_yes {F : FF} {l : Int} {zs : List Int} {k : Nat} (h : rootV F l zs k = 0) : rootTo F l zs (k + 1) = rootTo F l zs k ++ [(k : Int)] := by
  unfold rootTo; rw [List.range_succ, List.filter_append, List.map_append]; simp [h]
theorem rootTo_no {F : FF} {l : Int} {zs : List Int} {k : Nat} (h : ¬ rootV F l zs k = 0) : rootTo F l zs (k + 1) = rootTo F l zs k := by
  unfold rootTo; rw [List.range_succ, List.filter_append, List.map_append]; simp [h]
theorem rootTo_length (F : FF) (l : Int) (zs : List Int) (k : Nat) : (rootTo F l zs k).length ≤ k := by
  unfold rootTo; rw [List.length_map]; exact Nat.le_trans (List.length_filter_le _ _) (by simp)
theorem gi_append_last (l : List Int) (x : Int) : gi (l ++ [x]) l.length = x := by
  unfold gi; rw [List.getD_eq_getElem?_getD, List.getElem?_append_right (Nat.le_refl _), Nat.sub_self]; rfl
theorem RisTo.snoc {lo hi x : Int} {zs : List Int} (h : RisTo lo hi zs zs.length) (h1 : lo ≤ x) (h2 : x ≤ hi) (h3 : ∀ z ∈ zs, z < x) : RisTo lo hi (zs ++ [x]) (zs ++ [x]).length := by
  rw [List.length_append]
  intro k hk
  rcases Nat.lt_or_ge k zs.length with hl | hl
  · obtain ⟨a, b, c⟩ := h k hl
    rw [gi_append_left hl]
    exact ⟨a, b, fun h0 => by rw [gi_append_left (by omega)]; exact c h0⟩
  · have : k = zs.length := by simp at hk; omega
    subst this
    rw [gi_append_last]
    refine ⟨h1, h2, fun h0 => ?_⟩
    rw [gi_append_left (by omega)]
    refine h3 _ ?_
    unfold gi
    rw [List.getD_eq_getElem?_getD, List.getElem?_eq_getElem (by omega)]
    exact List.getElem_mem _
theorem rootTo_lt (F : FF) (l : Int) (zs : List Int) (k : Nat) : ∀ z ∈ rootTo F l zs k, 0 ≤ z ∧ z < (k : Int) := fun z hz => by
  unfold rootTo at hz
  obtain ⟨i, hi, rfl⟩ := List.mem_map.1 hz
  have := List.mem_range.1 (List.mem_filter.1 hi).1
  exact ⟨Int.natCast_nonneg _, by show ((i : Nat) : Int) < _; omega⟩
theorem rootTo_ris (F : FF) (l : Int) (zs : List Int) (hi : Int) (k : Nat) (hk : (k : Int) ≤ hi + 1) : RisTo 0 hi (rootTo F l zs k) (rootTo F l zs k).length := by
  induction k with
  | zero => intro j hj; exact absurd hj (by show ¬ j < 0; omega)
  | succ k ih =>
    have ih := ih (by omega)
    by_cases h : rootV F l zs k = 0
    · rw [rootTo_yes h]
      exact ih.snoc (by omega) (by omega) (fun z hz => (rootTo_lt F l zs k z hz).2)
    · rw [rootTo_no h]; exact ih
theorem rootTo_mem {F : FF} {l : Int} {zs : List Int} {k : Nat} {z : Int} : z ∈ rootTo F l zs k ↔ ∃ i : Nat, i < k ∧ z = (i : Int) ∧ rootV F l zs i = 0 := by
  unfold rootTo
  rw [List.mem_map]
  constructor
  · rintro ⟨i, hi, rfl⟩
    obtain ⟨h1, h2⟩ := List.mem_filter.1 hi
    exact ⟨i, List.mem_range.1 h1, rfl, by simpa using h2⟩
  · rintro ⟨i, hi, rfl, h⟩
    exact ⟨i, List.mem_filter.2 ⟨List.mem_range.2 hi, by simpa using h⟩, rfl⟩
/-- The locators of different indices differ. -/
theorem locI_inj {V : VF} {l i j : Int} (hl : l < V.F.size) (hi0 : 0 ≤ i) (hi1 : i ≤ l - 1) (hj0 : 0 ≤ j) (hj1 : j ≤ l - 1) (e : locI V.F l i = locI V.F l j) : i = j := by
  unfold locI at e
  have hN := FF.N_size V.ok
  have := FF.exp_inj V.ok _ _ (by omega) (by omega) e
  omega
theorem locI_ne {V : VF} (l i : Int) : locI V.F l i ≠ 0 := FF.exp_ne_zero V.ok _
theorem nodup_of_ris {lo hi : Int} {zs : List Int} (h : RisTo lo hi zs zs.length) : zs.Nodup := by
  rw [List.nodup_iff_pairwise_ne, List.pairwise_iff_getElem]
  have hs : ∀ i j (hij : i < j) (hj : j < zs.length), gi zs i < gi zs j := by
    intro i j hij
    induction j with
    | zero => omega
    | succ j ih =>
      intro hj
      have h1 := (h (j + 1) hj).2.2 (by omega)
      rw [Nat.add_sub_cancel] at h1
      rcases Nat.lt_or_ge i j with h2 | h2
      · have := ih h2 (by omega); omega
      · have : i = j := by omega
        subst this; exact h1
  intro i j hi hj hij e
  have := hs i j hij hj
  unfold gi at this
  rw [List.getD_eq_getElem?_getD, List.getElem?_eq_getElem hi, List.getD_eq_getElem?_getD, List.getElem?_eq_getElem hj] at this
  simp only [Option.getD_some] at this
  omega
theorem ris_mem {lo hi : Int} {zs : List Int} (h : RisTo lo hi zs zs.length) {z : Int} (hz : z ∈ zs) : lo ≤ z ∧ z ≤ hi := by
  obtain ⟨k, hk, rfl⟩ := List.getElem_of_mem hz
  have := h k hk
  unfold gi at this
  rw [List.getD_eq_getElem?_getD, List.getElem?_eq_getElem hk] at this
  exact ⟨this.1, this.2.1⟩
theorem locs_nodup {V : VF} {l : Int} (hl : l < V.F.size) {zs : List Int} (h : RisTo 0 (l - 1) zs zs.length) : (zs.map fun i => VF.of V (locI V.F l i)).Nodup := by
  rw [List.nodup_iff_pairwise_ne, List.pairwise_map]
  refine List.Pairwise.imp_of_mem (fun {a b} ha hb hab e => hab ?_) (List.nodup_iff_pairwise_ne.1 (nodup_of_ris h))
  obtain ⟨h1, h2⟩ := ris_mem h ha
  obtain ⟨h3, h4⟩ := ris_mem h hb
  exact locI_inj hl h1 h2 h3 h4 (VF.of_inj (locI_el V l a) (locI_el V l b) e)
theorem loc_inv {V : VF} (l i : Int) : VF.of V (locI V.F l i) * VF.of V (V.F.inv (locI V.F l i)) = 1 := VF.of_inv (locI_el V l i) (locI_ne l i)
theorem rootV_ev {V : VF} {l : Int} {zs : List Int} (hz : VF.els V zs) (i : Nat) : VF.of V (rootV V.F l zs i) = PS.ev (VF.ps V zs) (VF.of V (V.F.inv (locI V.F l i))) := evI_of hz (FF.inv_el V.ok _)
theorem rootV_el {V : VF} {l : Int} {zs : List Int} (hz : VF.els V zs) (i : Nat) : V.F.el (rootV V.F l zs i) := evI_el V.ok hz _
/-- A polynomial that starts with 1 is the locator polynomial of its roots exactly if it has as many as its degree. -/
theorem roots_loc {V : VF} {l : Int} {L : Nat} (hL : l = (L : Int)) (hl : l < V.F.size) {zs : List Int} (hz : VF.isP V zs) (h0 : zs ≠ []) :
    (gi zs 0 = 1 ∧ (rootTo V.F l zs L).length = zs.length - 1) ↔ VF.lst V (locP V l (rootTo V.F l zs L)) = zs := by
  subst hL
  have hpos : 0 < zs.length := List.length_pos_iff.2 h0
  have hris := rootTo_ris V.F (L : Int) zs ((L : Int) - 1) L (by omega)
  constructor
  · rintro ⟨h1, h2⟩
    obtain ⟨c, hc, hd⟩ := PS.lam_dvd ((rootTo V.F (L : Int) zs L).map fun i => VF.of V (locI V.F (L : Int) i)) (VF.ps V zs) zs.length (VF.ps_dlt zs) (locs_nodup hl hris) (by
      intro a ha
      obtain ⟨z, hzm, rfl⟩ := List.mem_map.1 ha
      obtain ⟨i, hi, rfl, hr⟩ := rootTo_mem.1 hzm
      refine ⟨_, loc_inv _ _, ?_⟩
      rw [← rootV_ev hz.els i, hr]; exact VF.of_zero)
    rw [List.length_map, h2, show zs.length - (zs.length - 1) = 1 by omega] at hd
    have hc0 : c = PS.C (c.c 0) := PS.ext' fun n => by
      cases n with
      | zero => rw [PS.C_c_zero]
      | succ n => rw [PS.C_c_succ, hd _ (by omega)]
    have h3 : (VF.ps V zs).c 0 = 1 := by rw [VF.ps_c]; show VF.of V (gi zs 0) = 1; rw [h1]; exact VF.of_one
    rw [hc, PS.mul_c_zero, PS.lam_c_zero] at h3
    have h4 : c.c 0 = 1 := by grind
    rw [h4, PS.C_one] at hc0
    refine VF.lst_of hz ?_
    show _ = PS.lam _
    rw [hc, hc0]; grind
  · intro e
    have hne : ∀ x : PS (El V), x.dlt 0 → x = 0 := fun x h => PS.eq_zero_of_dlt h
    have h1 := VF.lst_eq (locP_poly V (L : Int) (rootTo V.F (L : Int) zs L))
    rw [e] at h1
    refine ⟨?_, ?_⟩
    · have h2 : (VF.ps V zs).c 0 = 1 := by rw [h1]; exact PS.lam_c_zero _
      rw [VF.ps_c] at h2
      exact VF.of_inj (hz.els.getD 0) (FF.one_el V.ok) (h2.trans VF.of_one.symm)
    · have hlen := locP_len V (L : Int) (rootTo V.F (L : Int) zs L)
      rw [e] at hlen
      -- the product of m factors has a top coefficient
      have htop : (locP V (L : Int) (rootTo V.F (L : Int) zs L)).c (rootTo V.F (L : Int) zs L).length ≠ 0 := by
        unfold locP
        generalize rootTo V.F (L : Int) zs L = rs
        induction rs with
        | nil => show (1 : PS (El V)).c 0 ≠ 0; rw [PS.one_c]; exact Fld.one_ne
        | cons a rs ih =>
          show (PS.lf (VF.of V (locI V.F (L : Int) a)) * PS.lam (rs.map fun i => VF.of V (locI V.F (L : Int) i)) : PS (El V)).c (rs.length + 1) ≠ 0
          have hd := PS.dlt_lam (rs.map fun i => VF.of V (locI V.F (L : Int) i))
          rw [List.length_map] at hd
          have := PS.mul_top hd 1 (PS.lf (VF.of V (locI V.F (L : Int) a))) (PS.dlt_lf _)
          rw [Nat.add_comm 1] at this
          rw [this]
          refine mul_ne ?_ ih
          show (1 - PS.C _ * PS.X : PS (El V)).c 1 ≠ 0
          rw [PS.sub_c, PS.one_c, PS.C_mul_c]
          show (if 1 = 0 then (1 : El V) else 0) - VF.of V (locI V.F (L : Int) a) * (if 1 = 1 then (1 : El V) else 0) ≠ 0
          simp only [if_neg (show ¬ (1 : Nat) = 0 by omega), if_true]
          intro h0
          have h1 : VF.of V (locI V.F (L : Int) a) = 0 := by grind
          exact locI_ne (V := V) _ _ ((VF.of_eq_zero (locI_el V _ _)).1 h1)
      have : (rootTo V.F (L : Int) zs L).length < zs.length := by
        apply Classical.byContradiction; intro hn
        apply htop
        rw [← h1]
        exact VF.ps_dlt zs _ (by omega)
      omega
end Go.Proofs.Ytfhkkpfiflgofaa
/-
  The walks of rootIndices, l05Find and l05Same.
-/
namespace Go.Proofs.Ytfhkkpfiflgofaa
open Go.RowKit
set_option linter.unusedVariables false

open Classical in
/-- Whether the locator polynomial of the roots is the polynomial itself. -/
noncomputable def rootB (V : VF) (l : Int) (zs : List Int) : Bool := decide (zs ≠ [] ∧ gi zs 0 = 1 ∧ (rootTo V.F l zs l.toNat).length = zs.length - 1)
open Classical in
noncomputable def rootL (V : VF) (l : Int) (zs : List Int) : List Int := if zs ≠ [] ∧ gi zs 0 = 1 then rootTo V.F l zs l.toNat else []
theorem root_no {V : VF} {l : Int} {zs : List Int} (h : ¬ (zs ≠ [] ∧ gi zs 0 = 1)) : rootB V l zs = false ∧ rootL V l zs = [] := by
  refine ⟨?_, by unfold rootL; rw [if_neg h]⟩
  unfold rootB; rw [decide_eq_false]; exact fun x => h ⟨x.1, x.2.1⟩
theorem root_yes {V : VF} {l : Int} {zs : List Int} (h : zs ≠ [] ∧ gi zs 0 = 1) : rootB V l zs = decide ((rootTo V.F l zs l.toNat).length = zs.length - 1) ∧ rootL V l zs = rootTo V.F l zs l.toNat := by
  refine ⟨?_, by unfold rootL; rw [if_pos h]⟩
  unfold rootB; simp [h.1, h.2]
set_option maxHeartbeats 2000000 in
theorem rootIndices_any {V : VF} {p pw g l c : Int} (hs : SF V p pw g) {w : World} {b : Nat} (hcod : Cod w b p pw g l c) (hl0 : 0 ≤ l) (hl1 : l ≤ 255) {a : Option Addr} {n cap : Nat} {zs : List Int} (hr : RowAt w a n zs) (hn : n ≤ 100000) (hz : VF.els V zs) :
    Calls Try.prog 163 #[.pointer (some ⟨b, 0, none⟩), .slice a n cap] w fun e w' => ∃ v, e = .returned (.tuple #[v, .bool (rootB V l zs)]) ∧ Below w.heap.size w w' ∧ OwnL w' w.heap.size v (rootL V l zs) := by
  obtain ⟨L, rfl⟩ : ∃ L : Nat, l = (L : Int) := ⟨l.toNat, by omega⟩
  have HCOD := Lib.hid hcod
  have HR := Lib.hid hr
  have HZ := Lib.hid hz
  have hlen := Lib.hid hr.len
  clear hcod hr hz
  by_cases h0 : n = 0
  · have f := root_no (V := V) (l := (L : Int)) (zs := zs) (fun h => h.1 (List.eq_nil_of_length_eq_zero (by rw [hlen.out, h0])))
    have hf0 := Lib.hid f.1
    have hf1 := Lib.hid f.2
    subst h0
    clear f
    go_enter Try.func163, Try.ntmps163
    go_wp2_with fail
    go_ret2
    exact ⟨_, by rw [hf0.out]; rfl, Below.refl _ _, by rw [hf1.out]; exact OwnL.nil _ _ (Nat.le_refl _)⟩
  have hn0 : ((n : Int) == 0) = false := by simp; omega
  obtain ⟨b1, o1, rfl, hb1, hcs⟩ := HR.out.at' (by omega)
  have hc0 := hcs 0 (by omega)
  rw [Nat.add_zero] at hc0
  have hne : zs ≠ [] := fun h => by have := hlen.out; rw [h] at this; simp at this; omega
  by_cases h1 : gi zs 0 = 1
  rotate_left
  · have f := root_no (V := V) (l := (L : Int)) (zs := zs) (fun h => h1 h.2)
    have hf0 := Lib.hid f.1
    have hf1 := Lib.hid f.2
    have h1' : (gi zs 0 != 1) = true := by simp [h1]
    clear f h1 hcs hne
    go_enter Try.func163, Try.ntmps163
    go_wp2_with fail
    go_ret2
    exact ⟨_, by rw [hf0.out]; rfl, Below.refl _ _, by rw [hf1.out]; exact OwnL.nil _ _ (Nat.le_refl _)⟩
  have f := root_yes (V := V) (l := (L : Int)) (zs := zs) ⟨hne, h1⟩
  simp only [Int.toNat_natCast] at f
  have hf0 := Lib.hid f.1
  have hf1 := Lib.hid f.2
  have h1' : (gi zs 0 != 1) = false := by simp [h1]
  have HO0 := Lib.hid (OwnL.empty w _ (Nat.le_refl _) _ rfl)
  have HB0 := Lib.hid (below1 w (.cells #[] 2))
  clear f h1 hcs hne
  go_enter Try.func163, Try.ntmps163
  go_wp2_with fail
  clear hc0 h1'
  go_loopw [6, 7] (fun o t wr => ∃ (k la ca : Nat) (aa : Option Addr), k ≤ L ∧ o = .slice aa la ca ∧ t = .int .i64 k ∧ Hid ((rootTo V.F L zs k).length = la) ∧ Hid (OwnL wr w.heap.size (.slice aa la ca) (rootTo V.F L zs k)) ∧ Hid (Below w.heap.size w wr)) (fun _ t _ => (L - intOf t).toNat)
  case atStart => exact ⟨0, 0, 0, _, by omega, rfl, rfl, Lib.hid rfl, HO0, HB0⟩
  case round =>
    obtain ⟨k, la, ca, aa, hk, rfl, rfl, hla, ho, hbel⟩ := hrel
    clear HO0 HB0
    have hcod := HCOD.out.below hbel.out
    have hcl := hcod.len
    by_cases hlt : k < L
    · obtain ⟨bc, hc0, hcal⟩ := hcod.calV hs
      have HCAL := Lib.hid hcal
      have HCD := Lib.hid hcod
      have HRW := Lib.hid (HR.out.below' hbel.out)
      have hle := locI_el V (L : Int) (k : Int)
      have hln := locI_ne (V := V) (L : Int) (k : Int)
      have hie := FF.inv_el V.ok (locI V.F L k)
      have HP := Lib.hid (fun q => locator_any hs (HCD.out.below ((Drew.refl wr).more q |>.below _)) hl1 (k : Int) (by omega) (by omega))
      have HI := Lib.hid (fun q => inv_any (HCAL.out.drewN q) (locI V.F L k) hle hln)
      have HAT := Lib.hid (fun q => at_any (HCAL.out.drewN q) (cap := cap) ((Drew.refl wr).more q |>.row HRW.out) HZ.out (V.F.inv (locI V.F L k)) hie)
      rw [show evI V.F zs (V.F.inv (locI V.F L k)) = rootV V.F L zs k from rfl] at HAT
      have hll : (rootTo V.F L zs k).length ≤ 16777216 := by have := rootTo_length V.F L zs k; omega
      clear hle hln hie hcal hcod
      generalize V.F.inv (locI V.F L k) = iv at *
      generalize locI V.F L k = lv at *
      go_wp2_with fail
      go_quiet (first | (go_at_call 167; exact Calls.quiet_of (HP.out _)) | (go_at_call 121; exact Calls.quiet_of (HI.out _)) | (go_at_call 166; exact Calls.quiet_of (HAT.out _)))
      by_cases hv : rootV V.F L zs k = 0
      · have hv' : (rootV V.F L zs k == 0) = true := by simp [hv]
        have HY := Lib.hid (rootTo_yes hv)
        clear hv hc0 hcl
        have HOD := Lib.hid (fun q => (show OwnL (wr.drewN q) w.heap.size (.slice aa la ca) (rootTo V.F L zs k) from ho.out.below (Drew.below (drew4 wr q) _)))
        go_wp2_with (at_builtin; refine append_one rfl _ _ _ rfl Try.underlying26 (k : Int) (HOD.out _) rfl _ rfl rfl hll ?_; intro v' w5 hown5 hb5)
        rw [← HY.out] at hown5
        have HB5 := Lib.hid (hbel.out.trans (((Drew.below (drew4 wr _) wr.heap.size).mono hbel.out.size).trans hb5))
        obtain ⟨a5, c5, rfl, -, -⟩ := hown5.shape
        have HO5 := Lib.hid hown5
        clear hown5 hb5
        go_wp2_with fail
        exact ⟨⟨k + 1, _, _, _, by omega, rfl, by go_num, Lib.hid rfl, HO5, HB5⟩, by simp [intOf]; omega⟩
      · have hv' : (rootV V.F L zs k == 0) = false := by simp [hv]
        have HY := Lib.hid (rootTo_no hv)
        clear hv hc0 hcl
        have HOD := Lib.hid (fun q => (show OwnL (wr.drewN q) w.heap.size (.slice aa la ca) (rootTo V.F L zs (k + 1)) from by rw [HY.out]; exact ho.out.below (Drew.below (drew4 wr q) _)))
        have HLA := Lib.hid (show (rootTo V.F L zs (k + 1)).length = la by rw [HY.out]; exact hla.out)
        have HBD := Lib.hid (fun q => hbel.out.trans ((Drew.below (drew4 wr q) wr.heap.size).mono hbel.out.size))
        go_wp2_with fail
        go_roundw
        case rel => exact ⟨k + 1, _, _, _, by omega, rfl, by go_num, HLA, Lib.hid (HOD.out _), Lib.hid (HBD.out _)⟩
        case measure => simp [intOf]; omega
    · obtain rfl : k = L := by omega
      have hd : decide ((rootTo V.F k zs k).length = zs.length - 1) = decide ((la : Int) = (n : Int) - 1) := by rw [hla.out, hlen.out]; congr 1; exact propext ⟨fun h => by omega, fun h => by omega⟩
      have HD := Lib.hid hd
      clear hd
      go_wp2_with fail
      go_ret2
      exact ⟨_, by rw [hf0.out, HD.out]; rfl, hbel.out, by rw [hf1.out]; exact ho.out⟩
end Go.Proofs.Ytfhkkpfiflgofaa
