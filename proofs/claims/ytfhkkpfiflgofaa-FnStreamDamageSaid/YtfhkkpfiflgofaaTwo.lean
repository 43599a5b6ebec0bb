/-
  The parts DecR, Two, BerP.
-/
import Derived.Test.YtfhkkpfiflgofaaEuc
import Derived.Test.YtfhkkpfiflgofaaRoots
import Derived.Maps.AppendAt
import Derived.OneCell
/-
  Correction: what both programs hand back. Plain mathematics over the program's words.
-/
namespace Go.Proofs.Ytfhkkpfiflgofaa
open PS (dot)
set_option linter.unusedVariables false
variable {V : VF}

theorem filtL_mono {P Q : Nat → Bool} (k : Nat) (h : ∀ i, i < k → P i = true → Q i = true) : (filtL P k).length ≤ (filtL Q k).length := by
  induction k with
  | zero => exact Nat.le_refl _
  | succ k ih =>
    have ih := ih fun i hi => h i (by omega)
    cases hp : P k
    · rw [filtL_no hp]
      cases hq : Q k
      · rw [filtL_no hq]; exact ih
      · rw [filtL_yes hq, List.length_append]; omega
    · rw [filtL_yes hp, filtL_yes (h k (by omega) hp), List.length_append, List.length_append]
      simp; omega
theorem filtL_or (P Q : Nat → Bool) (k : Nat) : (filtL (fun i => P i || Q i) k).length ≤ (filtL P k).length + (filtL Q k).length := by
  induction k with
  | zero => exact Nat.zero_le _
  | succ k ih =>
    cases hp : P k
    · rw [filtL_no hp]
      cases hq : Q k
      · rw [filtL_no (P := fun i => P i || Q i) (by simp [hp, hq]), filtL_no hq]; exact ih
      · rw [filtL_yes (P := fun i => P i || Q i) (by simp [hp, hq]), filtL_yes hq]; simp; omega
    · rw [filtL_yes (P := fun i => P i || Q i) (by simp [hp]), filtL_yes hp]
      cases hq : Q k
      · rw [filtL_no hq]; simp; omega
      · rw [filtL_yes hq]; simp; omega
/-- The places of two lists. -/
def plL (L : Nat) (A E : List Int) (k : Nat) : List Int := filtL (fun i => A.contains (i : Int) || E.contains (i : Int)) k
theorem plL_ris (L : Nat) (A E : List Int) : RisTo 0 ((L : Int) - 1) (plL L A E L) (plL L A E L).length := filtL_ris _ _ _ (by omega)
theorem plL_len {L : Nat} {A E : List Int} (hA : RisTo 0 ((L : Int) - 1) A A.length) (hE : RisTo 0 ((L : Int) - 1) E E.length) : (plL L A E L).length ≤ A.length + E.length := by
  have h := filtL_or (fun i => A.contains (i : Int)) (fun i => E.contains (i : Int)) L
  rw [← ris_filt hA, ← ris_filt hE] at h
  exact h
/-- A word less a change. -/
def outTo (F : FF) (word ch : List Int) (k : Nat) : List Int := (List.range k).map fun i => F.add (gi word i) (F.neg (gi ch i))
theorem outTo_length (F : FF) (word ch : List Int) (k : Nat) : (outTo F word ch k).length = k := by unfold outTo; simp
theorem outTo_gi (F : FF) (word ch : List Int) {k i : Nat} (h : i < k) : gi (outTo F word ch k) i = F.add (gi word i) (F.neg (gi ch i)) := by
  unfold outTo gi; rw [List.getD_eq_getElem?_getD]; simp [h]
theorem outTo_els {word ch : List Int} (hw : VF.els V word) (hc : VF.els V ch) (k : Nat) : VF.els V (outTo V.F word ch k) := fun z hz => by
  unfold outTo at hz
  obtain ⟨i, _, rfl⟩ := List.mem_map.1 hz
  exact FF.add_el V.ok (hw.getD _) (FF.neg_el (hc.getD _))
/-- The indices below k at which two words differ. -/
def difL (word o : List Int) (k : Nat) : List Int := filtL (fun i => !(gi o i == gi word i)) k
/-- Those of them outside E. -/
def dmgTo (word E o : List Int) (k : Nat) : List Int := filtL (fun i => !(gi o i == gi word i) && !E.contains (i : Int)) k
theorem of_out {word ch : List Int} (hw : VF.els V word) (hc : VF.els V ch) {k i : Nat} (h : i < k) : VF.of V (gi (outTo V.F word ch k) i) = VF.of V (gi word i) - VF.of V (gi ch i) := by
  rw [outTo_gi _ _ _ h, of_dif (show V.F.el (gi word i) from hw.getD i) (show V.F.el (gi ch i) from hc.getD i)]
/-- What stands at the places of a code word's differences is found. -/
theorem Dec.out {L c : Nat} (hL : (L : Int) < V.F.size) {word E o pl : List Int} (h : Dec V L c word E o) (hw : VF.els V word) (hwl : word.length = L) (hr : RisTo 0 ((L : Int) - 1) pl pl.length) (hn : pl.length ≤ c) (hout : ∀ i, i < L → gi word i ≠ gi o i → (i : Int) ∈ pl) :
    valsL V L c (syn V.F word c) pl = difs V.F word o pl ∧ outTo V.F word (spread L pl (valsL V L c (syn V.F word c) pl)) L = o := by
  have hc := h.cons hw hwl hr hout
  have e1 : valsL V L c (syn V.F word c) pl = difs V.F word o pl := by
    refine gi_ext (by unfold valsL difs; simp) fun m hm => ?_
    have hm : m < pl.length := by unfold valsL at hm; simpa using hm
    have h1 : VF.of V (gi (valsL V L c (syn V.F word c) pl) m) = VF.of V (gi (difs V.F word o pl) m) := by rw [valsL_gi _ _ _ _ _ hm, forney_vals hL hr hn hc m hm]
    exact VF.of_inj (V := V) ((valsL_els V _ _ _ _).getD m) ((difs_els hw h.els pl).getD m) h1
  refine ⟨e1, ?_⟩
  rw [e1]
  refine gi_ext (by rw [outTo_length, h.len]) fun i hi => ?_
  rw [outTo_length] at hi
  have h1 := word_sum hw h.els hr hout i hi
  have hse : VF.els V (spread L pl (difs V.F word o pl)) := spTo_els (difs_els hw h.els pl) _
  refine VF.of_inj (V := V) ((outTo_els hw hse L).getD i) (h.els.getD i) ?_
  have h2 : VF.of V (gi (outTo V.F word (spread L pl (difs V.F word o pl)) L) i) = _ := of_out hw hse hi
  show VF.of V (gi _ i) = VF.of V (gi o i)
  rw [h2, h1]; grind
/-- The roots of a locator polynomial. -/
theorem roots_of {L : Nat} (hL : (L : Int) < V.F.size) {zs F : List Int} (hz : VF.els V zs) {k : El V} (hk : k ≠ 0) (e : VF.ps V zs = PS.C k * locP V L F) (hF : RisTo 0 ((L : Int) - 1) F F.length) : rootTo V.F L zs L = F := by
  refine ris_ext (k := L) (rootTo_ris V.F (L : Int) zs ((L : Int) - 1) L (by omega)) hF fun z => ?_
  have key : ∀ i : Nat, i < L → (rootV V.F L zs i = 0 ↔ (i : Int) ∈ F) := fun i hi => by
    have h1 : rootV V.F L zs i = 0 ↔ VF.of V (rootV V.F L zs i) = 0 := (VF.of_eq_zero (rootV_el hz i)).symm
    rw [h1, rootV_ev hz i, e, PS.ev_C_mul (locP_poly V _ _)]
    have h2 := PS.ev_lam_zero (F.map fun i => VF.of V (locI V.F L i)) (loc_inv (V := V) L (i : Int))
    constructor
    · intro h3
      have h4 : PS.ev (locP V L F) (VF.of V (V.F.inv (locI V.F L (i : Int)))) = 0 := Classical.byContradiction fun h5 => mul_ne hk h5 h3
      obtain ⟨z, hz1, hz2⟩ := List.mem_map.1 (h2.1 h4)
      have h6 := VF.of_inj (V := V) (locI_el V L z) (locI_el V L (i : Int)) hz2
      obtain ⟨a1, a2⟩ := ris_mem hF hz1
      rw [locI_inj hL a1 a2 (by omega) (by omega) h6] at hz1; exact hz1
    · intro h3
      have h4 : PS.ev (locP V L F) (VF.of V (V.F.inv (locI V.F L (i : Int)))) = 0 := h2.2 (List.mem_map.2 ⟨_, h3, rfl⟩)
      rw [h4]; grind
  constructor
  · intro h
    obtain ⟨i, hi, rfl, h1⟩ := rootTo_mem.1 h
    exact (key i hi).1 h1
  · intro h
    obtain ⟨a1, a2⟩ := ris_mem hF h
    have e2 : ((z.toNat : Nat) : Int) = z := by omega
    exact rootTo_mem.2 ⟨z.toNat, by omega, e2.symm, (key z.toNat (by omega)).2 (by rw [e2]; exact h)⟩
theorem cover {L : Nat} {word E o : List Int} (i : Nat) (hi : i < L) (h : gi word i ≠ gi o i) : (i : Int) ∈ plL L (errs L word E o) E L := by
  refine filtL_mem.2 ⟨i, hi, rfl, ?_⟩
  by_cases hE : (i : Int) ∈ E
  · simp [hE]
  · have := errs_mem.2 ⟨i, hi, rfl, hE, h⟩
    simp [this]
open Classical in
noncomputable def fixB (V : VF) (L c : Nat) (word E : List Int) : Bool := decide (∃ o, Dec V L c word E o)
open Classical in
noncomputable def fixO (V : VF) (L c : Nat) (word E : List Int) : List Int := if h : ∃ o, Dec V L c word E o then Classical.choose h else []
open Classical in
theorem fix_spec {L c : Nat} {word E : List Int} (h : fixB V L c word E = true) : Dec V L c word E (fixO V L c word E) := by
  have h1 := of_decide_eq_true h
  unfold fixO; rw [dif_pos h1]; exact Classical.choose_spec h1
open Classical in
theorem fix_of {L c : Nat} {word E o : List Int} (h : Dec V L c word E o) : fixB V L c word E = true := decide_eq_true ⟨o, h⟩
/-- What a finder of locator polynomials must hand back. -/
structure FOk (V : VF) (L c : Nat) (word E zs : List Int) : Prop where
  els : VF.els V zs
  len : zs.length ≤ 4000
  loc : ∀ o, Dec V L c word E o → zs = VF.lst V (locP V L (errs L word E o))
theorem impl_ok {L c : Nat} (hL : (L : Int) < V.F.size) {word E o zs : List Int} (hw : VF.els V word) (hwl : word.length = L) (hE : RisTo 0 ((L : Int) - 1) E E.length) (h : Dec V L c word E o) (hz : FOk V L c word E zs) :
    rootB V L zs = true ∧ rootL V L zs = errs L word E o := by
  have hFr := errs_ris L word E o
  have hzs := hz.loc o h
  have hpoly := locP_poly V (L : Int) (errs L word E o)
  have hzP : VF.isP V zs := by rw [hzs]; exact VF.lst_isP hpoly
  have hps : VF.ps V zs = locP V L (errs L word E o) := by rw [hzs]; exact VF.lst_eq hpoly
  have hne : zs ≠ [] := fun e => by
    rw [e, VF.ps_nil] at hps
    have h1 : (locP V L (errs L word E o)).c 0 = 1 := PS.lam_c_zero _
    rw [← hps] at h1
    exact Fld.one_ne h1.symm
  have hr := roots_of hL hz.els (k := (1 : El V)) Fld.one_ne (by rw [hps, PS.C_one]; grind) hFr
  have h1 := (roots_loc (V := V) (l := (L : Int)) rfl hL hzP hne).2 (by rw [hr]; exact hzs.symm)
  obtain ⟨f1, f2⟩ := root_yes (V := V) (l := (L : Int)) ⟨hne, h1.1⟩
  simp only [Int.toNat_natCast] at f1 f2
  exact ⟨by rw [f1]; exact decide_eq_true h1.2, by rw [f2]; exact hr⟩
theorem impl_sound {L c : Nat} {word E wr : List Int} (hw : VF.els V word) (hwl : word.length = L) (hwr : RisTo 0 ((L : Int) - 1) wr wr.length) (hd : 2 * wr.length + E.length ≤ c)
    (hv : valB V L c (syn V.F word c) (plL L wr E L) = true) : Dec V L c word E (outTo V.F word (spread L (plL L wr E L) (valsL V L c (syn V.F word c) (plL L wr E L))) L) := by
  have hse : VF.els V (spread L (plL L wr E L) (valsL V L c (syn V.F word c) (plL L wr E L))) := spTo_els (valsL_els V _ _ _ _) _
  have hsy := of_decide_eq_true hv
  rw [Int.toNat_natCast] at hsy
  have hsp : ∀ i : Nat, i < L → gi (spread L (plL L wr E L) (valsL V L c (syn V.F word c) (plL L wr E L))) i ≠ 0 → (i : Int) ∈ plL L wr E L := fun i hi hne => Classical.byContradiction fun hm => hne (by
    obtain ⟨_, h2⟩ := spTo_at (vals := valsL V L c (syn V.F word c) (plL L wr E L)) (plL_ris L wr E) (plL L wr E L).length (Nat.le_refl _)
    exact h2 i fun m hm1 e => hm (by
      have h4 := (plL_ris L wr E m hm1).1
      have : (i : Int) = gi (plL L wr E L) m := by omega
      rw [this]; exact gi_mem hm1))
  have hsl : (spread L (plL L wr E L) (valsL V L c (syn V.F word c) (plL L wr E L))).length = L := spTo_length _ _ _ _
  generalize spread L (plL L wr E L) (valsL V L c (syn V.F word c) (plL L wr E L)) = ch at *
  refine ⟨outTo_els hw hse L, outTo_length _ _ _ _, fun j hj => ?_, ?_⟩
  · have h1 := svTo_add (x := V.F.exp (j + 1)) hw (outTo_els hw hse L) hse (FF.exp_el V.ok _) L (fun i hi => by rw [of_out hw hse hi]; grind)
    have h2 : gi (syn V.F ch c) j = gi (syn V.F word c) j := by rw [hsy]
    rw [syn_gi _ _ hj, syn_gi _ _ hj, hsl, hwl] at h2
    rw [h2] at h1
    refine (VF.of_eq_zero (svTo_el V.ok (outTo_els hw hse L) _ _)).1 ?_
    grind
  · have h1 : (errs L word E (outTo V.F word ch L)).length ≤ (filtL (fun i => wr.contains (i : Int)) L).length := by
      refine filtL_mono L fun i hi hP => ?_
      have hP2 : ¬ (i : Int) ∈ E ∧ ¬ gi word i = gi (outTo V.F word ch L) i := by simpa using hP
      have hch : gi ch i ≠ 0 := fun e => hP2.2 (VF.of_inj (V := V) (hw.getD i) ((outTo_els hw hse L).getD i) (by
        have := of_out (V := V) hw hse hi
        show VF.of V (gi word i) = VF.of V (gi (outTo V.F word ch L) i)
        rw [this, e, VF.of_zero]; grind))
      obtain ⟨i', _, e, h3⟩ := filtL_mem.1 (hsp i hi hch)
      have : i' = i := by omega
      subst this
      have h3 : (i' : Int) ∈ wr ∨ (i' : Int) ∈ E := by simpa using h3
      have := h3.resolve_right hP2.1
      simpa using this
    rw [← ris_filt hwr] at h1
    omega
end Go.Proofs.Ytfhkkpfiflgofaa
/-
  Two owned rows side by side. l05Has. The reference's correction.
-/
namespace Go.Proofs.Ytfhkkpfiflgofaa
open Go.RowKit
set_option linter.unusedVariables false

/-- Two owned rows in different blocks. -/
structure Two (w : World) (B : Nat) (v v2 : Value) (zs zs2 : List Int) : Prop where
  one : OwnL w B v zs
  two : OwnL w B v2 zs2
  dis : ∀ k, v.ownBlock = some k → v2.ownBlock ≠ some k
theorem Two.symm {w : World} {B : Nat} {v v2 : Value} {zs zs2 : List Int} (h : Two w B v v2 zs zs2) : Two w B v2 v zs2 zs := ⟨h.two, h.one, fun k h1 h2 => h.dis k h2 h1⟩
theorem Two.below {w w' : World} {B : Nat} {v v2 : Value} {zs zs2 : List Int} (h : Two w B v v2 zs zs2) (hb : Below w.heap.size w w') : Two w' B v v2 zs zs2 := ⟨h.one.below hb, h.two.below hb, h.dis⟩
theorem append_one_two {W0 : World} {ops : Array Oper} {rest : List Oper} {o : Oper} {a : Act} {Q : Exit → Act → World → Prop} (hgd : o.guard = none) (s x : Operand) (t : TypeId)
    (ho : o.op = .call { callee := .builtin .append, args := #[s, x], argTypes := #[t, t] }) (ht : Try.prog.underlying t = some (.slice 2))
    {B : Nat} {v v2 : Value} {zs zs2 : List Int} (z : Int) (hown : Two W0 B v v2 zs zs2) (hs : a.eval s = v) (b : Nat) (hb : b = W0.heap.size) (hx : a.eval x = .slice (some ⟨b, 0, none⟩) 1 1) (hn : zs.length ≤ 16777216)
    (h : ∀ v' w', Two w' B v' v2 (zs ++ [z]) zs2 → Below B W0 w' → wpList Try.prog ops Q rest (a.put o.dst v') w') : wpList Try.prog ops Q (o :: rest) a (W0.alloc (.cells #[.int .i64 z] 2)) := by
  subst hb
  obtain ⟨i0, hi, hz0, hz1, hz2⟩ := info_parts info_int
  obtain ⟨⟨hB, hown⟩, ⟨-, hown2⟩, hdis⟩ := hown
  refine wpList_append_own_at _ hgd s x t ho B 2 i0 (.int .i64 0) 1 8 ht hi hz0 hz1 hz2 rfl (by decide) v zs.length (zs.map (Value.int .i64)) hs (hown.alloc _) ⟨W0.heap.size, 0, none⟩ 1 1 [.int .i64 z] hx rfl ?_ ?_ (by unfold maxLen; omega) (by omega) (by simp; omega) ?_
  · intro j u hj
    match j, hj with
    | 0, hj => simp at hj; subst hj; simp [Addr.add, go_sem]
  · intro u hu; simp at hu; subst hu; rfl
  · intro v' w' h1 hg _ hat
    have hsz : B ≤ w'.heap.size := by have := hg.size; simp at this; omega
    refine h v' w' ⟨⟨hsz, by simpa using h1⟩, ⟨hsz, (hown2.alloc _).kept hg ?_⟩, ?_⟩ (append_below hB hg (fun k hk => (hown.lt k hk).1))
    · cases h2 : v2.ownBlock with
      | none => exact .inl rfl
      | some k => exact .inr fun e => hdis k e.symm h2
    · intro k hk hk2
      rcases hat with e | e
      · exact hdis k (by rw [← e]; exact hk) hk2
      · have h3 := (hown2.lt k hk2).2
        rw [e] at hk
        simp at hk; omega
/-- Whether a list has a number. -/
def memB (zs : List Int) (x : Int) : Bool := zs.contains x
theorem l05Has_any (w : World) {a : Option Addr} {n cap : Nat} {zs : List Int} (hr : RowAt w a n zs) (x : Int) :
    Calls Try.prog 106 #[.slice a n cap, .int .i64 x] w fun e w' => e = .returned (.bool (memB zs x)) ∧ w = w' := by
  have HR := Lib.hid hr
  have hl := Lib.hid hr.len
  have hsm := hr.small
  clear hr
  go_enter Try.func106, Try.ntmps106
  go_wp2_with fail
  go_loop [5] (fun t => ∃ k : Nat, k ≤ n ∧ t = .int .i64 k ∧ Hid (∀ j, j < k → gi zs j ≠ x)) (fun t => n - (intOf t).toNat)
  case atStart => exact ⟨0, by omega, rfl, fun j hj => by omega⟩
  case round =>
    obtain ⟨k, hk, rfl, hall⟩ := hrel
    by_cases hlt : k < n
    · obtain ⟨b1, o1, rfl, hb1, hcs⟩ := HR.out.at' (by omega)
      have hcell := hcs k hlt
      clear hcs
      by_cases hz : gi zs k = x
      · have hzb : (gi zs k == x) = true := by simp [hz]
        have hf := Lib.hid (show memB zs x = true by unfold memB; rw [List.contains_iff_mem, ← hz]; exact gi_mem (by rw [hl.out]; exact hlt))
        clear hz
        go_wp2_with fail
        go_ret
        exact ⟨ret_bool hf.out.symm, rfl⟩
      · have hzb : (gi zs k == x) = false := by simp [hz]
        have hall2 : Hid (∀ j, j < k + 1 → gi zs j ≠ x) := Lib.hid fun j hj => by
          rcases Nat.lt_or_ge j k with h | h
          · exact hall.out j h
          · obtain rfl : j = k := by omega
            exact hz
        clear hz
        go_wp2_with fail
        go_round
        case rel => exact ⟨k + 1, by omega, by go_num, hall2⟩
        case measure => simp [intOf]; omega
    · have hf := Lib.hid (show memB zs x = false from by
        unfold memB
        cases h : zs.contains x
        · rfl
        · obtain ⟨j, hj, e⟩ := mem_gi (List.contains_iff_mem.1 h)
          exact absurd e (hall.out j (by have := hl.out; omega)))
      go_wp2_with fail
      go_ret
      exact ⟨ret_bool hf.out.symm, rfl⟩
end Go.Proofs.Ytfhkkpfiflgofaa
/-
  The shortest recurrence of the modified syndromes is the locator polynomial. Plain mathematics.
-/
namespace Go.Proofs.Ytfhkkpfiflgofaa
set_option linter.unusedVariables false
variable {V : VF}

/-- A list with zeros behind it, c elements in all. -/
def padL (c : Nat) (p : List Int) : List Int := p ++ List.replicate (c - p.length) 0
theorem padL_gi (c : Nat) (p : List Int) (i : Nat) : gi (padL c p) i = gi p i := by
  unfold padL
  rcases Nat.lt_or_ge i p.length with h | h
  · exact gi_append_left h
  · unfold gi
    rw [List.getD_eq_getElem?_getD, List.getElem?_append_right h, List.getD_eq_getElem?_getD, List.getElem?_eq_none h, List.getElem?_replicate]
    split <;> rfl
/-- The sequence of which the register finds the recurrence. -/
noncomputable def berL (V : VF) (L c : Nat) (S E : List Int) : List Int := (padL c (omL V L c S E)).drop E.length
theorem berL_c (L c : Nat) (S E : List Int) (n : Nat) : (VF.ps V (berL V L c S E)).c n = (VF.ps V (omL V L c S E)).c (E.length + n) := by
  rw [VF.ps_c, VF.ps_c]
  have : gi (berL V L c S E) n = gi (omL V L c S E) (E.length + n) := by
    refine Eq.trans ?_ (padL_gi c (omL V L c S E) (E.length + n))
    unfold berL gi
    rw [List.getD_eq_getElem?_getD, List.getElem?_drop, List.getD_eq_getElem?_getD]
  exact congrArg (VF.of V) this
theorem ber_key {L c : Nat} (hL : (L : Int) < V.F.size) {word E o : List Int} {O w : PS (El V)} (hD : Dec V L c word E o) (hS : Start V L c word E o O w) (hEc : E.length ≤ c) :
    (bm V (VF.ps V (berL V L c (syn V.F word c) E)) (c - E.length)).now = locP V L (errs L word E o) ∧ (bm V (VF.ps V (berL V L c (syn V.F word c) E)) (c - E.length)).L = (errs L word E o).length := by
  have hdm := hD.dmg
  have hr := errs_ris L word E o
  have hinv := bm_inv (V := V) (VF.ps V (berL V L c (syn V.F word c) E)) (c - E.length)
  obtain ⟨low, T', e1, hlow, -, hT⟩ := PS.cut_at (VF.ps V (omL V L c (syn V.F word c) E)) E.length
  have hTT : T' = VF.ps V (berL V L c (syn V.F word c) E) := PS.ext' fun i => by rw [hT, berL_c]
  rw [← hTT] at hinv ⊢
  obtain ⟨f, hf⟩ : ∃ f, (errs L word E o).length = f := ⟨_, rfl⟩
  obtain ⟨l, hl⟩ : ∃ l, (errs L word E o).map (fun i => VF.of V (locI V.F L i)) = l := ⟨_, rfl⟩
  have hll : l.length = f := by rw [← hl, List.length_map, hf]
  have hloc : locP V L (errs L word E o) = PS.lam l := by rw [← hl]; rfl
  have hnd : l.Nodup := by rw [← hl]; exact locs_nodup hL hr
  have heq := hS.eq
  have hod := hS.od
  have hiv := hS.inv
  have hwp := hS.wp
  rw [hl] at hiv
  rw [hloc, e1] at heq
  rw [hf] at hod hdm
  rw [hloc, hf]
  obtain ⟨n, hn⟩ : ∃ n, c - E.length = n := ⟨_, rfl⟩
  rw [hn] at hinv ⊢
  have hcn : c = E.length + n := by omega
  have hXc : (PS.X : PS (El V)) ^ c = (PS.X : PS (El V)) ^ E.length * (PS.X : PS (El V)) ^ n := by rw [hcn]; grind
  have hDd : (O - PS.lam l * low).dlt (f + E.length) := by
    refine PS.dlt_sub hod ?_
    have hdl := PS.dlt_lam l
    rw [hll] at hdl
    cases he : E.length with
    | zero =>
      rw [he] at hlow
      have : low = 0 := PS.ext' fun i => hlow i (Nat.zero_le _)
      rw [this]
      have : PS.lam l * (0 : PS (El V)) = 0 := by grind
      rw [this]; exact PS.dlt_zero _
    | succ m =>
      rw [he] at hlow
      exact PS.dlt_mul hlow f _ hdl
  have hX : (PS.X : PS (El V)) ^ E.length * (PS.lam l * T' - (PS.X : PS (El V)) ^ n * w) = O - PS.lam l * low := by
    rw [hXc] at heq
    grind
  have hO' : (PS.lam l * T' - (PS.X : PS (El V)) ^ n * w).dlt f := fun i hi => by
    have h1 : ((PS.X : PS (El V)) ^ E.length * (PS.lam l * T' - (PS.X : PS (El V)) ^ n * w)).c (E.length + i) = (PS.lam l * T' - (PS.X : PS (El V)) ^ n * w).c i := by
      rw [PS.Xpow_c, if_pos (by omega), show E.length + i - E.length = i by omega]
    rw [← h1, hX]
    exact hDd _ (by omega)
  have hlp : (PS.lam l).IsPoly := ⟨_, PS.dlt_lam l⟩
  have hop : O.IsPoly := ⟨_, hod⟩
  have hwp' : low.IsPoly := ⟨_, hlow⟩
  have hXp : ((PS.X : PS (El V)) ^ E.length).IsPoly := xp_poly (V := V) _
  have key := PS.rec_unique (S := T') (c := (bm V T' n).now) (O := PS.lam l * T' - (PS.X : PS (El V)) ^ n * w) (w := w) (L := (bm V T' n).L) (n := n) l hnd (fun a ha => by
    obtain ⟨b, hb, hb2⟩ := hiv a ha
    refine ⟨b, hb, fun h => hb2 ?_⟩
    have h1 : PS.ev ((PS.X : PS (El V)) ^ E.length * (PS.lam l * T' - (PS.X : PS (El V)) ^ n * w)) b = 0 := by
      rw [PS.ev_mul hXp ⟨_, hO'⟩, h]; grind
    rw [hX, PS.ev_sub hop (hlp.mul hwp'), PS.ev_mul hlp hwp', (PS.ev_lam_zero l hb).2 ha] at h1
    grind) (by grind) (by rw [hll]; exact hO') (by rw [hll]; omega) hinv.gen (by
      rw [hll]
      refine hinv.least (PS.lam l) f ⟨PS.lam_c_zero _, by rw [← hll]; exact PS.dlt_lam l, fun k h1 h2 => ?_⟩
      have e2 : PS.lam l * T' = (PS.lam l * T' - (PS.X : PS (El V)) ^ n * w) + (PS.X : PS (El V)) ^ n * w := by grind
      rw [e2, PS.add_c, hO' k h1, PS.Xpow_c, if_neg (by omega)]; grind)
  rw [hll] at key
  exact key
theorem ber_fok {L c : Nat} (hL : (L : Int) < V.F.size) (hc : c ≤ 64) {word E : List Int} (hw : VF.els V word) (hwl : word.length = L) (hE : RisTo 0 ((L : Int) - 1) E E.length) (hEc : E.length ≤ c) :
    FOk V L c word E (VF.lst V (bm V (VF.ps V (berL V L c (syn V.F word c) E)) (c - E.length)).now) := by
  have hok := bm_ok (V := V) (VF.ps V (berL V L c (syn V.F word c) E)) (c - E.length)
  refine ⟨(VF.lst_isP hok.now).els, ?_, fun o hd => ?_⟩
  · have := hok.nlen; have := hok.le; omega
  · obtain ⟨O, w, hS⟩ := hd.start hL hw hwl hE
    rw [(ber_key hL hd hS hEc).1]
end Go.Proofs.Ytfhkkpfiflgofaa
