/-
  The union of two rising lists: merged.
-/
import Derived.Test.YtfhkkpfiflgofaaTwo
import Derived.Test.YtfhkkpfiflgofaaOwn
namespace Go.Proofs.Ytfhkkpfiflgofaa
open Go.RowKit
set_option linter.unusedVariables false

/-- Two rising lists in one, each number once. -/
def mrg : List Int → List Int → List Int
  | [], b => b
  | x :: a, [] => x :: a
  | x :: a, y :: b => if x < y then x :: mrg a (y :: b) else if y < x then y :: mrg (x :: a) b else x :: mrg a b
termination_by a b => a.length + b.length
theorem mrg_nil (a : List Int) : mrg a [] = a := by cases a <;> simp [mrg]
theorem mrg_nil' (b : List Int) : mrg [] b = b := by simp [mrg]
theorem mrg_lt {x y : Int} (a b : List Int) (h : x < y) : mrg (x :: a) (y :: b) = x :: mrg a (y :: b) := by rw [mrg, if_pos h]
theorem mrg_gt {x y : Int} (a b : List Int) (h : y < x) : mrg (x :: a) (y :: b) = y :: mrg (x :: a) b := by rw [mrg, if_neg (by omega), if_pos h]
theorem mrg_eq (x : Int) (a b : List Int) : mrg (x :: a) (x :: b) = x :: mrg a b := by rw [mrg, if_neg (by omega), if_neg (by omega)]
theorem mem_mrg (z : Int) : ∀ (n : Nat) (a b : List Int), a.length + b.length ≤ n → (z ∈ mrg a b ↔ z ∈ a ∨ z ∈ b) := by
  intro n
  induction n with
  | zero => intro a b h; cases a <;> cases b <;> simp at h ⊢ <;> simp [mrg]
  | succ n ih =>
    intro a b h
    cases a with
    | nil => rw [mrg_nil']; simp
    | cons x a =>
      cases b with
      | nil => rw [mrg_nil]; simp
      | cons y b =>
        simp only [List.length_cons] at h
        rcases Int.lt_trichotomy x y with h1 | h1 | h1
        · rw [mrg_lt _ _ h1, List.mem_cons, ih _ _ (by simp; omega)]; simp only [List.mem_cons]
          constructor
          · rintro (h2 | h2 | (h2 | h2)) <;> simp [h2]
          · rintro ((h2 | h2) | (h2 | h2)) <;> simp [h2]
        · subst h1
          rw [mrg_eq, List.mem_cons, ih _ _ (by omega)]; simp only [List.mem_cons]
          constructor
          · rintro (h2 | h2 | h2) <;> simp [h2]
          · rintro ((h2 | h2) | (h2 | h2)) <;> simp [h2]
        · rw [mrg_gt _ _ h1, List.mem_cons, ih _ _ (by simp; omega)]; simp only [List.mem_cons]
          constructor
          · rintro (h2 | (h2 | h2) | h2) <;> simp [h2]
          · rintro ((h2 | h2) | (h2 | h2)) <;> simp [h2]
theorem pw_mrg : ∀ (n : Nat) (a b : List Int), a.length + b.length ≤ n → a.Pairwise (· < ·) → b.Pairwise (· < ·) → (mrg a b).Pairwise (· < ·) := by
  intro n
  induction n with
  | zero => intro a b h ha hb; cases a <;> cases b <;> simp at h ⊢ <;> simp [mrg]
  | succ n ih =>
    intro a b h ha hb
    cases a with
    | nil => rw [mrg_nil']; exact hb
    | cons x a =>
      cases b with
      | nil => rw [mrg_nil]; exact ha
      | cons y b =>
        simp only [List.length_cons] at h
        have ha1 := List.pairwise_cons.1 ha
        have hb1 := List.pairwise_cons.1 hb
        rcases Int.lt_trichotomy x y with h1 | h1 | h1
        · rw [mrg_lt _ _ h1]
          refine List.pairwise_cons.2 ⟨fun z hz => ?_, ih _ _ (by simp; omega) ha1.2 hb⟩
          rcases (mem_mrg z _ _ _ (Nat.le_refl _)).1 hz with h2 | h2
          · exact ha1.1 z h2
          · rcases List.mem_cons.1 h2 with h3 | h3
            · omega
            · have := hb1.1 z h3; omega
        · subst h1
          rw [mrg_eq]
          refine List.pairwise_cons.2 ⟨fun z hz => ?_, ih _ _ (by omega) ha1.2 hb1.2⟩
          rcases (mem_mrg z _ _ _ (Nat.le_refl _)).1 hz with h2 | h2
          · exact ha1.1 z h2
          · exact hb1.1 z h2
        · rw [mrg_gt _ _ h1]
          refine List.pairwise_cons.2 ⟨fun z hz => ?_, ih _ _ (by simp; omega) ha hb1.2⟩
          rcases (mem_mrg z _ _ _ (Nat.le_refl _)).1 hz with h2 | h2
          · rcases List.mem_cons.1 h2 with h3 | h3
            · omega
            · have := ha1.1 z h3; omega
          · exact hb1.1 z h2
theorem pw_of_ris {lo hi : Int} {zs : List Int} (h : RisTo lo hi zs zs.length) : zs.Pairwise (· < ·) := by
  rw [List.pairwise_iff_getElem]
  intro i j hi' hj' hij
  have := ris_lt h i j hij hj'
  unfold gi at this
  rw [List.getD_eq_getElem?_getD, List.getElem?_eq_getElem hi', List.getD_eq_getElem?_getD, List.getElem?_eq_getElem hj'] at this
  simpa using this
theorem ris_of_pw {lo hi : Int} {zs : List Int} (h : zs.Pairwise (· < ·)) (hb : ∀ z ∈ zs, lo ≤ z ∧ z ≤ hi) : RisTo lo hi zs zs.length := fun k hk => by
  refine ⟨(hb _ (gi_mem hk)).1, (hb _ (gi_mem hk)).2, fun h0 => ?_⟩
  have := (List.pairwise_iff_getElem.1 h) (k - 1) k (by omega) hk (by omega)
  unfold gi
  rw [List.getD_eq_getElem?_getD, List.getElem?_eq_getElem (show k - 1 < zs.length by omega), List.getD_eq_getElem?_getD, List.getElem?_eq_getElem hk]
  simpa using this
theorem mrg_pl {L : Nat} {A E : List Int} (hA : RisTo 0 ((L : Int) - 1) A A.length) (hE : RisTo 0 ((L : Int) - 1) E E.length) : mrg A E = plL L A E L := by
  have hm : ∀ z, z ∈ mrg A E ↔ z ∈ A ∨ z ∈ E := fun z => mem_mrg z _ _ _ (Nat.le_refl _)
  refine ris_ext (k := L) (ris_of_pw (pw_mrg _ _ _ (Nat.le_refl _) (pw_of_ris hA) (pw_of_ris hE)) fun z hz => ?_) (plL_ris L A E) fun z => ?_
  · rcases (hm z).1 hz with h | h
    · exact ris_mem hA h
    · exact ris_mem hE h
  · rw [hm z]
    unfold plL
    rw [filtL_mem]
    constructor
    · intro h
      have hb : 0 ≤ z ∧ z ≤ (L : Int) - 1 := by rcases h with h | h; exact ris_mem hA h; exact ris_mem hE h
      have e : ((z.toNat : Nat) : Int) = z := by omega
      refine ⟨z.toNat, by omega, e.symm, ?_⟩
      rw [e]
      rcases h with h | h <;> simp [h]
    · rintro ⟨i, hi, rfl, h⟩
      simpa using h
theorem mrg_len (a b : List Int) : (mrg a b).length ≤ a.length + b.length := by
  suffices h : ∀ (n : Nat) (a b : List Int), a.length + b.length ≤ n → (mrg a b).length ≤ a.length + b.length from h _ _ _ (Nat.le_refl _)
  intro n
  induction n with
  | zero => intro a b h; cases a <;> cases b <;> simp at h ⊢ <;> simp [mrg]
  | succ n ih =>
    intro a b h
    cases a with
    | nil => rw [mrg_nil']; simp
    | cons x a =>
      cases b with
      | nil => rw [mrg_nil]; simp
      | cons y b =>
        simp only [List.length_cons] at h
        rcases Int.lt_trichotomy x y with h1 | h1 | h1
        · rw [mrg_lt _ _ h1]; have := ih a (y :: b) (by simp; omega); simp at this ⊢; omega
        · subst h1; rw [mrg_eq]; have := ih a b (by omega); simp at this ⊢; omega
        · rw [mrg_gt _ _ h1]; have := ih (x :: a) b (by simp; omega); simp at this ⊢; omega
theorem pop_row {w : World} {a : Option Addr} {n cap : Nat} {x : Int} {zs : List Int} (h : RowAt w a n (x :: zs)) (hc : n ≤ cap) (hn : a = none → cap = 0) :
    RowAt w (if cap = 1 then a else Option.map (fun x => x.add 1) a) (n - 1) zs ∧ ((if cap = 1 then a else Option.map (fun x => x.add 1) a) = none → cap - 1 = 0) := by
  have hl := h.len
  simp only [List.length_cons] at hl
  have := part_row h hn 1 n (by omega) (Nat.le_refl _) hc
  rw [List.drop_one, List.tail_cons, List.take_of_length_le (by omega)] at this
  exact this
theorem pop_some {w : World} {b o n cap : Nat} {x : Int} {zs : List Int} (h : RowAt w (some ⟨b, o, none⟩) n (x :: zs)) (hc : n ≤ cap) :
    RowAt w (if cap = 1 then some ⟨b, o, none⟩ else some ⟨b, o + 1, none⟩) (n - 1) zs := by
  have h1 := (pop_row h hc (fun h => by cases h)).1
  by_cases h2 : cap = 1
  · rw [if_pos h2] at h1 ⊢; exact h1
  · rw [if_neg h2] at h1 ⊢; simpa [Addr.add] using h1
theorem head_cell {w w' : World} {a : Option Addr} {n : Nat} {x : Int} {zs : List Int} (h : RowAt w a n (x :: zs)) (hb : Below w.heap.size w w') : ∃ b o, a = some ⟨b, o, none⟩ ∧ w'.cell? ⟨b, o, none⟩ = some (.int .i64 x) := by
  have hl := h.len
  simp only [List.length_cons] at hl
  obtain ⟨b, o, e, hlt, hc⟩ := (h.below' hb).at' (by omega)
  have := hc 0 (by omega)
  rw [Nat.add_zero] at this
  exact ⟨b, o, e, this⟩
set_option maxHeartbeats 8000000 in
set_option maxRecDepth 100000 in
theorem merged_any {w : World} {a : Option Addr} {n cap : Nat} {A : List Int} (hr : RowAt w a n A) (hcap : n ≤ cap) (hca : a = none → cap = 0) {a' : Option Addr} {n' cap' : Nat} {E : List Int} (hr' : RowAt w a' n' E) (hcap' : n' ≤ cap') (hca' : a' = none → cap' = 0) (hn : n + n' ≤ 100000) :
    Calls Try.prog 164 #[.slice a n cap, .slice a' n' cap'] w fun e w' => ∃ v, e = .returned v ∧ Below w.heap.size w w' ∧ OwnL w' w.heap.size v (mrg A E) := by
  have HR := Lib.hid hr
  have HR' := Lib.hid hr'
  have HCA := Lib.hid hca
  have HCA' := Lib.hid hca'
  have hlA := hr.len
  have hlE := hr'.len
  have HO0 := Lib.hid (OwnL.empty w w.heap.size (Nat.le_refl _) _ rfl)
  have HB0 := Lib.hid (below1 w (.cells #[] 2))
  have HML := Lib.hid (show (mrg A E).length ≤ 100000 by have := mrg_len A E; omega)
  clear hr hr' hca hca'
  have HR0 := Lib.hid (HR.out.below' HB0.out)
  have HR0' := Lib.hid (HR'.out.below' HB0.out)
  go_enter Try.func164, Try.ntmps164
  go_wp2_with fail
  go_loopw [0, 1, 5] (fun va vb vo wr => ∃ (la ca lb cb lo co : Nat) (aa ab ao : Option Addr) (As Es out : List Int), va = .slice aa la ca ∧ vb = .slice ab lb cb ∧ vo = .slice ao lo co ∧ la ≤ ca ∧ lb ≤ cb ∧ Hid (aa = none → ca = 0) ∧ Hid (ab = none → cb = 0) ∧ Hid (RowAt w aa la As) ∧ Hid (RowAt w ab lb Es) ∧ Hid (out.length = lo) ∧ Hid (out ++ mrg As Es = mrg A E) ∧ Hid (OwnL wr w.heap.size (.slice ao lo co) out) ∧ Hid (Below w.heap.size w wr)) (fun va vb _ _ => (match va with | .slice _ l _ => l | _ => 0) + (match vb with | .slice _ l _ => l | _ => 0))
  case atStart => exact ⟨n, cap, n', cap', 0, 0, _, _, _, A, E, [], rfl, rfl, rfl, hcap, hcap', HCA, HCA', HR, HR', Lib.hid rfl, Lib.hid rfl, HO0, HB0⟩
  case round =>
    obtain ⟨la, ca, lb, cb, lo, co, aa, ab, ao, As, Es, out, rfl, rfl, rfl, hac, hbc, hna, hnb, hra, hrb, hlo, hm, ho, hbel⟩ := hrel
    clear HO0 HB0 HR0 HR0'
    have hll : out.length ≤ 16777216 := by have h1 := HML.out; rw [← hm.out, List.length_append] at h1; omega
    cases As with
    | nil =>
      obtain rfl : la = 0 := by have := hra.out.len; simpa using this.symm
      cases Es with
      | nil =>
        obtain rfl : lb = 0 := by have := hrb.out.len; simpa using this.symm
        have HF := Lib.hid (show out = mrg A E by have := hm.out; rw [mrg_nil', List.append_nil] at this; exact this)
        go_wp2_with fail
        go_ret
        exact ⟨_, rfl, hbel.out, by rw [← HF.out]; exact ho.out⟩
      | cons y Es =>
        have hlb1 : 0 < lb := by have := hrb.out.len; simp at this; omega
        obtain ⟨b2, o2, rfl, hcy⟩ := head_cell hrb.out hbel.out
        have hlb2 : (0 : Int) < (lb : Int) := by omega
        have hlb3 : ((lb : Int) == 0) = false := by simp; omega
        have HM2 := Lib.hid (show (out ++ [y]) ++ mrg [] Es = mrg A E by rw [← hm.out, mrg_nil', mrg_nil', List.append_assoc]; rfl)
        have HP := Lib.hid (pop_some hrb.out hbc)
        have HOD := Lib.hid (ho.out.below (Drew.below ((drew1 wr).trans (drew1 _)) wr.heap.size))
        have HBD := Lib.hid (hbel.out.trans (Drew.below ((drew1 wr).trans (drew1 _)) w.heap.size))
        go_wp2_with fail
        go_region
        go_wp2_with fail
        go_region
        by_cases hc1 : cb = 1
        all_goals
          first | rw [if_pos hc1] at HP | rw [if_neg hc1] at HP
          go_wp2_with (at_builtin; refine append_one rfl _ _ _ rfl Try.underlying26 y HOD.out rfl _ rfl rfl hll ?_; intro v' w6 hown6 hb6)
          obtain ⟨a6, c6, rfl, -, -⟩ := hown6.shape
          rw [List.length_append, hlo.out] at hown6 ⊢
          have HO6 := Lib.hid hown6
          have HB6 := Lib.hid (HBD.out.trans hb6)
          have HL6 := Lib.hid (show (out ++ [y]).length = lo + [y].length by rw [List.length_append, hlo.out])
          clear hown6 hb6
          go_wp2_with fail
          exact ⟨⟨_, _, _, _, _, _, _, _, _, [], Es, out ++ [y], rfl, rfl, rfl, hac, by omega, hna, Lib.hid (fun h => by cases h), hra, HP, HL6, HM2, HO6, HB6⟩, by dsimp only; omega⟩
    | cons x As =>
      have hla1 : 0 < la := by have := hra.out.len; simp at this; omega
      have hla2 : (0 : Int) < (la : Int) := by omega
      have hla3 : ((la : Int) == 0) = false := by simp; omega
      obtain ⟨b1, o1, rfl, hcx⟩ := head_cell hra.out hbel.out
      cases Es with
      | nil =>
        obtain rfl : lb = 0 := by have := hrb.out.len; simpa using this.symm
        have HM2 := Lib.hid (show (out ++ [x]) ++ mrg As [] = mrg A E by rw [← hm.out, mrg_nil, mrg_nil, List.append_assoc]; rfl)
        have HP := Lib.hid (pop_some hra.out hac)
        have HOD := Lib.hid (ho.out.below (Drew.below (drew1 wr) wr.heap.size))
        have HBD := Lib.hid (hbel.out.trans (Drew.below (drew1 wr) w.heap.size))
        go_wp2_with fail
        go_region
        by_cases hc1 : ca = 1
        all_goals
          first | rw [if_pos hc1] at HP | rw [if_neg hc1] at HP
          go_wp2_with (at_builtin; refine append_one rfl _ _ _ rfl Try.underlying26 x HOD.out rfl _ rfl rfl hll ?_; intro v' w6 hown6 hb6)
          obtain ⟨a6, c6, rfl, -, -⟩ := hown6.shape
          rw [List.length_append, hlo.out] at hown6 ⊢
          have HO6 := Lib.hid hown6
          have HB6 := Lib.hid (HBD.out.trans hb6)
          have HL6 := Lib.hid (show (out ++ [x]).length = lo + [x].length by rw [List.length_append, hlo.out])
          clear hown6 hb6
          go_wp2_with fail
          exact ⟨⟨_, _, _, _, _, _, _, _, _, As, [], out ++ [x], rfl, rfl, rfl, by omega, hbc, Lib.hid (fun h => by cases h), hnb, HP, hrb, HL6, HM2, HO6, HB6⟩, by dsimp only; omega⟩
      | cons y Es =>
        have hlb1 : 0 < lb := by have := hrb.out.len; simp at this; omega
        obtain ⟨b2, o2, rfl, hcy⟩ := head_cell hrb.out hbel.out
        have hlb2 : (0 : Int) < (lb : Int) := by omega
        have hlb3 : ((lb : Int) == 0) = false := by simp; omega
        rcases Int.lt_trichotomy x y with hxy | hxy | hxy
        · have HM2 := Lib.hid (show (out ++ [x]) ++ mrg As (y :: Es) = mrg A E by rw [← hm.out, mrg_lt _ _ hxy, List.append_assoc]; rfl)
          have HP := Lib.hid (pop_some hra.out hac)
          have HOD := Lib.hid (ho.out.below (Drew.below (drew1 wr) wr.heap.size))
          have HBD := Lib.hid (hbel.out.trans (Drew.below (drew1 wr) w.heap.size))
          go_wp2_with fail
          go_region
          by_cases hc1 : ca = 1
          all_goals
            first | rw [if_pos hc1] at HP | rw [if_neg hc1] at HP
            go_wp2_with (at_builtin; refine append_one rfl _ _ _ rfl Try.underlying26 x HOD.out rfl _ rfl rfl hll ?_; intro v' w6 hown6 hb6)
            obtain ⟨a6, c6, rfl, -, -⟩ := hown6.shape
            rw [List.length_append, hlo.out] at hown6 ⊢
            have HO6 := Lib.hid hown6
            have HB6 := Lib.hid (HBD.out.trans hb6)
            have HL6 := Lib.hid (show (out ++ [x]).length = lo + [x].length by rw [List.length_append, hlo.out])
            clear hown6 hb6
            go_wp2_with fail
            exact ⟨⟨_, _, _, _, _, _, _, _, _, As, y :: Es, out ++ [x], rfl, rfl, rfl, by omega, hbc, Lib.hid (fun h => by cases h), hnb, HP, hrb, HL6, HM2, HO6, HB6⟩, by dsimp only; omega⟩
        · have hn1 : ¬ x < y := by omega
          have hn2 : ¬ y < x := by omega
          have HM2 := Lib.hid (show (out ++ [x]) ++ mrg As Es = mrg A E by rw [← hm.out, hxy, mrg_eq, List.append_assoc]; rfl)
          clear hxy
          have HP := Lib.hid (pop_some hra.out hac)
          have HQ := Lib.hid (pop_some hrb.out hbc)
          have HOD := Lib.hid (ho.out.below (Drew.below ((drew1 wr).trans (drew1 _)) wr.heap.size))
          have HBD := Lib.hid (hbel.out.trans (Drew.below ((drew1 wr).trans (drew1 _)) w.heap.size))
          go_wp2_with fail
          go_region
          go_wp2_with fail
          go_region
          by_cases hc1 : ca = 1
          all_goals
            by_cases hc2 : cb = 1
          all_goals
            first | rw [if_pos hc1] at HP | rw [if_neg hc1] at HP
            first | rw [if_pos hc2] at HQ | rw [if_neg hc2] at HQ
            go_wp2_with (at_builtin; refine append_one rfl _ _ _ rfl Try.underlying26 x HOD.out rfl _ rfl rfl hll ?_; intro v' w6 hown6 hb6)
            obtain ⟨a6, c6, rfl, -, -⟩ := hown6.shape
            rw [List.length_append, hlo.out] at hown6 ⊢
            have HO6 := Lib.hid hown6
            have HB6 := Lib.hid (HBD.out.trans hb6)
            have HL6 := Lib.hid (show (out ++ [x]).length = lo + [x].length by rw [List.length_append, hlo.out])
            clear hown6 hb6
            go_wp2_with fail
            go_region
            go_wp2_with fail
            exact ⟨⟨_, _, _, _, _, _, _, _, _, As, Es, out ++ [x], rfl, rfl, rfl, by omega, by omega, Lib.hid (fun h => by cases h), Lib.hid (fun h => by cases h), HP, HQ, HL6, HM2, HO6, Lib.hid (HB6.out.trans (Drew.below (drew1 _) _))⟩, by dsimp only; omega⟩
        · have hn1 : ¬ x < y := by omega
          have HM2 := Lib.hid (show (out ++ [y]) ++ mrg (x :: As) Es = mrg A E by rw [← hm.out, mrg_gt _ _ hxy, List.append_assoc]; rfl)
          have HP := Lib.hid (pop_some hrb.out hbc)
          have HOD := Lib.hid (ho.out.below (Drew.below ((drew1 wr).trans (drew1 _)) wr.heap.size))
          have HBD := Lib.hid (hbel.out.trans (Drew.below ((drew1 wr).trans (drew1 _)) w.heap.size))
          go_wp2_with fail
          go_region
          go_wp2_with fail
          go_region
          by_cases hc1 : cb = 1
          all_goals
            first | rw [if_pos hc1] at HP | rw [if_neg hc1] at HP
            go_wp2_with (at_builtin; refine append_one rfl _ _ _ rfl Try.underlying26 y HOD.out rfl _ rfl rfl hll ?_; intro v' w6 hown6 hb6)
            obtain ⟨a6, c6, rfl, -, -⟩ := hown6.shape
            rw [List.length_append, hlo.out] at hown6 ⊢
            have HO6 := Lib.hid hown6
            have HB6 := Lib.hid (HBD.out.trans hb6)
            have HL6 := Lib.hid (show (out ++ [y]).length = lo + [y].length by rw [List.length_append, hlo.out])
            clear hown6 hb6
            go_wp2_with fail
            exact ⟨⟨_, _, _, _, _, _, _, _, _, x :: As, Es, out ++ [y], rfl, rfl, rfl, hac, by omega, hna, Lib.hid (fun h => by cases h), hra, HP, HL6, HM2, HO6, HB6⟩, by dsimp only; omega⟩
end Go.Proofs.Ytfhkkpfiflgofaa
