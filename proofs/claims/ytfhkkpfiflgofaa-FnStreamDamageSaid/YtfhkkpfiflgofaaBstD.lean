/-
  A stream with a burst, or with damage, is decoded. Plain mathematics.
-/
import Derived.Test.YtfhkkpfiflgofaaBstX
import Derived.Test.YtfhkkpfiflgofaaStrP
import Derived.Test.YtfhkkpfiflgofaaDmgs
namespace Go.Proofs.Ytfhkkpfiflgofaa
set_option linter.unusedVariables false

theorem nodup_sub {l : List Nat} (hl : l.Nodup) : ∀ {m : List Nat}, (∀ x ∈ l, x ∈ m) → l.length ≤ m.length := by
  induction l with
  | nil => intro m _; exact Nat.zero_le _
  | cons a l ih =>
    intro m h
    rw [List.nodup_cons] at hl
    have ha : a ∈ m := h a (by simp)
    have h1 := ih hl.2 (m := m.erase a) fun x hx => (List.mem_erase_of_ne (fun e => hl.1 (by rw [← e]; exact hx))).2 (h x (by simp [hx]))
    have h2 := List.length_erase_of_mem ha
    have h3 := List.length_pos_of_mem ha
    rw [List.length_cons]; omega
theorem nodup_map_on {l : List Nat} (f : Nat → Nat) (hl : l.Nodup) (h : ∀ x ∈ l, ∀ y ∈ l, f x = f y → x = y) : (l.map f).Nodup := by
  induction l with
  | nil => exact List.nodup_nil
  | cons a l ih =>
    rw [List.nodup_cons] at hl
    rw [List.map_cons, List.nodup_cons]
    refine ⟨fun hm => ?_, ih hl.2 fun x hx y hy => h x (by simp [hx]) y (by simp [hy])⟩
    rw [List.mem_map] at hm
    obtain ⟨x, hx, e⟩ := hm
    have := h x (by simp [hx]) a (by simp) e
    exact hl.1 (by rw [← this]; exact hx)
/-- How many of the first t places belong to block b and satisfy P. -/
def plc (o : List (Nat × Nat)) (b : Nat) (P : Nat → Bool) (t : Nat) : Nat := ((List.range t).filter fun i => ((o.getD i (0, 0)).1 == b) && P i).length
theorem plc_succ (o : List (Nat × Nat)) (b : Nat) (P : Nat → Bool) (t : Nat) : plc o b P (t + 1) = plc o b P t + if ((o.getD t (0, 0)).1 = b ∧ P t = true) then 1 else 0 := by
  unfold plc
  rw [List.range_succ, List.filter_append, List.length_append]
  congr 1
  by_cases e : (o.getD t (0, 0)).1 = b ∧ P t = true
  · rw [if_pos e, List.filter_cons_of_pos (by rw [Bool.and_eq_true, beq_iff_eq]; exact e)]; rfl
  · rw [if_neg e, List.filter_cons_of_neg (by rw [Bool.and_eq_true, beq_iff_eq]; exact e)]; rfl
theorem getD_at {o : List (Nat × Nat)} {t : Nat} (h : t < o.length) : o.getD t (0, 0) = o[t] := by rw [List.getD_eq_getElem?_getD, List.getElem?_eq_getElem h]; rfl
/-- The places of a block, counted in the word and in the stream. -/
theorem blk_count {q r n c b : Nat} (hb : b < n) (P : Nat → Bool) : (filtL (fun e => P ((ordS q r n c).idxOf (b, e))) (shN q r n b + c)).length = plc (ordS q r n c) b P (ordS q r n c).length := by
  unfold filtL plc
  rw [List.length_map]
  apply Nat.le_antisymm
  · have h1 : (((List.range (shN q r n b + c)).filter fun e => P ((ordS q r n c).idxOf (b, e))).map fun e => (ordS q r n c).idxOf (b, e)).Nodup := by
      refine nodup_map_on _ (List.Pairwise.filter _ List.nodup_range) ?_
      intro x hx y hy hxy
      rw [List.mem_filter, List.mem_range] at hx hy
      obtain ⟨i1, j1⟩ := idx_mem (ord_at hb hx.1)
      obtain ⟨i2, j2⟩ := idx_mem (ord_at hb hy.1)
      have : (b, x) = (b, y) := by rw [← j1, ← j2]; simp only [hxy]
      exact (Prod.mk.inj this).2
    have h2 := nodup_sub h1 (m := (List.range (ordS q r n c).length).filter fun i => (((ordS q r n c).getD i (0, 0)).1 == b) && P i) (by
      intro x hx
      rw [List.mem_map] at hx
      obtain ⟨e, he, rfl⟩ := hx
      rw [List.mem_filter, List.mem_range] at he
      obtain ⟨i1, j1⟩ := idx_mem (ord_at hb he.1)
      rw [List.mem_filter, List.mem_range]
      refine ⟨i1, ?_⟩
      rw [getD_at i1, j1, he.2]
      simp)
    rwa [List.length_map] at h2
  · have h1 : (((List.range (ordS q r n c).length).filter fun i => (((ordS q r n c).getD i (0, 0)).1 == b) && P i).map fun i => ((ordS q r n c).getD i (0, 0)).2).Nodup := by
      refine nodup_map_on _ (List.Pairwise.filter _ List.nodup_range) ?_
      intro x hx y hy hxy
      rw [List.mem_filter, List.mem_range, Bool.and_eq_true, beq_iff_eq] at hx hy
      rw [getD_at hx.1] at hxy hx
      rw [getD_at hy.1] at hxy hy
      have : (ordS q r n c)[x] = (ordS q r n c)[y] := Prod.ext (hx.2.1.trans hy.2.1.symm) hxy
      exact (List.getElem_inj (ordS_nodup q r n c)).1 this
    have h2 := nodup_sub h1 (m := (List.range (shN q r n b + c)).filter fun e => P ((ordS q r n c).idxOf (b, e))) (by
      intro x hx
      rw [List.mem_map] at hx
      obtain ⟨i, hi, rfl⟩ := hx
      rw [List.mem_filter, List.mem_range, Bool.and_eq_true, beq_iff_eq] at hi
      have hil := hi.1
      rw [getD_at hil] at hi ⊢
      have hm : (ordS q r n c)[i] ∈ ordS q r n c := List.getElem_mem hil
      have hm2 := ordS_mem.1 hm
      rw [hi.2.1] at hm2
      have he : (b, (ordS q r n c)[i].2) = (ordS q r n c)[i] := Prod.ext hi.2.1.symm rfl
      have hid : (ordS q r n c).idxOf (b, (ordS q r n c)[i].2) = i := by
        obtain ⟨i1, j1⟩ := idx_mem (show (b, (ordS q r n c)[i].2) ∈ ordS q r n c by rw [he]; exact hm)
        exact (List.getElem_inj (ordS_nodup q r n c)).1 (j1.trans he)
      rw [List.mem_filter, List.mem_range, hid]
      exact ⟨hm2.2, hi.2.2⟩)
    rwa [List.length_map] at h2
/-- The counts of a window, over the first k blocks. -/
def sumC (o : List (Nat × Nat)) (i j : Nat) : Nat → Nat
  | 0 => 0
  | k + 1 => sumC o i j k + cwn o k i j
/-- A stream whose blocks are damaged within the bound is decoded. -/
theorem stream_dec {p pw g : Int} {q r n c : Nat} {s' E : List Int} (W : Nat → List Int)
    (hv : ∀ b, b < n → validC p pw g ((shN q r n b + c : Nat) : Int) (c : Int) = true) (hs : allB (ffOf p pw g) s' = true)
    (hw : ∀ b, b < n → icwB p pw g ((shN q r n b + c : Nat) : Int) (c : Int) (W b) = true ∧ (W b).length = shN q r n b + c)
    (hd : ∀ b, b < n → (eB q r n c E b).length + 2 * (errs (shN q r n b + c) (wB q r n c s' b) (eB q r n c E b) (W b)).length ≤ c) :
    dsF p pw g q r n c s' E = true ∧ ∀ b, b < n → oB p pw g q r n c s' E b = W b ∧ dB p pw g q r n c s' E b = difL (wB q r n c s' b) (W b) (shN q r n b + c) := by
  have key : ∀ b, b < n → cB p pw g q r n c s' E b = true ∧ oB p pw g q r n c s' E b = W b ∧ dB p pw g q r n c s' E b = difL (wB q r n c s' b) (W b) (shN q r n b + c) := by
    intro b hb
    obtain ⟨V, hs2, hels, hy, -⟩ := blk_V (E := E) (hv b hb) hb hs
    obtain ⟨hi, hl⟩ := hw b hb
    obtain ⟨hiC, hiz⟩ := icwB_zero hi
    obtain ⟨hv', hw'⟩ := codeC_zero hiC
    obtain ⟨hsl, hse⟩ := wordB_iff (hw' (W b) (by simp))
    obtain ⟨hvB, hc1, hc2, hcl, hl1, hlz⟩ := validC_iff (hv b hb)
    have hD : Dec V (shN q r n b + c) (c : Int).toNat (wB q r n c s' b) (eB q r n c E b) (W b) := by
      refine ⟨fun z hz => by rw [hs2.sf.hV]; exact hse z hz, hl, fun j hj => ?_, by rw [Int.toNat_natCast]; exact hd b hb⟩
      have := hiz j hj
      rw [hl] at this
      rw [hs2.sf.hV]; exact this
    obtain ⟨f1, f2⟩ := hD.fix (by rw [hs2.sf.hV]; omega) (by omega) hels (wB_length _ _ _ _ _ _) (eB_ris q r n c E b)
    obtain ⟨h1, h2, h3⟩ := hy f1
    exact ⟨h1, by rw [h2, f2], by rw [h3, f2]⟩
  exact ⟨dsF_yes fun k hk => (key k hk).1, fun b hb => (key b hb).2⟩
theorem dsTo_all {p pw g : Int} {q r n c : Nat} {s' E zs : List Int} (h : ∀ b, b < n → (oB p pw g q r n c s' E b).take (shN q r n b) = blS q r n zs b) : ∀ k, k ≤ n → dsTo p pw g q r n c s' E k = (List.range k).flatMap (blS q r n zs)
  | 0, _ => rfl
  | k + 1, hk => by
    rw [dsTo_succ, dsTo_all h k (by omega), h k (by omega), List.range_succ, List.flatMap_append]; simp
end Go.Proofs.Ytfhkkpfiflgofaa
