/-
  The parts Strm, StrmD.
-/
import Derived.Test.YtfhkkpfiflgofaaLay
import Derived.Test.YtfhkkpfiflgofaaCorW
/-
  Streams: what the two EncodeStream and the two DecodeStream return. Plain mathematics.
-/
namespace Go.Proofs.Ytfhkkpfiflgofaa
set_option linter.unusedVariables false

/-- The data of block b. -/
def blS (q r n : Nat) (zs : List Int) (b : Nat) : List Int := (zs.drop (offN (shN q r n) b)).take (shN q r n b)
theorem offS_le {q r n b : Nat} (hr : r ≤ n) (hb : b < n) : offN (shN q r n) b + shN q r n b ≤ q * n + r := by
  have h1 : offN (shN q r n) (b + 1) = offN (shN q r n) b + shN q r n b := rfl
  rw [← h1, offS q r n hr (b + 1) (by omega)]
  have : q * (b + 1) ≤ q * n := Nat.mul_le_mul_left _ (by omega)
  by_cases h : b + 1 = n
  · subst h; omega
  · have h2 : q * (b + 1 + 1) ≤ q * n := Nat.mul_le_mul_left _ (by omega)
    rw [Nat.mul_succ] at h2
    omega
theorem blS_length {q r n b : Nat} {zs : List Int} (hr : r ≤ n) (hb : b < n) (hz : zs.length = q * n + r) : (blS q r n zs b).length = shN q r n b := by
  have := offS_le (q := q) hr hb
  unfold blS; rw [List.length_take, List.length_drop]; omega
/-- The word of block b. -/
noncomputable def wdS (p pw g : Int) (q r n c : Nat) (zs : List Int) (b : Nat) : List Int := encWR p pw g ((shN q r n b + c : Nat) : Int) (c : Int) (blS q r n zs b)
noncomputable def esC (p pw g D C N : Int) (zs : List Int) : Int := if layB p pw g D C N = true then (if (zs.length : Int) = D ∧ allB (ffOf p pw g) zs = true then 0 else 2) else 1
noncomputable def esR (p pw g D C N : Int) (zs : List Int) : List Int := if esC p pw g D C N zs = 0 then
  strL (ordS (D.tdiv N).toNat (D.tmod N).toNat N.toNat C.toNat) (fun b e => gi (wdS p pw g (D.tdiv N).toNat (D.tmod N).toNat N.toNat C.toNat zs b) e) else []
theorem esR_no {p pw g D C N : Int} {zs : List Int} (h : ¬ esC p pw g D C N zs = 0) : esR p pw g D C N zs = [] := by unfold esR; rw [if_neg h]
theorem es_bad {p pw g D C N : Int} {zs : List Int} (h : layB p pw g D C N = false) : esC p pw g D C N zs = 1 ∧ esR p pw g D C N zs = [] := by
  have : esC p pw g D C N zs = 1 := by unfold esC; rw [if_neg (by simp [h])]
  exact ⟨this, esR_no (by omega)⟩
theorem es_range {p pw g D C N : Int} {zs : List Int} (h : layB p pw g D C N = true) (h2 : ¬ ((zs.length : Int) = D ∧ allB (ffOf p pw g) zs = true)) : esC p pw g D C N zs = 2 ∧ esR p pw g D C N zs = [] := by
  have : esC p pw g D C N zs = 2 := by unfold esC; rw [if_pos h, if_neg h2]
  exact ⟨this, esR_no (by omega)⟩
theorem LN.nats {D C N : Int} {q r n c : Nat} (h : LN D C N q r n c) : (D.tdiv N).toNat = q ∧ (D.tmod N).toNat = r ∧ N.toNat = n ∧ C.toNat = c := by
  rw [h.quo, h.rem, h.hN, h.hC]; simp
theorem es_ok {p pw g D C N : Int} {zs : List Int} (h : layB p pw g D C N = true) (h2 : (zs.length : Int) = D) (h3 : allB (ffOf p pw g) zs = true) {q r n c : Nat} (hl : LN D C N q r n c) :
    esC p pw g D C N zs = 0 ∧ esR p pw g D C N zs = strL (ordS q r n c) (fun b e => gi (wdS p pw g q r n c zs b) e) := by
  have h0 : esC p pw g D C N zs = 0 := by unfold esC; rw [if_pos h, if_pos ⟨h2, h3⟩]
  obtain ⟨e1, e2, e3, e4⟩ := hl.nats
  refine ⟨h0, ?_⟩
  unfold esR
  rw [if_pos h0, e1, e2, e3, e4]
theorem allB_blk {F : FF} {q r n b : Nat} {zs : List Int} (h : allB F zs = true) : allB F (blS q r n zs b) = true :=
  allB_iff.2 fun z hz => allB_iff.1 h z (List.mem_of_mem_drop (List.mem_of_mem_take hz))
/-- The word of a block, with its field. -/
theorem wd_V {p pw g : Int} {q r n c b : Nat} {zs : List Int} (hv : validC p pw g ((shN q r n b + c : Nat) : Int) (c : Int) = true) (hr : r ≤ n) (hb : b < n) (hz : zs.length = q * n + r) (h3 : allB (ffOf p pw g) zs = true) :
    ∃ V : VF, SC V p pw g ((shN q r n b + c : Nat) : Int) (c : Int) ∧ VF.els V (blS q r n zs b) ∧ wdS p pw g q r n c zs b = encL V ((shN q r n b + c : Nat) : Int).toNat (c : Int).toNat (blS q r n zs b) ∧ (wdS p pw g q r n c zs b).length = shN q r n b + c ∧ encC p pw g ((shN q r n b + c : Nat) : Int) (c : Int) (blS q r n zs b) = 0 := by
  have hbl := blS_length hr hb hz
  obtain ⟨V, hs, hz2, h0, he⟩ := enc_ok hv (zs := blS q r n zs b) (by omega) (allB_blk h3)
  refine ⟨V, hs, hz2, he, ?_, h0⟩
  unfold wdS
  rw [he, encL_length, hbl]; simp
theorem esR_length {p pw g D C N : Int} {zs : List Int} (h : esC p pw g D C N zs = 0) : ((esR p pw g D C N zs).length : Int) = D + N * C ∧ D + N * C ≤ 1500 ∧ layB p pw g D C N = true ∧ (zs.length : Int) = D ∧ allB (ffOf p pw g) zs = true := by
  unfold esC at h
  split at h
  · rename_i hlay
    split at h
    · rename_i h2
      obtain ⟨q, r, n, c, hl, htot, _, _⟩ := lay_ok hlay
      obtain ⟨_, he⟩ := es_ok hlay h2.1 h2.2 hl
      obtain ⟨m, hm, hm2, _⟩ := hl.mul
      have hD := hl.hD
      have : n * q = q * n := Nat.mul_comm _ _
      rw [he, strL_length, ordS_length _ _ _ _ (Nat.le_of_lt hl.rn), hm]
      exact ⟨by omega, by omega, hlay, h2⟩
    · omega
  · omega
theorem LN.q1 {D C N : Int} {q r n c : Nat} (h : LN D C N q r n c) : 1 ≤ q := by
  have h1 := h.nD
  have h2 := h.rn
  apply Classical.byContradiction
  intro h3
  obtain rfl : q = 0 := by omega
  omega
end Go.Proofs.Ytfhkkpfiflgofaa
/-
  What the two DecodeStream return. Plain mathematics.
-/
namespace Go.Proofs.Ytfhkkpfiflgofaa
set_option linter.unusedVariables false

/-- Zeros with ones at the indices E. -/
def lostL (tot : Nat) (E : List Int) : List Int := (List.range tot).map fun i : Nat => if E.contains (i : Int) then 1 else 0
theorem lostL_length (tot : Nat) (E : List Int) : (lostL tot E).length = tot := by unfold lostL; simp
theorem lostL_gi {tot i : Nat} {E : List Int} (h : i < tot) : gi (lostL tot E) i = if E.contains (i : Int) then 1 else 0 := by
  unfold lostL gi; rw [List.getD_eq_getElem?_getD]; simp [h]
theorem lostL_nil (tot : Nat) : lostL tot [] = List.replicate tot 0 := by
  apply List.ext_getElem (by simp [lostL])
  intro i h1 h2
  simp [lostL]
theorem contains_take_succ {E : List Int} {k : Nat} (hk : k < E.length) (z : Int) : (E.take (k + 1)).contains z = ((E.take k).contains z || z == gi E k) := by
  have hge : gi E k = E[k] := by unfold gi; rw [List.getD_eq_getElem?_getD, List.getElem?_eq_getElem hk]; rfl
  rw [List.take_succ_eq_append_getElem hk, hge, List.contains_eq_any_beq, List.contains_eq_any_beq, List.any_append]
  simp
theorem lostL_step {tot k : Nat} {E : List Int} (hk : k < E.length) (h0 : 0 ≤ gi E k) (h1 : gi E k < tot) : lostL tot (E.take (k + 1)) = (lostL tot (E.take k)).set (gi E k).toNat 1 := by
  refine gi_ext (by simp [lostL_length]) fun i hi => ?_
  rw [lostL_length] at hi
  rw [gi_set (by rw [lostL_length]; omega), lostL_gi hi, lostL_gi hi, contains_take_succ hk]
  by_cases e : i = (gi E k).toNat
  · have : ((i : Int) == gi E k) = true := by rw [beq_iff_eq]; omega
    rw [if_pos e, this]; simp
  · have : ((i : Int) == gi E k) = false := by rw [beq_eq_false_iff_ne]; omega
    rw [if_neg e, this, Bool.or_false]
/-- Word b of a stream, and its erasures. -/
def wB (q r n c : Nat) (s : List Int) (b : Nat) : List Int := splR (ordS q r n c) s (ordS q r n c).length b (shN q r n b + c)
def eB (q r n c : Nat) (E : List Int) (b : Nat) : List Int := filtL (fun e => E.contains (((ordS q r n c).idxOf (b, e) : Nat) : Int)) (shN q r n b + c)
theorem wB_length (q r n c : Nat) (s : List Int) (b : Nat) : (wB q r n c s b).length = shN q r n b + c := splR_length _ _ _ _ _
theorem ord_at {q r n c b e : Nat} (hb : b < n) (he : e < shN q r n b + c) : (b, e) ∈ ordS q r n c := ordS_mem.2 ⟨hb, he⟩
theorem wB_gi {q r n c b e : Nat} {s : List Int} (hb : b < n) (he : e < shN q r n b + c) : gi (wB q r n c s b) e = gi s ((ordS q r n c).idxOf (b, e)) := by
  unfold wB
  rw [splR_gi _ _ _ _ he]
  unfold splG
  rw [if_pos (idx_mem (ord_at hb he)).1]
theorem eB_ris (q r n c : Nat) (E : List Int) (b : Nat) : RisTo 0 (((shN q r n b + c : Nat) : Int) - 1) (eB q r n c E b) (eB q r n c E b).length := filtL_ris _ _ _ (by omega)
/-- The erasures of word b, read off the stream of marks. -/
theorem eB_one {q r n c b : Nat} {E : List Int} (hb : b < n) (tot : Nat) (ht : tot = (ordS q r n c).length) (m : Nat) (hm : m ≤ shN q r n b + c) :
    filtL (fun e => gi (wB q r n c (lostL tot E) b) e == 1) m = filtL (fun e => E.contains (((ordS q r n c).idxOf (b, e) : Nat) : Int)) m := by
  refine filtL_congr fun e he => ?_
  rw [wB_gi hb (by omega), lostL_gi (by rw [ht]; exact (idx_mem (ord_at hb (by omega))).1)]
  split
  · rename_i h; rw [h]; rfl
  · rename_i h; simp at h; simp [h]
/-- Whether block b is correctable; its data; how much is changed. -/
noncomputable def cB (p pw g : Int) (q r n c : Nat) (s E : List Int) (b : Nat) : Bool := crB p pw g ((shN q r n b + c : Nat) : Int) (c : Int) (wB q r n c s b) (eB q r n c E b)
noncomputable def oB (p pw g : Int) (q r n c : Nat) (s E : List Int) (b : Nat) : List Int := crO p pw g ((shN q r n b + c : Nat) : Int) (c : Int) (wB q r n c s b) (eB q r n c E b)
noncomputable def dB (p pw g : Int) (q r n c : Nat) (s E : List Int) (b : Nat) : List Int := crD p pw g ((shN q r n b + c : Nat) : Int) (c : Int) (wB q r n c s b) (eB q r n c E b)
noncomputable def dsF (p pw g : Int) (q r n c : Nat) (s E : List Int) : Bool := (List.range n).all (cB p pw g q r n c s E)
noncomputable def dsTo (p pw g : Int) (q r n c : Nat) (s E : List Int) (k : Nat) : List Int := (List.range k).flatMap fun b => (oB p pw g q r n c s E b).take (shN q r n b)
noncomputable def dsN (p pw g : Int) (q r n c : Nat) (s E : List Int) : Nat → Nat
  | 0 => 0
  | k + 1 => dsN p pw g q r n c s E k + (dB p pw g q r n c s E k).length
theorem dsTo_succ (p pw g : Int) (q r n c : Nat) (s E : List Int) (k : Nat) : dsTo p pw g q r n c s E (k + 1) = dsTo p pw g q r n c s E k ++ (oB p pw g q r n c s E k).take (shN q r n k) := by
  unfold dsTo; rw [List.range_succ, List.flatMap_append]; simp
theorem dsF_not {p pw g : Int} {q r n c : Nat} {s E : List Int} {k : Nat} (hk : k < n) (h : cB p pw g q r n c s E k = false) : dsF p pw g q r n c s E = false := by
  unfold dsF
  cases hh : (List.range n).all (cB p pw g q r n c s E) with
  | false => rfl
  | true => rw [List.all_eq_true] at hh; rw [hh k (List.mem_range.2 hk)] at h; cases h
theorem dsF_yes {p pw g : Int} {q r n c : Nat} {s E : List Int} (h : ∀ k, k < n → cB p pw g q r n c s E k = true) : dsF p pw g q r n c s E = true := by
  unfold dsF; rw [List.all_eq_true]; exact fun k hk => h k (List.mem_range.1 hk)
/-- The code of a layout and a stream. -/
noncomputable def scC (p pw g D C N : Int) (s : List Int) : Int := if layB p pw g D C N = true then (if (s.length : Int) = D + N * C ∧ allB (ffOf p pw g) s = true then 0 else 2) else 1
noncomputable def dsC (p pw g D C N : Int) (s E : List Int) : Int := if scC p pw g D C N s = 0 then (if risB 0 (D + N * C - 1) E = true then (if dsF p pw g (D.tdiv N).toNat (D.tmod N).toNat N.toNat C.toNat s E = true then 0 else 7) else 5) else scC p pw g D C N s
noncomputable def dsR (p pw g D C N : Int) (s E : List Int) : List Int := if dsC p pw g D C N s E = 0 then dsTo p pw g (D.tdiv N).toNat (D.tmod N).toNat N.toNat C.toNat s E N.toNat else []
noncomputable def dsM (p pw g D C N : Int) (s E : List Int) : Int := if dsC p pw g D C N s E = 0 then (dsN p pw g (D.tdiv N).toNat (D.tmod N).toNat N.toNat C.toNat s E N.toNat : Nat) else 0
section
variable {p pw g D C N : Int} {s E : List Int}
theorem sc_bad (h : layB p pw g D C N = false) : scC p pw g D C N s = 1 := by unfold scC; rw [if_neg (by simp [h])]
theorem sc_range (h : layB p pw g D C N = true) (h2 : ¬ ((s.length : Int) = D + N * C ∧ allB (ffOf p pw g) s = true)) : scC p pw g D C N s = 2 := by unfold scC; rw [if_pos h, if_neg h2]
theorem sc_ok (h : layB p pw g D C N = true) (h2 : (s.length : Int) = D + N * C) (h3 : allB (ffOf p pw g) s = true) : scC p pw g D C N s = 0 := by unfold scC; rw [if_pos h, if_pos ⟨h2, h3⟩]
theorem sc_zero (h : scC p pw g D C N s = 0) : layB p pw g D C N = true ∧ (s.length : Int) = D + N * C ∧ allB (ffOf p pw g) s = true := by
  unfold scC at h
  split at h
  · rename_i h1
    split at h
    · rename_i h2; exact ⟨h1, h2⟩
    · omega
  · omega
theorem ds_no (h : ¬ dsC p pw g D C N s E = 0) : dsR p pw g D C N s E = [] ∧ dsM p pw g D C N s E = 0 := ⟨by unfold dsR; rw [if_neg h], by unfold dsM; rw [if_neg h]⟩
theorem ds_bad (h : ¬ scC p pw g D C N s = 0) : dsC p pw g D C N s E = scC p pw g D C N s ∧ dsR p pw g D C N s E = [] ∧ dsM p pw g D C N s E = 0 := by
  have h1 : dsC p pw g D C N s E = scC p pw g D C N s := by unfold dsC; rw [if_neg h]
  exact ⟨h1, ds_no (by rw [h1]; exact h)⟩
theorem ds_state (h : scC p pw g D C N s = 0) (h2 : risB 0 (D + N * C - 1) E = false) : dsC p pw g D C N s E = 5 ∧ dsR p pw g D C N s E = [] ∧ dsM p pw g D C N s E = 0 := by
  have h1 : dsC p pw g D C N s E = 5 := by unfold dsC; rw [if_pos h, if_neg (by simp [h2])]
  exact ⟨h1, ds_no (by rw [h1]; omega)⟩
theorem ds_damage (h : scC p pw g D C N s = 0) (h2 : risB 0 (D + N * C - 1) E = true) {q r n c : Nat} (hl : LN D C N q r n c) (h3 : dsF p pw g q r n c s E = false) : dsC p pw g D C N s E = 7 ∧ dsR p pw g D C N s E = [] ∧ dsM p pw g D C N s E = 0 := by
  obtain ⟨e1, e2, e3, e4⟩ := hl.nats
  have h1 : dsC p pw g D C N s E = 7 := by unfold dsC; rw [if_pos h, if_pos h2, e1, e2, e3, e4, if_neg (by simp [h3])]
  exact ⟨h1, ds_no (by rw [h1]; omega)⟩
theorem ds_ok (h : scC p pw g D C N s = 0) (h2 : risB 0 (D + N * C - 1) E = true) {q r n c : Nat} (hl : LN D C N q r n c) (h3 : dsF p pw g q r n c s E = true) : dsC p pw g D C N s E = 0 ∧ dsR p pw g D C N s E = dsTo p pw g q r n c s E n ∧ dsM p pw g D C N s E = (dsN p pw g q r n c s E n : Nat) := by
  obtain ⟨e1, e2, e3, e4⟩ := hl.nats
  have h1 : dsC p pw g D C N s E = 0 := by unfold dsC; rw [if_pos h, if_pos h2, e1, e2, e3, e4, if_pos h3]
  exact ⟨h1, by unfold dsR; rw [if_pos h1, e1, e2, e3, e4], by unfold dsM; rw [if_pos h1, e1, e2, e3, e4]⟩
end
/-- A block, with its field. -/
theorem blk_V {p pw g : Int} {q r n c b : Nat} {s E : List Int} (hv : validC p pw g ((shN q r n b + c : Nat) : Int) (c : Int) = true) (hb : b < n) (hs : allB (ffOf p pw g) s = true) :
    ∃ V : VF, SC V p pw g ((shN q r n b + c : Nat) : Int) (c : Int) ∧ VF.els V (wB q r n c s b) ∧
      (fixB V (shN q r n b + c) (c : Int).toNat (wB q r n c s b) (eB q r n c E b) = true → cB p pw g q r n c s E b = true ∧ oB p pw g q r n c s E b = fixO V (shN q r n b + c) (c : Int).toNat (wB q r n c s b) (eB q r n c E b) ∧ dB p pw g q r n c s E b = difL (wB q r n c s b) (fixO V (shN q r n b + c) (c : Int).toNat (wB q r n c s b) (eB q r n c E b)) (shN q r n b + c)) ∧
      (fixB V (shN q r n b + c) (c : Int).toNat (wB q r n c s b) (eB q r n c E b) = false → cB p pw g q r n c s E b = false) := by
  have hel : allB (ffOf p pw g) (wB q r n c s b) = true := allB_iff.2 fun z hz => by
    obtain ⟨i, hi, rfl⟩ := List.mem_iff_getElem.1 hz
    have hi2 : i < shN q r n b + c := by rw [wB_length] at hi; exact hi
    have h1 : gi (wB q r n c s b) i = (wB q r n c s b)[i] := by unfold gi; rw [List.getD_eq_getElem?_getD, List.getElem?_eq_getElem hi]; rfl
    rw [← h1, wB_gi hb hi2]
    by_cases h2 : (ordS q r n c).idxOf (b, i) < s.length
    · exact allB_iff.1 hs _ (gi_mem h2)
    · rw [gi_none (by omega)]
      obtain ⟨_, _, _, _, hl1, hl2⟩ := validC_iff hv
      exact ⟨by omega, by omega⟩
  have hd : dmC p pw g ((shN q r n b + c : Nat) : Int) (c : Int) [wB q r n c s b] (eB q r n c E b) = 0 := by
    refine dmC_ok ?_ (risB_yes rfl (eB_ris q r n c E b))
    unfold codeC
    rw [if_pos hv, if_pos]
    unfold wordsB wordB
    simp [wB_length, hel]
  obtain ⟨V, m, hs2, hm, hels, -, -, hy, hn⟩ := cr_V hd
  obtain rfl : m = shN q r n b + c := by omega
  refine ⟨V, hs2, hels, fun h => ?_, fun h => ?_⟩
  · obtain ⟨h1, h2, h3⟩ := hy h
    refine ⟨?_, h2, h3⟩
    unfold crC at h1
    rw [if_pos hd] at h1
    unfold cB
    cases hc : crB p pw g ((shN q r n b + c : Nat) : Int) (c : Int) (wB q r n c s b) (eB q r n c E b) with
    | true => rfl
    | false => rw [hc] at h1; simp at h1
  · obtain ⟨h1, _, _⟩ := hn h
    unfold crC at h1
    rw [if_pos hd] at h1
    unfold cB
    cases hc : crB p pw g ((shN q r n b + c : Nat) : Int) (c : Int) (wB q r n c s b) (eB q r n c E b) with
    | false => rfl
    | true => rw [hc] at h1; simp at h1
theorem oB_len {p pw g : Int} {q r n c b : Nat} {s E : List Int} (hv : validC p pw g ((shN q r n b + c : Nat) : Int) (c : Int) = true) (hb : b < n) (hs : allB (ffOf p pw g) s = true) (h : cB p pw g q r n c s E b = true) : (oB p pw g q r n c s E b).length = shN q r n b + c := by
  obtain ⟨V, _, _, hy, hn⟩ := blk_V (E := E) hv hb hs
  cases hf : fixB V (shN q r n b + c) (c : Int).toNat (wB q r n c s b) (eB q r n c E b) with
  | false => rw [hn hf] at h; cases h
  | true => rw [(hy hf).2.1]; exact (fix_spec hf).len
theorem dsN_le (p pw g : Int) (q r n c : Nat) (s E : List Int) : ∀ k, dsN p pw g q r n c s E k ≤ k * 1048576
  | 0 => Nat.zero_le _
  | k + 1 => by
    have h1 := dsN_le p pw g q r n c s E k
    have h2 : (dB p pw g q r n c s E k).length ≤ 1048576 := crD_len _ _ _ _ _ _ _
    show dsN p pw g q r n c s E k + (dB p pw g q r n c s E k).length ≤ _
    omega
theorem dsTo_len (p pw g : Int) (q r n c : Nat) (s E : List Int) : ∀ k, (dsTo p pw g q r n c s E k).length ≤ k * (q + 1)
  | 0 => Nat.zero_le _
  | k + 1 => by
    have h1 := dsTo_len p pw g q r n c s E k
    have h2 := shN_le q r n k
    rw [dsTo_succ, List.length_append, List.length_take, Nat.succ_mul]
    omega
noncomputable def ddN (p pw g : Int) (q r n c : Nat) (s E : List Int) : Int := if dsF p pw g q r n c s E = true then ((dsN p pw g q r n c s E n : Nat) : Int) else 0
noncomputable def ddL (p pw g : Int) (q r n c : Nat) (s E : List Int) : List Int := if dsF p pw g q r n c s E = true then dsTo p pw g q r n c s E n else []
theorem dd_yes {p pw g : Int} {q r n c : Nat} {s E : List Int} (h : dsF p pw g q r n c s E = true) : ddN p pw g q r n c s E = ((dsN p pw g q r n c s E n : Nat) : Int) ∧ ddL p pw g q r n c s E = dsTo p pw g q r n c s E n := ⟨if_pos h, if_pos h⟩
theorem dd_no {p pw g : Int} {q r n c : Nat} {s E : List Int} (h : dsF p pw g q r n c s E = false) : ddN p pw g q r n c s E = 0 ∧ ddL p pw g q r n c s E = [] := ⟨if_neg (by simp [h]), if_neg (by simp [h])⟩
end Go.Proofs.Ytfhkkpfiflgofaa
