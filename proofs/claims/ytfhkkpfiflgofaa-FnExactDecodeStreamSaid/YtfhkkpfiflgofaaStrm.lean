/-
  Streams: what the two EncodeStream and the two DecodeStream return. Plain mathematics.
-/
import Derived.Test.YtfhkkpfiflgofaaLay
namespace Go.Proofs.Ytfhkkpfiflgofaa
set_option linter.unusedVariables false

/-- The data of block b. -/
def blS (q r n : Nat) (zs : List Int) (b : Nat) : List Int := (zs.drop (offN (shN q r n) b)).take (shN q r n b)
theorem offS_le {q r n b : Nat} (hr : r ≤ n) (hb : b < n) : offN (shN q r n) b + shN q r n b ≤ q * n + r := by
  have h1 : offN (shN q r n) (b + 1) = offN (shN q r n) b + shN q r n b := rfl
  rw [← h1, offS q r n hr (b + 1) (by omega)]
  have : q * (b + 1) ≤ q * n := Nat.mul_le_mul_left _ (by omega)
  by_cases h : b + 1 = n
  · subst h; omega
  · have h2 : q * (b + 1 + 1) ≤ q * n := Nat.mul_le_mul_left _ (by omega)
    rw [Nat.mul_succ] at h2
    omega
theorem blS_length {q r n b : Nat} {zs : List Int} (hr : r ≤ n) (hb : b < n) (hz : zs.length = q * n + r) : (blS q r n zs b).length = shN q r n b := by
  have := offS_le (q := q) hr hb
  unfold blS; rw [List.length_take, List.length_drop]; omega
/-- The word of block b. -/
noncomputable def wdS (p pw g : Int) (q r n c : Nat) (zs : List Int) (b : Nat) : List Int := encWR p pw g ((shN q r n b + c : Nat) : Int) (c : Int) (blS q r n zs b)
noncomputable def esC (p pw g D C N : Int) (zs : List Int) : Int := if layB p pw g D C N = true then (if (zs.length : Int) = D ∧ allB (ffOf p pw g) zs = true then 0 else 2) else 1
noncomputable def esR (p pw g D C N : Int) (zs : List Int) : List Int := if esC p pw g D C N zs = 0 then
  strL (ordS (D.tdiv N).toNat (D.tmod N).toNat N.toNat C.toNat) (fun b e => gi (wdS p pw g (D.tdiv N).toNat (D.tmod N).toNat N.toNat C.toNat zs b) e) else []
theorem esR_no {p pw g D C N : Int} {zs : List Int} (h : ¬ esC p pw g D C N zs = 0) : esR p pw g D C N zs = [] := by unfold esR; rw [if_neg h]
theorem es_bad {p pw g D C N : Int} {zs : List Int} (h : layB p pw g D C N = false) : esC p pw g D C N zs = 1 ∧ esR p pw g D C N zs = [] := by
  have : esC p pw g D C N zs = 1 := by unfold esC; rw [if_neg (by simp [h])]
  exact ⟨this, esR_no (by omega)⟩
theorem es_range {p pw g D C N : Int} {zs : List Int} (h : layB p pw g D C N = true) (h2 : ¬ ((zs.length : Int) = D ∧ allB (ffOf p pw g) zs = true)) : esC p pw g D C N zs = 2 ∧ esR p pw g D C N zs = [] := by
  have : esC p pw g D C N zs = 2 := by unfold esC; rw [if_pos h, if_neg h2]
  exact ⟨this, esR_no (by omega)⟩
theorem LN.nats {D C N : Int} {q r n c : Nat} (h : LN D C N q r n c) : (D.tdiv N).toNat = q ∧ (D.tmod N).toNat = r ∧ N.toNat = n ∧ C.toNat = c := by
  rw [h.quo, h.rem, h.hN, h.hC]; simp
theorem es_ok {p pw g D C N : Int} {zs : List Int} (h : layB p pw g D C N = true) (h2 : (zs.length : Int) = D) (h3 : allB (ffOf p pw g) zs = true) {q r n c : Nat} (hl : LN D C N q r n c) :
    esC p pw g D C N zs = 0 ∧ esR p pw g D C N zs = strL (ordS q r n c) (fun b e => gi (wdS p pw g q r n c zs b) e) := by
  have h0 : esC p pw g D C N zs = 0 := by unfold esC; rw [if_pos h, if_pos ⟨h2, h3⟩]
  obtain ⟨e1, e2, e3, e4⟩ := hl.nats
  refine ⟨h0, ?_⟩
  unfold esR
  rw [if_pos h0, e1, e2, e3, e4]
theorem allB_blk {F : FF} {q r n b : Nat} {zs : List Int} (h : allB F zs = true) : allB F (blS q r n zs b) = true :=
  allB_iff.2 fun z hz => allB_iff.1 h z (List.mem_of_mem_drop (List.mem_of_mem_take hz))
/-- The word of a block, with its field. -/
theorem wd_V {p pw g : Int} {q r n c b : Nat} {zs : List Int} (hv : validC p pw g ((shN q r n b + c : Nat) : Int) (c : Int) = true) (hr : r ≤ n) (hb : b < n) (hz : zs.length = q * n + r) (h3 : allB (ffOf p pw g) zs = true) :
    ∃ V : VF, SC V p pw g ((shN q r n b + c : Nat) : Int) (c : Int) ∧ VF.els V (blS q r n zs b) ∧ wdS p pw g q r n c zs b = encL V ((shN q r n b + c : Nat) : Int).toNat (c : Int).toNat (blS q r n zs b) ∧ (wdS p pw g q r n c zs b).length = shN q r n b + c ∧ encC p pw g ((shN q r n b + c : Nat) : Int) (c : Int) (blS q r n zs b) = 0 := by
  have hbl := blS_length hr hb hz
  obtain ⟨V, hs, hz2, h0, he⟩ := enc_ok hv (zs := blS q r n zs b) (by omega) (allB_blk h3)
  refine ⟨V, hs, hz2, he, ?_, h0⟩
  unfold wdS
  rw [he, encL_length, hbl]; simp
theorem esR_length {p pw g D C N : Int} {zs : List Int} (h : esC p pw g D C N zs = 0) : ((esR p pw g D C N zs).length : Int) = D + N * C ∧ D + N * C ≤ 1500 ∧ layB p pw g D C N = true ∧ (zs.length : Int) = D ∧ allB (ffOf p pw g) zs = true := by
  unfold esC at h
  split at h
  · rename_i hlay
    split at h
    · rename_i h2
      obtain ⟨q, r, n, c, hl, htot, _, _⟩ := lay_ok hlay
      obtain ⟨_, he⟩ := es_ok hlay h2.1 h2.2 hl
      obtain ⟨m, hm, hm2, _⟩ := hl.mul
      have hD := hl.hD
      have : n * q = q * n := Nat.mul_comm _ _
      rw [he, strL_length, ordS_length _ _ _ _ (Nat.le_of_lt hl.rn), hm]
      exact ⟨by omega, by omega, hlay, h2⟩
    · omega
  · omega
theorem LN.q1 {D C N : Int} {q r n c : Nat} (h : LN D C N q r n c) : 1 ≤ q := by
  have h1 := h.nD
  have h2 := h.rn
  apply Classical.byContradiction
  intro h3
  obtain rfl : q = 0 := by omega
  omega
theorem esR_len (p pw g D C N : Int) (zs : List Int) : (esR p pw g D C N zs).length ≤ 1048576 := by
  by_cases h : esC p pw g D C N zs = 0
  · have := esR_length h; omega
  · rw [esR_no h]; simp
end Go.Proofs.Ytfhkkpfiflgofaa
