/-
  What a stream's words are: plain mathematics of FnStreams.
-/
import Derived.Test.YtfhkkpfiflgofaaStrD
import Derived.Test.YtfhkkpfiflgofaaEncLaw
namespace Go.Proofs.Ytfhkkpfiflgofaa
set_option linter.unusedVariables false

/-- An encoded word is a code word, and its data stand ahead. -/
theorem encS_plain {p pw g l c : Int} {P : List Int} (h : encC p pw g l c P = 0) :
    icwB p pw g l c (encWR p pw g l c P) = true ∧ (encWR p pw g l c P).take P.length = P ∧ allB (ffOf p pw g) (encWR p pw g l c P) = true := by
  have hv : validC p pw g l c = true := by
    cases hv : validC p pw g l c
    · rw [(enc_bad hv).1] at h; cases h
    · rfl
  have h2 : (P.length : Int) = l - c ∧ allB (ffOf p pw g) P = true := by
    unfold encC at h
    rw [if_pos hv] at h
    split at h
    · assumption
    · cases h
  obtain ⟨hvB, hc1, hc2, hcl, hl1, _⟩ := validC_iff hv
  obtain ⟨V, hs, hz, f0, f1⟩ := enc_ok hv h2.1 h2.2
  have hm : P.length + c.toNat = l.toNat := by omega
  have hW := encL_els (V := V) hm hz
  have hS := fun j hj => enc_syn (V := V) hm hz j hj
  have hlen : (encL V l.toNat c.toNat P).length = l.toNat := by rw [encL_length]; exact hm
  have htake : (encL V l.toNat c.toNat P).take P.length = P := by
    unfold encL
    rw [List.take_left]
  rw [f1]
  generalize encL V l.toNat c.toNat P = W at *
  have hA : allB (ffOf p pw g) W = true := allB_iff.2 (by rw [← hs.sf.hV]; exact hW)
  have hc : codeC p pw g l c [W] = 0 := by
    unfold codeC
    rw [if_pos hv, if_pos]
    unfold wordsB wordB
    simp only [List.all_cons, List.all_nil, Bool.and_true, Bool.and_eq_true, decide_eq_true_eq]
    exact ⟨by omega, hA⟩
  have hz0 : ∀ k, k < c.toNat → gi (syn (ffOf p pw g) W c.toNat) k = 0 := fun k hk => by rw [syn_gi _ _ hk, ← hs.sf.hV]; exact hS k hk
  refine ⟨?_, htake, hA⟩
  unfold icwB
  rw [decide_eq_true hc, Bool.true_and]
  exact zeroB_yes fun k hk => by rw [syn_length] at hk; exact hz0 k hk
/-- The data of the first k blocks. -/
theorem blS_flat {q r n : Nat} {zs : List Int} (hr : r ≤ n) (hz : zs.length = q * n + r) : ∀ k, k ≤ n → (List.range k).flatMap (blS q r n zs) = zs.take (offN (shN q r n) k) := by
  intro k
  induction k with
  | zero => intro _; simp [offN]
  | succ k ih =>
    intro hk
    rw [List.range_succ, List.flatMap_append, ih (by omega)]
    show _ ++ ([k].flatMap _) = zs.take (offN (shN q r n) k + shN q r n k)
    rw [List.take_add]
    simp [blS]
theorem blS_all {q r n : Nat} {zs : List Int} (hr : r ≤ n) (hz : zs.length = q * n + r) : (List.range n).flatMap (blS q r n zs) = zs := by
  rw [blS_flat hr hz n (Nat.le_refl n), offS q r n hr n (Nat.le_refl n)]
  exact List.take_of_length_le (by omega)
/-- A stream's facts. -/
theorem stream_plain {p pw g D C N : Int} {zs : List Int} (h : esC p pw g D C N zs = 0) :
    ∃ q r n c, LN D C N q r n c ∧ q * n + r + n * c ≤ 1500 ∧ zs.length = q * n + r ∧ scC p pw g D C N (esR p pw g D C N zs) = 0 ∧ (esR p pw g D C N zs).length = (ordS q r n c).length ∧
      (∀ b, b < n → validC p pw g ((shN q r n b + c : Nat) : Int) (c : Int) = true ∧ wB q r n c (esR p pw g D C N zs) b = wdS p pw g q r n c zs b ∧ icwB p pw g ((shN q r n b + c : Nat) : Int) (c : Int) (wdS p pw g q r n c zs b) = true ∧
        (wdS p pw g q r n c zs b).length = shN q r n b + c ∧ (wdS p pw g q r n c zs b).take (shN q r n b) = blS q r n zs b ∧
        ∀ e, e < shN q r n b + c → (ordS q r n c).idxOf (b, e) < (ordS q r n c).length ∧ gi (esR p pw g D C N zs) ((ordS q r n c).idxOf (b, e)) = gi (wdS p pw g q r n c zs b) e) := by
  obtain ⟨hlen, htot, hlay, hD, hal⟩ := esR_length h
  obtain ⟨q, r, n, c, hl, ht, hval, hvB⟩ := lay_ok hlay
  obtain ⟨-, he⟩ := es_ok hlay hD hal hl
  have hrn := hl.rn
  have hDq := hl.hD
  have hz : zs.length = q * n + r := by
    obtain ⟨m, hm, hm2, _⟩ := hl.mul
    omega
  have hwd : ∀ b, b < n → icwB p pw g ((shN q r n b + c : Nat) : Int) (c : Int) (wdS p pw g q r n c zs b) = true ∧ (wdS p pw g q r n c zs b).length = shN q r n b + c ∧ (wdS p pw g q r n c zs b).take (shN q r n b) = blS q r n zs b ∧ allB (ffOf p pw g) (wdS p pw g q r n c zs b) = true := by
    intro b hb
    obtain ⟨V, -, -, -, hwl, h0⟩ := wd_V (hval b hb) (Nat.le_of_lt hrn) hb hz hal
    obtain ⟨h1, h2, h3⟩ := encS_plain h0
    rw [blS_length (Nat.le_of_lt hrn) hb hz] at h2
    exact ⟨h1, hwl, h2, h3⟩
  have hsl : (esR p pw g D C N zs).length = (ordS q r n c).length := by rw [he, strL_length]
  have hgi : ∀ b, b < n → ∀ e, e < shN q r n b + c → (ordS q r n c).idxOf (b, e) < (ordS q r n c).length ∧ gi (esR p pw g D C N zs) ((ordS q r n c).idxOf (b, e)) = gi (wdS p pw g q r n c zs b) e := by
    intro b hb e hel
    obtain ⟨h1, h2⟩ := idx_mem (ord_at hb hel)
    exact ⟨h1, by rw [he, strL_gi _ _ h1, h2]⟩
  refine ⟨q, r, n, c, hl, ht, hz, sc_ok hlay hlen ?_, hsl, fun b hb => ⟨hval b hb, ?_, (hwd b hb).1, (hwd b hb).2.1, (hwd b hb).2.2.1, hgi b hb⟩⟩
  · rw [he]
    refine allB_iff.2 fun z hz => ?_
    obtain ⟨⟨b, e⟩, hm, rfl⟩ := List.mem_map.1 hz
    obtain ⟨hb, hel⟩ := ordS_mem.1 hm
    have hw := hwd b hb
    refine allB_iff.1 hw.2.2.2 _ ?_
    show gi (wdS p pw g q r n c zs b) e ∈ _
    unfold gi
    rw [List.getD_eq_getElem?_getD, List.getElem?_eq_getElem (by rw [hw.2.1]; exact hel)]
    exact List.getElem_mem _
  · apply List.ext_getElem (by rw [wB_length, (hwd b hb).2.1])
    intro e h1 h2
    rw [wB_length] at h1
    have h3 := wB_gi (s := esR p pw g D C N zs) hb h1
    rw [(hgi b hb e h1).2] at h3
    unfold gi at h3
    rw [List.getD_eq_getElem?_getD, List.getD_eq_getElem?_getD, List.getElem?_eq_getElem (by rw [wB_length]; exact h1), List.getElem?_eq_getElem h2] at h3
    simpa using h3
end Go.Proofs.Ytfhkkpfiflgofaa
