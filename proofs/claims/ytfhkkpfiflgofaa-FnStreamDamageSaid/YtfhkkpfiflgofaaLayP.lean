/-
  Layouts: shares, the order of a stream, streams and their words. Plain mathematics.
-/
import Derived.Test.YtfhkkpfiflgofaaGens
namespace Go.Proofs.Ytfhkkpfiflgofaa
set_option linter.unusedVariables false

/-- The number of data elements of block b: q, and one more from block n - r on. -/
def shN (q r n b : Nat) : Nat := q + if n - r ≤ b then 1 else 0
/-- The elements e of the first k blocks. -/
def rowP (sh : Nat → Nat) (e k : Nat) : List (Nat × Nat) := ((List.range k).filter fun b => decide (e < sh b)).map fun b => (b, e)
def datP (sh : Nat → Nat) (n E : Nat) : List (Nat × Nat) := (List.range E).flatMap fun e => rowP sh e n
def chkR (sh : Nat → Nat) (e k : Nat) : List (Nat × Nat) := (List.range k).map fun b => (b, sh b + e)
def chkP (sh : Nat → Nat) (n E : Nat) : List (Nat × Nat) := (List.range E).flatMap fun e => chkR sh e n
def ordP (sh : Nat → Nat) (n Q C : Nat) : List (Nat × Nat) := datP sh n Q ++ chkP sh n C
section
variable {sh : Nat → Nat} {n e k E C Q b : Nat}
theorem rowP_zero (sh : Nat → Nat) (e : Nat) : rowP sh e 0 = [] := rfl
theorem rowP_yes (h : e < sh k) : rowP sh e (k + 1) = rowP sh e k ++ [(k, e)] := by
  unfold rowP; rw [List.range_succ, List.filter_append, List.map_append]; simp [h]
theorem rowP_no (h : ¬ e < sh k) : rowP sh e (k + 1) = rowP sh e k := by
  unfold rowP; rw [List.range_succ, List.filter_append, List.map_append]; simp [h]
theorem datP_zero (sh : Nat → Nat) (n : Nat) : datP sh n 0 = [] := rfl
theorem datP_succ (sh : Nat → Nat) (n E : Nat) : datP sh n (E + 1) = datP sh n E ++ rowP sh E n := by
  unfold datP; rw [List.range_succ, List.flatMap_append]; simp
theorem chkR_zero (sh : Nat → Nat) (e : Nat) : chkR sh e 0 = [] := rfl
theorem chkR_succ (sh : Nat → Nat) (e k : Nat) : chkR sh e (k + 1) = chkR sh e k ++ [(k, sh k + e)] := by
  unfold chkR; rw [List.range_succ, List.map_append]; rfl
theorem chkP_zero (sh : Nat → Nat) (n : Nat) : chkP sh n 0 = [] := rfl
theorem chkP_succ (sh : Nat → Nat) (n E : Nat) : chkP sh n (E + 1) = chkP sh n E ++ chkR sh E n := by
  unfold chkP; rw [List.range_succ, List.flatMap_append]; simp
theorem rowP_mem {x : Nat × Nat} : x ∈ rowP sh e k ↔ x.1 < k ∧ x.2 = e ∧ e < sh x.1 := by
  unfold rowP
  rw [List.mem_map]
  constructor
  · rintro ⟨b, hb, rfl⟩
    rw [List.mem_filter, List.mem_range, decide_eq_true_eq] at hb
    exact ⟨hb.1, rfl, hb.2⟩
  · rintro ⟨h1, h2, h3⟩
    exact ⟨x.1, by rw [List.mem_filter, List.mem_range, decide_eq_true_eq]; exact ⟨h1, h3⟩, by rw [← h2]⟩
theorem datP_mem {x : Nat × Nat} : x ∈ datP sh n E ↔ x.1 < n ∧ x.2 < E ∧ x.2 < sh x.1 := by
  induction E with
  | zero => rw [datP_zero]; simp
  | succ E ih =>
    rw [datP_succ, List.mem_append, ih, rowP_mem]
    constructor
    · rintro (⟨h1, h2, h3⟩ | ⟨h1, h2, h3⟩)
      · exact ⟨h1, by omega, h3⟩
      · exact ⟨h1, by omega, by omega⟩
    · rintro ⟨h1, h2, h3⟩
      by_cases h : x.2 < E
      · exact .inl ⟨h1, h, h3⟩
      · have : x.2 = E := by omega
        exact .inr ⟨h1, this, by omega⟩
theorem chkR_mem {x : Nat × Nat} : x ∈ chkR sh e k ↔ x.1 < k ∧ x.2 = sh x.1 + e := by
  unfold chkR
  rw [List.mem_map]
  constructor
  · rintro ⟨b, hb, rfl⟩
    exact ⟨List.mem_range.1 hb, rfl⟩
  · rintro ⟨h1, h2⟩
    exact ⟨x.1, List.mem_range.2 h1, by rw [← h2]⟩
theorem chkP_mem {x : Nat × Nat} : x ∈ chkP sh n E ↔ x.1 < n ∧ sh x.1 ≤ x.2 ∧ x.2 < sh x.1 + E := by
  induction E with
  | zero => rw [chkP_zero]; constructor
            · intro h; cases h
            · intro h; omega
  | succ E ih =>
    rw [chkP_succ, List.mem_append, ih, chkR_mem]
    omega
theorem ordP_mem (hQ : ∀ b, b < n → sh b ≤ Q) {x : Nat × Nat} : x ∈ ordP sh n Q C ↔ x.1 < n ∧ x.2 < sh x.1 + C := by
  unfold ordP
  rw [List.mem_append, datP_mem, chkP_mem]
  constructor
  · rintro (⟨h1, h2, h3⟩ | ⟨h1, h2, h3⟩) <;> omega
  · rintro ⟨h1, h2⟩
    have := hQ x.1 h1
    by_cases h : x.2 < sh x.1
    · exact .inl ⟨h1, by omega, h⟩
    · exact .inr ⟨h1, by omega, h2⟩
theorem nodup_snoc {α : Type} {l : List α} {x : α} (h : l.Nodup) (hx : x ∉ l) : (l ++ [x]).Nodup :=
  List.nodup_append.2 ⟨h, by simp, fun a ha b hb => by simp at hb; subst hb; exact fun e => hx (e ▸ ha)⟩
theorem rowP_nodup (sh : Nat → Nat) (e k : Nat) : (rowP sh e k).Nodup := by
  induction k with
  | zero => exact List.nodup_nil
  | succ k ih =>
    by_cases h : e < sh k
    · rw [rowP_yes h]
      exact nodup_snoc ih fun hx => by have := (rowP_mem.1 hx).1; omega
    · rw [rowP_no h]; exact ih
theorem datP_nodup (sh : Nat → Nat) (n E : Nat) : (datP sh n E).Nodup := by
  induction E with
  | zero => exact List.nodup_nil
  | succ E ih =>
    rw [datP_succ]
    exact List.nodup_append.2 ⟨ih, rowP_nodup _ _ _, fun a ha b hb e => by
      subst e
      have h1 := datP_mem.1 ha
      have h2 := rowP_mem.1 hb
      omega⟩
theorem chkR_nodup (sh : Nat → Nat) (e k : Nat) : (chkR sh e k).Nodup := by
  induction k with
  | zero => exact List.nodup_nil
  | succ k ih =>
    rw [chkR_succ]
    exact nodup_snoc ih fun hx => by have := (chkR_mem.1 hx).1; omega
theorem chkP_nodup (sh : Nat → Nat) (n E : Nat) : (chkP sh n E).Nodup := by
  induction E with
  | zero => exact List.nodup_nil
  | succ E ih =>
    rw [chkP_succ]
    exact List.nodup_append.2 ⟨ih, chkR_nodup _ _ _, fun a ha b hb e => by
      subst e
      have h1 := chkP_mem.1 ha
      have h2 := chkR_mem.1 hb
      omega⟩
theorem ordP_nodup (sh : Nat → Nat) (n Q C : Nat) : (ordP sh n Q C).Nodup :=
  List.nodup_append.2 ⟨datP_nodup _ _ _, chkP_nodup _ _ _, fun a ha b hb e => by
    subst e
    have h1 := datP_mem.1 ha
    have h2 := chkP_mem.1 hb
    omega⟩
theorem chkR_length (sh : Nat → Nat) (e k : Nat) : (chkR sh e k).length = k := by unfold chkR; simp
theorem chkP_length (sh : Nat → Nat) (n E : Nat) : (chkP sh n E).length = n * E := by
  induction E with
  | zero => rfl
  | succ E ih => rw [chkP_succ, List.length_append, ih, chkR_length, Nat.mul_succ]
end
theorem rowS_length (q r n e k : Nat) : (rowP (shN q r n) e k).length = if e < q then k else if e = q then k - (n - r) else 0 := by
  induction k with
  | zero => rw [rowP_zero]; simp
  | succ k ih =>
    by_cases h : e < shN q r n k
    · rw [rowP_yes h, List.length_append, ih]
      unfold shN at h
      simp only [List.length_singleton]
      split at h <;> split <;> (try split) <;> omega
    · rw [rowP_no h, ih]
      unfold shN at h
      split at h <;> split <;> (try split) <;> omega
theorem datS_length (q r n : Nat) (hr : r ≤ n) (E : Nat) : (datP (shN q r n) n E).length = if E ≤ q then n * E else n * q + r := by
  induction E with
  | zero => rw [datP_zero]; simp
  | succ E ih =>
    rw [datP_succ, List.length_append, ih, rowS_length]
    rcases Nat.lt_trichotomy E q with h | h | h
    · rw [if_pos (by omega), if_pos h, if_pos (by omega), Nat.mul_succ]
    · subst h
      rw [if_pos (by omega), if_neg (by omega), if_pos rfl, if_neg (by omega)]; omega
    · rw [if_neg (by omega), if_neg (by omega), if_neg (by omega), if_neg (by omega)]; omega
theorem shN_le (q r n b : Nat) : q ≤ shN q r n b ∧ shN q r n b ≤ q + 1 := by unfold shN; split <;> omega
/-- Where no block has one element more, the last row is empty. -/
theorem datS_same (q n : Nat) : datP (shN q 0 n) n (q + 1) = datP (shN q 0 n) n q := by
  rw [datP_succ]
  have h : rowP (shN q 0 n) q n = [] := List.eq_nil_of_length_eq_zero (by rw [rowS_length]; simp)
  rw [h, List.append_nil]
/-- The order of the stream. -/
def ordS (q r n C : Nat) : List (Nat × Nat) := ordP (shN q r n) n (q + 1) C
theorem ordS_mem {q r n C : Nat} {x : Nat × Nat} : x ∈ ordS q r n C ↔ x.1 < n ∧ x.2 < shN q r n x.1 + C := ordP_mem fun b _ => (shN_le q r n b).2
theorem ordS_nodup (q r n C : Nat) : (ordS q r n C).Nodup := ordP_nodup _ _ _ _
theorem ordS_length (q r n C : Nat) (hr : r ≤ n) : (ordS q r n C).length = n * q + r + n * C := by
  unfold ordS ordP
  rw [List.length_append, datS_length _ _ _ hr, chkP_length, if_neg (by omega)]
/-- Positions in a list without repetitions. -/
theorem idx_get {l : List (Nat × Nat)} (h : l.Nodup) {i : Nat} (hi : i < l.length) : l.idxOf l[i] = i := by
  induction l generalizing i with
  | nil => simp at hi
  | cons x l ih =>
    cases i with
    | zero => simp
    | succ i =>
      have hi' : i < l.length := by simp at hi; omega
      have hx : x ≠ l[i] := fun e => (List.nodup_cons.1 h).1 (by rw [e]; exact List.getElem_mem hi')
      rw [List.getElem_cons_succ, List.idxOf_cons, ih (List.nodup_cons.1 h).2 hi', show (x == l[i]) = false from beq_eq_false_iff_ne.2 hx]
      rfl
/-- A stream of some words. -/
def strL (o : List (Nat × Nat)) (W : Nat → Nat → Int) : List Int := o.map fun x => W x.1 x.2
theorem strL_length (o : List (Nat × Nat)) (W : Nat → Nat → Int) : (strL o W).length = o.length := by unfold strL; simp
theorem strL_snoc (o : List (Nat × Nat)) (W : Nat → Nat → Int) (x : Nat × Nat) : strL (o ++ [x]) W = strL o W ++ [W x.1 x.2] := by unfold strL; simp
theorem strL_gi (o : List (Nat × Nat)) (W : Nat → Nat → Int) {i : Nat} (hi : i < o.length) : gi (strL o W) i = W (o[i]).1 (o[i]).2 := by
  unfold strL gi; rw [List.getD_eq_getElem?_getD, List.getElem?_map, List.getElem?_eq_getElem hi]; rfl
theorem idx_mem {l : List (Nat × Nat)} {x : Nat × Nat} (h : x ∈ l) : ∃ hi : l.idxOf x < l.length, l[l.idxOf x] = x :=
  ⟨List.idxOf_lt_length_of_mem h, List.getElem_idxOf (List.idxOf_lt_length_of_mem h)⟩
/-- What word b holds at e when the first j elements of a stream have come. -/
def splG (o : List (Nat × Nat)) (s : List Int) (j b e : Nat) : Int := if o.idxOf (b, e) < j then gi s (o.idxOf (b, e)) else 0
def splR (o : List (Nat × Nat)) (s : List Int) (j b len : Nat) : List Int := (List.range len).map (splG o s j b)
theorem splR_length (o : List (Nat × Nat)) (s : List Int) (j b len : Nat) : (splR o s j b len).length = len := by unfold splR; simp
theorem splR_gi (o : List (Nat × Nat)) (s : List Int) (j b : Nat) {len e : Nat} (h : e < len) : gi (splR o s j b len) e = splG o s j b e := by
  unfold splR gi; rw [List.getD_eq_getElem?_getD]; simp [h]
theorem splR_zero (o : List (Nat × Nat)) (s : List Int) (b len : Nat) : splR o s 0 b len = List.replicate len 0 := by
  unfold splR
  apply List.ext_getElem?
  intro e
  by_cases he : e < len
  · rw [List.getElem?_map, List.getElem?_range he, List.getElem?_replicate, if_pos he]
    show some (splG o s 0 b e) = some 0
    unfold splG
    rw [if_neg (Nat.not_lt_zero _)]
  · rw [List.getElem?_eq_none (by simp; omega), List.getElem?_eq_none (by simp; omega)]
theorem splR_step {o : List (Nat × Nat)} (hn : o.Nodup) (s : List Int) {j : Nat} (hj : j < o.length) (len : Nat) : splR o s (j + 1) (o[j]).1 len = (splR o s j (o[j]).1 len).set (o[j]).2 (gi s j) := by
  have hij := idx_get hn hj
  apply List.ext_getElem?
  intro e
  rw [List.getElem?_set]
  unfold splR
  by_cases he : e < len
  · rw [List.getElem?_map, List.getElem?_map, List.getElem?_range he]
    simp only [Option.map_some, List.length_map, List.length_range]
    by_cases e2 : (o[j]).2 = e
    · subst e2
      rw [if_pos rfl, if_pos he]
      unfold splG
      rw [show ((o[j]).1, (o[j]).2) = o[j] from rfl, hij, if_pos (by omega)]
    · rw [if_neg e2]
      unfold splG
      have hne : o.idxOf ((o[j]).1, e) ≠ j := fun e3 => by
        have hm : ((o[j]).1, e) ∈ o := List.idxOf_lt_length_iff.1 (by omega)
        obtain ⟨h1, h2⟩ := idx_mem hm
        have : o[j] = ((o[j]).1, e) := by rw [← h2]; congr 1; exact e3.symm
        exact e2 (congrArg Prod.snd this)
      by_cases h : o.idxOf ((o[j]).1, e) < j
      · rw [if_pos h, if_pos (by omega)]
      · rw [if_neg h, if_neg (by omega)]
  · rw [List.getElem?_eq_none (by simp; omega), List.getElem?_eq_none (by simp; omega)]
    split
    · rw [if_neg (by simp; omega)]
    · rfl
theorem splR_other {o : List (Nat × Nat)} (hn : o.Nodup) (s : List Int) {j b : Nat} (hj : j < o.length) (hb : b ≠ (o[j]).1) (len : Nat) : splR o s (j + 1) b len = splR o s j b len := by
  unfold splR
  refine List.map_congr_left fun e _ => ?_
  unfold splG
  have hne : o.idxOf (b, e) ≠ j := fun e3 => by
    have hm : (b, e) ∈ o := List.idxOf_lt_length_iff.1 (by omega)
    obtain ⟨h1, h2⟩ := idx_mem hm
    have : o[j] = (b, e) := by rw [← h2]; congr 1; exact e3.symm
    exact hb (by rw [this])
  by_cases h : o.idxOf (b, e) < j
  · rw [if_pos h, if_pos (by omega)]
  · rw [if_neg h, if_neg (by omega)]
/-- Where block b begins in the data. -/
def offN (sh : Nat → Nat) : Nat → Nat
  | 0 => 0
  | b + 1 => offN sh b + sh b
theorem offS (q r n : Nat) (hr : r ≤ n) (b : Nat) (hb : b ≤ n) : offN (shN q r n) b = q * b + (b - (n - r)) := by
  induction b with
  | zero => show 0 = _; omega
  | succ b ih =>
    show offN (shN q r n) b + shN q r n b = _
    rw [ih (by omega)]
    unfold shN
    rw [Nat.mul_succ]
    split <;> omega
end Go.Proofs.Ytfhkkpfiflgofaa
