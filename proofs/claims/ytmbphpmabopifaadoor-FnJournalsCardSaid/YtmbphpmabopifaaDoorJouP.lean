/-
  Journals, in plain Lean: the line of a record, its sum, the text of a list of records. Slices of bytes of the call's own.
-/
import Derived.Test.YtmbphpmabopifaaDoorCount
import Derived.Lib.ItoaNum
import Derived.Lib.ItoaLen
import Derived.Lib.UnsafeStr
import Derived.Lib.AppendStr
import Derived.Lib.AppendIntMem
import Derived.Laws.Concat
import Derived.Laws.IdiomStrings
namespace Go.Proofs.YtmbphpmabopifaaDoor
open Go.RowKit
set_option linter.unusedVariables false

/-- A string out of a list of bytes. -/
def str (l : List UInt8) : ByteArray := ⟨l.toArray⟩
theorem str_add (a b : List UInt8) : str a ++ str b = str (a ++ b) := ByteArray.mk_append_mk a b
theorem str_size (l : List UInt8) : (str l).size = l.length := by show l.toArray.size = l.length; simp
theorem str_get (l : List UInt8) (k : Nat) (h : k < (str l).size) : (str l)[k]'h = l[k]'(by rw [str_size] at h; exact h) := rfl
theorem str_inj {a b : List UInt8} (h : str a = str b) : a = b := by
  unfold str at h
  have h1 : a.toArray = b.toArray := by injection h
  simpa using congrArg Array.toList h1
theorem str_list (l : List UInt8) : (str l).data.toList = l := by simp [str]
/-- The word of a kind. -/
def wrdL (k : Int) : List UInt8 := if k = 1 then [112, 108, 97, 110] else if k = 2 then [112, 114, 105, 110, 116] else if k = 3 then [114, 101, 97, 100] else [118, 111, 105, 100]
theorem wrdL_le (k : Int) : (wrdL k).length ≤ 5 := by unfold wrdL; split <;> (try split) <;> (try split) <;> simp
/-- The sum of some bytes. -/
def sumL (s : Int) (l : List UInt8) : Int := l.foldl (fun (s : Int) (b : UInt8) => (131 * s + (b.toNat : Int) + 1) % 65521) s
theorem sumL_bd {s : Int} (h0 : 0 ≤ s) (h1 : s < 65521) (l : List UInt8) : 0 ≤ sumL s l ∧ sumL s l < 65521 := by
  induction l generalizing s with
  | nil => exact ⟨h0, h1⟩
  | cons b l ih => exact ih (s := (131 * s + (b.toNat : Int) + 1) % 65521) (by omega) (by omega)
theorem sumL_snoc (s : Int) (l : List UInt8) (b : UInt8) : sumL s (l ++ [b]) = (131 * sumL s l + (b.toNat : Int) + 1) % 65521 := by unfold sumL; rw [List.foldl_append]; rfl
theorem sumL_take {s : Int} {l : List UInt8} {k : Nat} (h : k < l.length) : sumL s (l.take (k + 1)) = (131 * sumL s (l.take k) + (l[k].toNat : Int) + 1) % 65521 := by
  rw [List.take_succ_eq_append_getElem h, sumL_snoc]
/-- The body of a record's line: its number, its word, its index. -/
def bodyL (n : Int) (r : Int × Int) : List UInt8 := Lib.itoa n ++ [32] ++ wrdL r.1 ++ [32] ++ Lib.itoa r.2
theorem itoa_le {n : Int} (h0 : 0 ≤ n) (h1 : n ≤ 1000000) : (Lib.itoa n).length ≤ 21 := Lib.itoa_length_le n (by omega) (by omega)
theorem bodyL_le {n : Int} {r : Int × Int} (h0 : 0 ≤ n) (h1 : n ≤ 1000000) (h2 : 0 ≤ r.2) (h3 : r.2 ≤ 1000000) : (bodyL n r).length ≤ 49 := by
  have a := itoa_le h0 h1
  have b := itoa_le h2 h3
  have c := wrdL_le r.1
  unfold bodyL; simp only [List.length_append, List.length_cons, List.length_nil]; omega
/-- A record's line without its newline. -/
def lineL (n : Int) (r : Int × Int) (s : Int) : List UInt8 := bodyL n r ++ [32] ++ Lib.itoa (sumL s (bodyL n r))
theorem lineL_le {n : Int} {r : Int × Int} {s : Int} (h0 : 0 ≤ n) (h1 : n ≤ 1000000) (h2 : 0 ≤ r.2) (h3 : r.2 ≤ 1000000) (h4 : 0 ≤ s) (h5 : s < 65521) : (lineL n r s).length ≤ 71 := by
  have a := bodyL_le h0 h1 h2 h3
  have hb := sumL_bd h4 h5 (bodyL n r)
  have b := itoa_le hb.1 (by omega)
  unfold lineL; simp only [List.length_append, List.length_cons, List.length_nil]; omega
/-- The journal of the first k records, and the sum of its last line. -/
def jouL (L : List (Int × Int)) : Nat → List UInt8 × Int
  | 0 => ([], 0)
  | k + 1 => ((jouL L k).1 ++ (lineL (k : Int) (gr L k) (jouL L k).2 ++ [10]), sumL (jouL L k).2 (bodyL (k : Int) (gr L k)))
theorem jouL_sum (L : List (Int × Int)) (k : Nat) : 0 ≤ (jouL L k).2 ∧ (jouL L k).2 < 65521 := by
  induction k with
  | zero => exact ⟨by simp [jouL], by simp [jouL]⟩
  | succ k ih => exact sumL_bd ih.1 ih.2 _
theorem recB_bd {k i : Int} (h : recB k i = true) : 1 ≤ k ∧ k ≤ 4 ∧ 0 ≤ i ∧ i ≤ 199 := by
  unfold recB at h
  simp only [Bool.and_eq_true] at h
  have h1 := inR_iff.1 h.1
  have h2 := inR_iff.1 h.2
  omega
theorem jouL_le {L : List (Int × Int)} (hv : ∀ k, k < L.length → recB (gr L k).1 (gr L k).2 = true) {k : Nat} (hk : k ≤ L.length) (hl : L.length ≤ 1000) : (jouL L k).1.length ≤ 72 * k := by
  induction k with
  | zero => simp [jouL]
  | succ k ih =>
    have h1 := ih (by omega)
    have hb := recB_bd (hv k (by omega))
    have hs := jouL_sum L k
    have h2 := lineL_le (n := (k : Int)) (r := gr L k) (s := (jouL L k).2) (by omega) (by omega) hb.2.2.1 (by omega) hs.1 hs.2
    show ((jouL L k).1 ++ (lineL (k : Int) (gr L k) (jouL L k).2 ++ [10])).length ≤ _
    rw [List.length_append, List.length_append]
    simp only [List.length_cons, List.length_nil]
    omega

/-- What JournalOf hands back. -/
def jofR (L : List (Int × Int)) : List UInt8 := if recsC L = 0 then (jouL L L.length).1 else []
theorem jofR_ok {L : List (Int × Int)} (h : recsC L = 0) : jofR L = (jouL L L.length).1 := if_pos h
theorem jofR_bad {L : List (Int × Int)} (h : ¬ recsC L = 0) : jofR L = [] := if_neg h
/-- A slice of bytes of the call's own that may be appended to. -/
def OwnB (w : World) (B : Nat) (v : Value) (bs : List UInt8) : Prop := B ≤ w.heap.size ∧ w.ownsRow B 5 1 v bs.length (Lib.byteCells bs)
theorem OwnB.nil (w : World) (B : Nat) (hB : B ≤ w.heap.size) : OwnB w B (.slice none 0 0) [] := ⟨hB, World.ownsRow_nil _ _ _ _⟩
theorem OwnB.empty (w : World) (B : Nat) (hB : B ≤ w.heap.size) (b : Nat) (hb : b = w.heap.size) : OwnB (w.alloc (.cells #[] 5)) B (.slice (some ⟨b, 0, none⟩) 0 0) [] := by
  subst hb
  exact ⟨by simp; omega, World.ownsRow_made w #[] 0 hB (by unfold maxLen; omega) rfl⟩
theorem OwnB.belowV {w w' : World} {B M : Nat} {v : Value} {bs : List UInt8} (h : OwnB w B v bs) (hb : Below M w w') (hg : ∀ k, v.ownBlock = some k → k < M) : OwnB w' B v bs := by
  obtain ⟨hB, hl, h2⟩ := h
  refine ⟨Nat.le_trans hB hb.size, hl, ?_⟩
  rcases h2 with h0 | ⟨g', cp, cur, rfl, hg', hh, rest⟩
  · exact .inl h0
  · exact .inr ⟨g', cp, cur, rfl, hg', (hb.block g' (hg g' rfl)).trans hh, rest⟩
theorem OwnB.blk {w : World} {B : Nat} {v : Value} {bs : List UInt8} (h : OwnB w B v bs) {k : Nat} (hk : v.ownBlock = some k) : B ≤ k ∧ k < w.heap.size := h.2.lt k hk
theorem OwnB.below {w w' : World} {B : Nat} {v : Value} {bs : List UInt8} (h : OwnB w B v bs) (hb : Below w.heap.size w w') : OwnB w' B v bs := h.belowV hb fun k hk => (h.blk hk).2
theorem OwnB.lower {w : World} {B C : Nat} {v : Value} {bs : List UInt8} (h : OwnB w B v bs) (hC : C ≤ B) : OwnB w C v bs := by
  obtain ⟨hB, hl, h2⟩ := h
  refine ⟨by omega, hl, ?_⟩
  rcases h2 with h2 | ⟨g, cap, cur, rfl, hg, r⟩
  · exact .inl h2
  · exact .inr ⟨g, cap, cur, rfl, by omega, r⟩
theorem OwnB.other {w : World} {B G j : Nat} {v x : Value} {bs : List UInt8} (h : OwnB w B v bs) (hne : ∀ k, v.ownBlock = some k → k ≠ G) : OwnB (w.setCell ⟨G, j, none⟩ x) B v bs := by
  obtain ⟨hB, hl, h2⟩ := h
  refine ⟨by simpa [World.setCell] using hB, hl, ?_⟩
  rcases h2 with h2 | ⟨g, cap, cur, rfl, hg, hh, r⟩
  · exact .inl h2
  · exact .inr ⟨g, cap, cur, rfl, hg, (Below.heap_setCell _ _ _ _ (hne g rfl)).trans hh, r⟩
/-- A row of bytes that may be read. -/
structure RowU (w : World) (a : Option Addr) (n cap : Nat) (bs : List UInt8) : Prop where
  len : bs.length = n
  le : n ≤ cap
  no : a = none → cap = 0
  small : cap ≤ 9223372036854775807
  at' : ∀ ad, a = some ad → ad.block < w.heap.size ∧ ∀ j (hj : j < bs.length), w.cell? (ad.add j) = some (.int .u8 (bs[j].toNat : Int))
theorem addr_blk (ad : Addr) (j : Nat) : (ad.add j).block = ad.block := by unfold Addr.add; split <;> rfl
theorem RowU.below {w w' : World} {a : Option Addr} {n cap : Nat} {bs : List UInt8} (h : RowU w a n cap bs) (hb : Below w.heap.size w w') : RowU w' a n cap bs :=
  ⟨h.len, h.le, h.no, h.small, fun ad e => ⟨by have := (h.at' ad e).1; have := hb.size; omega, fun j hj => (hb.cell (p := ad.add j) (by rw [addr_blk]; exact (h.at' ad e).1)).trans ((h.at' ad e).2 j hj)⟩⟩
theorem OwnB.row {w : World} {B : Nat} {v : Value} {bs : List UInt8} (h : OwnB w B v bs) : ∃ a cap, v = .slice a bs.length cap ∧ RowU w a bs.length cap bs ∧ (∀ ad, a = some ad → ∃ g, ad = ⟨g, 0, none⟩ ∧ B ≤ g ∧ v.ownBlock = some g) := by
  rcases h.2.2 with ⟨rfl, h0⟩ | ⟨g, cap, cur, rfl, hg, hh, hn, hm, hs, ht⟩
  · have h0' : bs = [] := List.eq_nil_of_length_eq_zero h0
    subst h0'
    exact ⟨none, 0, rfl, ⟨rfl, Nat.le_refl _, fun _ => rfl, by omega, fun ad e => by cases e⟩, fun ad e => by cases e⟩
  · unfold maxLen at hm
    refine ⟨some ⟨g, 0, none⟩, cap, rfl, ⟨rfl, hn, (fun e => by cases e), hm, fun ad e => ?_⟩, fun ad e => ⟨g, by cases e; rfl, hg, rfl⟩⟩
    cases e
    refine ⟨lt_of_heap hh, fun j hj => ?_⟩
    exact h.2.cells (g := g) rfl j _ (by simp [Lib.byteCells, hj])
/-- 'string(b)' of a slice of bytes. -/
theorem run_str {w : World} {a : Option Addr} {n cap : Nat} {bs : List UInt8} (h : RowU w a n cap bs) : (convert 42 9 (.slice a n cap)).run Tryd.prog w = .ok (.string (str bs)) w := by
  obtain ⟨hl, hle, hno, hs, hat⟩ := h
  subst hl
  cases a with
  | some ad => exact run_convert_bytes_back w _ _ _ ad cap bs Tryd.underlying42 Tryd.underlying5 Tryd.underlying9 (hat ad rfl).2
  | none =>
    have hc := hno rfl
    subst hc
    have h0 : bs = [] := List.eq_nil_of_length_eq_zero (by omega)
    subst h0
    rw [run_convert_bytes_string w _ _ _ none _ 0 Tryd.underlying42 Tryd.underlying5 Tryd.underlying9]
    simp [Conv.bytesToString, str]
    rfl
theorem info_u8 : (Tryd.prog.info? 5).map (fun i => (i.zero, i.size, i.bytes)) = some (some (.int .u8 0), 1, 1) := by kernel_rfl
/-- One more byte. -/
theorem appendB_one {W0 : World} {ops : Array Oper} {rest : List Oper} {o : Oper} {a : Act} {Q : Exit → Act → World → Prop} (hgd : o.guard = none) (s x : Operand) (t : TypeId)
    (ho : o.op = .call { callee := .builtin .append, args := #[s, x], argTypes := #[t, t] }) (ht : Tryd.prog.underlying t = some (.slice 5))
    {B : Nat} {v : Value} {bs : List UInt8} (z : Int) (c : UInt8) (hz : z = (c.toNat : Int)) (hown : OwnB W0 B v bs) (hs : a.eval s = v) (b : Nat) (hb : b = W0.heap.size) (hx : a.eval x = .slice (some ⟨b, 0, none⟩) 1 1) (hn : bs.length ≤ 16777216)
    (h : ∀ v' w', OwnB w' B v' (bs ++ [c]) → Below B W0 w' → wpList Tryd.prog ops Q rest (a.put o.dst v') w') : wpList Tryd.prog ops Q (o :: rest) a (W0.alloc (.cells #[.int .u8 z] 5)) := by
  subst hb
  subst hz
  obtain ⟨i0, hi, hz0, hz1, hz2⟩ := info_parts info_u8
  obtain ⟨hB, hown⟩ := hown
  refine wpList_append_own _ hgd s x t ho B 5 i0 (.int .u8 0) 1 1 ht hi hz0 hz1 hz2 rfl (by decide) v bs.length (Lib.byteCells bs) hs (hown.alloc _) ⟨W0.heap.size, 0, none⟩ 1 1 [.int .u8 (c.toNat : Int)] hx rfl ?_ ?_ (by unfold maxLen; omega) (by omega) (by simp; omega) ?_
  · intro j u hj
    match j, hj with
    | 0, hj => simp at hj; subst hj; simp [Addr.add, go_sem]
  · intro u hu; simp at hu; subst hu; rfl
  · intro v' w' h1 hg _
    exact h v' w' ⟨by have := hg.size; simp at this; omega, by rw [Lib.byteCells_append, List.length_append]; exact h1⟩ (append_below hB hg fun k hk => (hown.lt k hk).1)
/-- A string behind the bytes. -/
theorem appendB_str {W0 : World} {ops : Array Oper} {rest : List Oper} {o : Oper} {a : Act} {Q : Exit → Act → World → Prop} (hgd : o.guard = none) (s x : Operand) (t u : TypeId)
    (ho : o.op = .call { callee := .builtin .append, args := #[s, x], argTypes := #[t, u] }) (ht : Tryd.prog.underlying t = some (.slice 5)) (hu : Tryd.prog.underlying u = some .string)
    {B : Nat} {v : Value} {bs : List UInt8} (S : ByteArray) (l : List UInt8) (hS : S = str l) (hown : OwnB W0 B v bs) (hs : a.eval s = v) (hx : a.eval x = .string S) (hn : bs.length ≤ 16777216) (hl : l.length ≤ 16777216)
    (h : ∀ v' w', OwnB w' B v' (bs ++ l) → Below B W0 w' → wpList Tryd.prog ops Q rest (a.put o.dst v') w') : wpList Tryd.prog ops Q (o :: rest) a W0 := by
  subst hS
  obtain ⟨i0, hi, hz0, hz1, hz2⟩ := info_parts info_u8
  obtain ⟨hB, hown⟩ := hown
  have hsz := str_size l
  refine Lib.wpList_append_own_string _ hgd s x t u ho B 5 i0 ht hu hi hz0 hz1 hz2 v bs.length (Lib.byteCells bs) hs hown (str l) hx (by unfold maxLen; omega) (by omega) hB ?_
  intro v' w' h1 hg _
  refine h v' w' ⟨by have := hg.size; omega, ?_⟩ ((Below.refl B W0).grown hg hB fun k hk => (hown.lt k hk).1)
  rw [Lib.byteCells_append, List.length_append, ← hsz]
  exact h1
end Go.Proofs.YtmbphpmabopifaaDoor
