/-
  A table of rows of the call's own: rows of different lengths, each in a block of its own.
-/
import Derived.Test.YtfhkkpfiflgofaaTwo
import Derived.Test.YtfhkkpfiflgofaaMat
import Derived.Test.YtfhkkpfiflgofaaDraw
namespace Go.Proofs.Ytfhkkpfiflgofaa
open Go.RowKit
set_option linter.unusedVariables false

/-- The slots of a table of m rows of which the first k are made. -/
def slots (m k : Nat) (G cp : Nat → Nat) (L : Nat → List Int) : List Value := (List.range m).map fun j => if j < k then .slice (some ⟨G j, 0, none⟩) (L j).length (cp j) else .slice none 0 0
theorem slots_get {m k : Nat} {G cp : Nat → Nat} {L : Nat → List Int} {j : Nat} (hj : j < m) : (slots m k G cp L)[j]? = some (if j < k then .slice (some ⟨G j, 0, none⟩) (L j).length (cp j) else .slice none 0 0) := by
  unfold slots; rw [List.getElem?_map, List.getElem?_range hj]; rfl
structure Rag (w : World) (B : Nat) (v : Value) (m k : Nat) (G cp : Nat → Nat) (L : Nat → List Int) : Prop where
  size : B ≤ w.heap.size
  top : w.ownsRow B 26 1 v m (slots m k G cp L)
  own : ∀ j, j < k → OwnL w B (.slice (some ⟨G j, 0, none⟩) (L j).length (cp j)) (L j)
  ne : ∀ j, j < k → v.ownBlock ≠ some (G j)
  inj : ∀ i j, i < k → j < k → G i = G j → i = j
  km : k ≤ m
theorem ownsRow_below {w w' : World} {B : Nat} {e : TypeId} {s n : Nat} {v : Value} {xs : List Value} (h : w.ownsRow B e s v n xs) (hb : Below w.heap.size w w') : w'.ownsRow B e s v n xs := by
  refine ⟨h.1, ?_⟩
  rcases h.2 with h2 | ⟨g, cap, cur, rfl, hg, hh, r⟩
  · exact .inl h2
  · exact .inr ⟨g, cap, cur, rfl, hg, (hb.block g (Array.getElem?_eq_some_iff.1 hh).1).trans hh, r⟩
theorem ownsRow_other {w : World} {B : Nat} {e : TypeId} {s n : Nat} {v x : Value} {xs : List Value} {H j : Nat} (h : w.ownsRow B e s v n xs) (hne : v.ownBlock ≠ some H) : (w.setCell ⟨H, j, none⟩ x).ownsRow B e s v n xs := by
  refine ⟨h.1, ?_⟩
  rcases h.2 with h2 | ⟨g, cap, cur, rfl, hg, hh, r⟩
  · exact .inl h2
  · exact .inr ⟨g, cap, cur, rfl, hg, (Below.heap_setCell _ _ _ _ (fun e => hne (congrArg some (show g = H from e)))).trans hh, r⟩
section
variable {w : World} {B : Nat} {v : Value} {m k : Nat} {G cp : Nat → Nat} {L : Nat → List Int}
theorem Rag.below {w' : World} (h : Rag w B v m k G cp L) (hb : Below w.heap.size w w') : Rag w' B v m k G cp L :=
  ⟨Nat.le_trans h.size hb.size, ownsRow_below h.top hb, fun j hj => (h.own j hj).below hb, h.ne, h.inj, h.km⟩
theorem Rag.form (h : Rag w B v m k G cp L) (hm : 0 < m) : ∃ R cap, v = .slice (some ⟨R, 0, none⟩) m cap ∧ m ≤ cap ∧ B ≤ R ∧ R < w.heap.size := by
  rcases h.top.2 with ⟨_, h0⟩ | ⟨g, cap, cur, e, hg, hh, hc, _⟩
  · omega
  · exact ⟨g, cap, e, hc, hg, lt_of_heap hh⟩
theorem Rag.shape (h : Rag w B v m k G cp L) : ∃ a cap, v = .slice a m cap ∧ m ≤ cap ∧ (a = none → cap = 0) := by
  rcases h.top.2 with ⟨e, h0⟩ | ⟨g, cap, cur, e, hg, hh, hc, _⟩
  · exact ⟨none, 0, by rw [e, h0], by omega, fun _ => rfl⟩
  · exact ⟨_, cap, e, hc, fun h => by cases h⟩
theorem Rag.slot {R cap : Nat} (h : Rag w B (.slice (some ⟨R, 0, none⟩) m cap) m k G cp L) {j : Nat} (hj : j < k) : w.cell? ⟨R, j, none⟩ = some (.slice (some ⟨G j, 0, none⟩) (L j).length (cp j)) := by
  have hm := h.km
  rw [h.top.cellAt j (by omega), slots_get (by omega), if_pos hj]
theorem Rag.free {R cap : Nat} (h : Rag w B (.slice (some ⟨R, 0, none⟩) m cap) m k G cp L) {j : Nat} (hj : k ≤ j) (hm : j < m) : w.cell? ⟨R, j, none⟩ = some (.slice none 0 0) := by
  rw [h.top.cellAt j (by omega), slots_get (by omega), if_neg (by omega)]
theorem Rag.fz {R cap : Nat} (h : Rag w B (.slice (some ⟨R, 0, none⟩) m cap) m k G cp L) (j : Nat) : w.frozen? ⟨R, j, none⟩ = false := h.top.frozenAt j
theorem Rag.cell (h : Rag w B v m k G cp L) {j i : Nat} (hj : j < k) (hi : i < (L j).length) : w.cell? ⟨G j, i, none⟩ = some (.int .i64 (gi (L j) i)) ∧ w.frozen? ⟨G j, i, none⟩ = false := by
  refine ⟨?_, (h.own j hj).2.frozenAt i⟩
  rw [(h.own j hj).2.cellAt i (by omega), List.getElem?_map, List.getElem?_eq_getElem hi]
  unfold gi; rw [List.getD_eq_getElem?_getD, List.getElem?_eq_getElem hi]; rfl
theorem Rag.rlt (h : Rag w B v m k G cp L) {j : Nat} (hj : j < k) : B ≤ G j ∧ G j < w.heap.size := (h.own j hj).2.lt _ rfl
theorem Rag.row (h : Rag w B v m k G cp L) {j : Nat} (hj : j < k) : RowAt w (some ⟨G j, 0, none⟩) (L j).length (L j) := by
  obtain ⟨a, c, e, _, ho⟩ := (h.own j hj).shape
  simp only [Value.slice.injEq] at e
  obtain ⟨rfl, _, _⟩ := e
  exact ho.row
theorem slots_congr {G' cp' : Nat → Nat} {L' : Nat → List Int} (h : ∀ j, j < k → G j = G' j ∧ cp j = cp' j ∧ (L j).length = (L' j).length) : slots m k G cp L = slots m k G' cp' L' := by
  unfold slots
  refine List.map_congr_left fun j _ => ?_
  by_cases hj : j < k
  · obtain ⟨a, b, c⟩ := h j hj
    rw [if_pos hj, if_pos hj, a, b, c]
  · rw [if_neg hj, if_neg hj]
theorem Rag.congr {L' : Nat → List Int} (h : Rag w B v m k G cp L) (e : ∀ j, j < k → L j = L' j) : Rag w B v m k G cp L' :=
  ⟨h.size, by rw [← slots_congr (G := G) (cp := cp) (L := L) (fun j hj => ⟨rfl, rfl, by rw [e j hj]⟩)]; exact h.top, fun j hj => by rw [← e j hj]; exact h.own j hj, h.ne, h.inj, h.km⟩
/-- A store into a row. -/
theorem Rag.set (h : Rag w B v m k G cp L) {j i : Nat} (hj : j < k) (hi : i < (L j).length) (x : Int) : Rag (w.setCell ⟨G j, i, none⟩ (.int .i64 x)) B v m k G cp (fun t => if t = j then (L j).set i x else L t) := by
  refine ⟨by simpa [World.setCell] using h.size, ?_, fun t ht => ?_, h.ne, h.inj, h.km⟩
  · rw [slots_congr (G' := G) (cp' := cp) (L' := L) (fun t ht => ⟨rfl, rfl, by by_cases e : t = j <;> simp [e]⟩)]
    exact ownsRow_other h.top (h.ne j hj)
  · by_cases e : t = j
    · subst e
      simp only [if_pos, List.length_set]
      exact (h.own t hj).set hi x
    · simp only [if_neg e]
      exact (h.own t ht).other fun q hq => by
        simp only [Value.ownBlock, Option.some.injEq] at hq
        subst hq
        exact fun e2 => e (h.inj t j ht hj e2)
/-- A store elsewhere. -/
theorem Rag.other (h : Rag w B v m k G cp L) {H o : Nat} (h1 : v.ownBlock ≠ some H) (h2 : ∀ j, j < k → G j ≠ H) (x : Value) : Rag (w.setCell ⟨H, o, none⟩ x) B v m k G cp L :=
  ⟨by simpa [World.setCell] using h.size, ownsRow_other h.top h1, fun j hj => (h.own j hj).other fun q hq => by
    simp only [Value.ownBlock, Option.some.injEq] at hq
    subst hq; exact h2 j hj, h.ne, h.inj, h.km⟩
/-- A row more, stored into its slot. -/
theorem Rag.next {w' : World} {R cap g c : Nat} {zs : List Int} (h : Rag w B (.slice (some ⟨R, 0, none⟩) m cap) m k G cp L) (hk : k < m) (hb : Below w.heap.size w w') (ho : OwnL w' w.heap.size (.slice (some ⟨g, 0, none⟩) zs.length c) zs) :
    Rag (w'.setCell ⟨R, k, none⟩ (.slice (some ⟨g, 0, none⟩) zs.length c)) B (.slice (some ⟨R, 0, none⟩) m cap) m (k + 1) (fun t => if t = k then g else G t) (fun t => if t = k then c else cp t) (fun t => if t = k then zs else L t) := by
  have h' := h.below hb
  have hg : w.heap.size ≤ g := (ho.2.lt g rfl).1
  have hR : R < w.heap.size := (h.top.lt _ rfl).2
  have hgl : ∀ j, j < k → G j < w.heap.size := fun j hj => (h.rlt hj).2
  refine ⟨by simpa [World.setCell] using h'.size, ?_, fun t ht => ?_, fun t ht => ?_, fun i j hi hj e => ?_, by omega⟩
  · have h3 := (World.ownsRow.stored h'.top k (.slice (some ⟨g, 0, none⟩) zs.length c)).1
    have e : (slots m k G cp L).set k (.slice (some ⟨g, 0, none⟩) zs.length c) = slots m (k + 1) (fun t => if t = k then g else G t) (fun t => if t = k then c else cp t) (fun t => if t = k then zs else L t) := by
      apply List.ext_getElem?
      intro j
      by_cases hj : j < m
      · rw [List.getElem?_set, slots_get hj, slots_get hj]
        by_cases e : k = j
        · subst e
          rw [if_pos rfl, if_pos (by unfold slots; simp; omega), if_pos (Nat.lt_succ_self _)]
          simp
        · rw [if_neg e]
          have e2 : ¬ j = k := fun x => e x.symm
          by_cases hjk : j < k
          · rw [if_pos hjk, if_pos (show j < k + 1 by omega)]; simp [e2]
          · rw [if_neg hjk, if_neg (show ¬ j < k + 1 by omega)]
      · rw [List.getElem?_eq_none (by unfold slots; simp; omega), List.getElem?_eq_none (by unfold slots; simp; omega)]
    rw [← e]; exact h3
  · by_cases e : t = k
    · subst e
      simp only [if_pos]
      exact (ho.lower h.size).other fun q hq => by
        simp only [Value.ownBlock, Option.some.injEq] at hq
        subst hq; omega
    · simp only [if_neg e]
      exact (h'.own t (by omega)).other fun q hq => by
        simp only [Value.ownBlock, Option.some.injEq] at hq
        subst hq
        exact fun e2 => h.ne t (by omega) (by rw [e2]; rfl)
  · by_cases e : t = k
    · simp only [if_pos e]
      exact fun e2 => by simp only [Value.ownBlock, Option.some.injEq] at e2; omega
    · simp only [if_neg e]; exact h.ne t (by omega)
  · by_cases e1 : i = k <;> by_cases e2 : j = k
    · omega
    · simp only [if_pos e1, if_neg e2] at e
      have := hgl j (by omega); omega
    · simp only [if_neg e1, if_pos e2] at e
      have := hgl i (by omega); omega
    · simp only [if_neg e1, if_neg e2] at e
      exact h.inj i j (by omega) (by omega) e
/-- No rows yet. -/
theorem Rag.nil (w : World) (B : Nat) (hB : B ≤ w.heap.size) (G cp : Nat → Nat) (L : Nat → List Int) : Rag w B (.slice none 0 0) 0 0 G cp L :=
  ⟨hB, World.ownsRow_nil _ _ _ _, fun j hj => by omega, fun j hj => by omega, fun i j hi => by omega, Nat.le_refl _⟩
theorem Rag.empty (w : World) (B : Nat) (hB : B ≤ w.heap.size) (b : Nat) (hb : b = w.heap.size) (G cp : Nat → Nat) (L : Nat → List Int) : Rag (w.alloc (.cells #[] 26)) B (.slice (some ⟨b, 0, none⟩) 0 0) 0 0 G cp L := by
  subst hb
  exact ⟨by simp; omega, World.ownsRow_made w #[] 0 hB (by unfold maxLen; omega) rfl, fun j hj => by omega, fun j hj => by omega, fun i j hi => by omega, Nat.le_refl _⟩
theorem Rag.made (w : World) (B : Nat) (hB : B ≤ w.heap.size) (n : Nat) (hn : n ≤ 16777216) (b : Nat) (hb : b = w.heap.size) (G cp : Nat → Nat) (L : Nat → List Int) : Rag (w.alloc (.cells (madeCells #[.slice none 0 0] n) 26)) B (.slice (some ⟨b, 0, none⟩) n n) n 0 G cp L := by
  subst hb
  refine ⟨by simp; omega, ?_, fun j hj => by omega, fun j hj => by omega, fun i j hi => by omega, Nat.zero_le _⟩
  refine ⟨by unfold slots; simp, .inr ⟨_, n, _, rfl, hB, heap_alloc_new w _, Nat.le_refl _, by unfold maxLen; omega, by rw [size_madeCells]; simp, ?_⟩⟩
  apply List.ext_getElem?
  intro j
  by_cases hj : j < n
  · rw [List.getElem?_take, if_pos (by omega), slots_get hj, if_neg (by omega)]
    simp [madeCells, hj, Nat.mod_one]
  · rw [List.getElem?_eq_none (by simp; omega), List.getElem?_eq_none (by unfold slots; simp; omega)]
end
/-- What an append of one row leaves. -/
theorem rag_push {W0 w' : World} {B : Nat} {v v' : Value} {m g c : Nat} {G cp : Nat → Nat} {L : Nat → List Int} {zs : List Int} (h : Rag W0 B v m m G cp L) (hrow : OwnL W0 B (.slice (some ⟨g, 0, none⟩) zs.length c) zs) (hgv : v.ownBlock ≠ some g) (hgj : ∀ j, j < m → G j ≠ g)
    (h1 : w'.ownsRow B 26 1 v' (m + 1) (slots m m G cp L ++ [.slice (some ⟨g, 0, none⟩) zs.length c])) (hg : (W0.alloc (.cells #[.slice (some ⟨g, 0, none⟩) zs.length c] 26)).grownBy w' v.ownBlock) (hat : v'.ownBlock = v.ownBlock ∨ v'.ownBlock = some (W0.alloc (.cells #[.slice (some ⟨g, 0, none⟩) zs.length c] 26)).heap.size) :
    Rag w' B v' (m + 1) (m + 1) (fun t => if t = m then g else G t) (fun t => if t = m then c else cp t) (fun t => if t = m then zs else L t) := by
  have hsz : B ≤ w'.heap.size := by have := hg.size; have := h.size; simp at *; omega
  have hglt : g < W0.heap.size := (hrow.2.lt g rfl).2
  have hGlt : ∀ j, j < m → G j < W0.heap.size := fun j hj => (h.rlt hj).2
  refine ⟨hsz, ?_, fun t ht => ?_, fun t ht => ?_, fun i j hi hj e => ?_, Nat.le_refl _⟩
  · have e : slots m m G cp L ++ [.slice (some ⟨g, 0, none⟩) zs.length c] = slots (m + 1) (m + 1) (fun t => if t = m then g else G t) (fun t => if t = m then c else cp t) (fun t => if t = m then zs else L t) := by
      unfold slots
      rw [List.range_succ, List.map_append]
      congr 1
      · refine List.map_congr_left fun j hj => ?_
        have hj := List.mem_range.1 hj
        have e2 : ¬ j = m := by omega
        rw [if_pos hj, if_pos (by omega)]; simp [e2]
      · simp
    rw [← e]; exact h1
  · by_cases e : t = m
    · subst e
      simp only [if_pos]
      exact ⟨hsz, (hrow.2.alloc _).kept hg (.inr (fun e => hgv e.symm))⟩
    · simp only [if_neg e]
      exact ⟨hsz, ((h.own t (by omega)).2.alloc _).kept hg (.inr (fun e2 => h.ne t (by omega) e2.symm))⟩
  · have key : ∀ q, q < W0.heap.size → v.ownBlock ≠ some q → v'.ownBlock ≠ some q := fun q hq hne e => by
      rcases hat with h2 | h2
      · exact hne (h2.symm.trans e)
      · rw [h2] at e; simp at e; omega
    by_cases e : t = m
    · simp only [if_pos e]; exact key g hglt hgv
    · simp only [if_neg e]; exact key _ (hGlt t (by omega)) (h.ne t (by omega))
  · by_cases e1 : i = m <;> by_cases e2 : j = m
    · omega
    · simp only [if_pos e1, if_neg e2] at e
      exact absurd e.symm (hgj j (by omega))
    · simp only [if_neg e1, if_pos e2] at e
      exact absurd e (hgj i (by omega))
    · simp only [if_neg e1, if_neg e2] at e
      exact h.inj i j (by omega) (by omega) e
theorem append_rag {W0 : World} {ops : Array Oper} {rest : List Oper} {o : Oper} {a : Act} {Q : Exit → Act → World → Prop} (hgd : o.guard = none) (s x : Operand) (t : TypeId)
    (ho : o.op = .call { callee := .builtin .append, args := #[s, x], argTypes := #[t, t] }) (ht : Try.prog.underlying t = some (.slice 26))
    {B : Nat} {v : Value} {m g c : Nat} {G cp : Nat → Nat} {L : Nat → List Int} {zs : List Int} (h : Rag W0 B v m m G cp L) (hrow : OwnL W0 B (.slice (some ⟨g, 0, none⟩) zs.length c) zs) (hgv : v.ownBlock ≠ some g) (hgj : ∀ j, j < m → G j ≠ g)
    (hs : a.eval s = v) (b : Nat) (hb : b = W0.heap.size) (hx : a.eval x = .slice (some ⟨b, 0, none⟩) 1 1) (hn : m ≤ 100000)
    (K : ∀ v' w', Rag w' B v' (m + 1) (m + 1) (fun t => if t = m then g else G t) (fun t => if t = m then c else cp t) (fun t => if t = m then zs else L t) → Below B W0 w' → wpList Try.prog ops Q rest (a.put o.dst v') w') :
    wpList Try.prog ops Q (o :: rest) a (W0.alloc (.cells #[.slice (some ⟨g, 0, none⟩) zs.length c] 26)) := by
  subst hb
  obtain ⟨i0, hi, hz0, hz1, hz2⟩ := info_parts info_row
  refine wpList_append_own_at _ hgd s x t ho B 26 i0 (.slice none 0 0) 1 24 ht hi hz0 hz1 hz2 rfl (by decide) v m (slots m m G cp L) hs (h.top.alloc _) ⟨W0.heap.size, 0, none⟩ 1 1 [.slice (some ⟨g, 0, none⟩) zs.length c] hx rfl ?_ ?_ (by unfold maxLen; omega) (by omega) (by have := h.size; simp; omega) ?_
  · intro j u hj
    match j, hj with
    | 0, hj => simp at hj; subst hj; simp [Addr.add, go_sem]
  · intro u hu; simp at hu; subst hu; rfl
  · intro v' w' h1 hg _ hat
    exact K v' w' (rag_push h hrow hgv hgj h1 hg hat) (append_below h.size hg (fun k hk => (h.top.lt k hk).1))
theorem step_rag {W0 : World} {ops : Array Oper} {o : Oper} {a : Act} {K : Act → World → Prop} {Q : Exit → Act → World → Prop} {E : Prop} (hgd : o.guard = none) (s x : Operand) (t : TypeId)
    (ho : o.op = .call { callee := .builtin .append, args := #[s, x], argTypes := #[t, t] }) (ht : Try.prog.underlying t = some (.slice 26))
    {B : Nat} {v : Value} {m g c : Nat} {G cp : Nat → Nat} {L : Nat → List Int} {zs : List Int} (h : Rag W0 B v m m G cp L) (hrow : OwnL W0 B (.slice (some ⟨g, 0, none⟩) zs.length c) zs) (hgv : v.ownBlock ≠ some g) (hgj : ∀ j, j < m → G j ≠ g)
    (hs : a.eval s = v) (b : Nat) (hb : b = W0.heap.size) (len : Nat) (hlen : len = zs.length) (hx : a.eval x = .slice (some ⟨b, 0, none⟩) 1 1) (hn : m ≤ 100000)
    (hK : ∀ v' w', Rag w' B v' (m + 1) (m + 1) (fun t => if t = m then g else G t) (fun t => if t = m then c else cp t) (fun t => if t = m then zs else L t) → Below B W0 w' → K (a.put o.dst v') w') :
    if Region.wanted o (yielded ops a.tmps) = true then Oper.wp Try.prog o a (W0.alloc (.cells #[.slice (some ⟨g, 0, none⟩) len c] 26)) K Q else E := by
  subst hb hlen
  have hw : Region.wanted o (yielded ops a.tmps) = true := by simp [Region.wanted, hgd]
  rw [if_pos hw]
  obtain ⟨i0, hi, hz0, hz1, hz2⟩ := info_parts info_row
  obtain ⟨v', w', hrun, h1, hg, _, hat⟩ := run_append_own_at (P := Try.prog) (W0.alloc (.cells #[.slice (some ⟨g, 0, none⟩) zs.length c] 26)) B t o.type 26 i0 (.slice none 0 0) 1 24 ht hi hz0 hz1 hz2 rfl (by decide) v m (slots m m G cp L) (h.top.alloc _) ⟨W0.heap.size, 0, none⟩ 1 1 [.slice (some ⟨g, 0, none⟩) zs.length c] rfl
    (by
      intro j u hj
      match j, hj with
      | 0, hj => simp at hj; subst hj; simp [Addr.add, go_sem])
    (by intro u hu; simp at hu; subst hu; rfl) (by unfold maxLen; omega) (by omega) (by have := h.size; simp; omega)
  have hfin := hK v' w' (rag_push h hrow hgv hgj h1 hg hat) (append_below h.size hg (fun k hk => (h.top.lt k hk).1))
  unfold Oper.wp
  simp [execOp, ho, resolve, invoke, builtin, hs, hx, hrun, Result.andThen]
  exact hfin
theorem Rag.lower {w : World} {B C : Nat} {v : Value} {m k : Nat} {G cp : Nat → Nat} {L : Nat → List Int} (h : Rag w B v m k G cp L) (hC : C ≤ B) : Rag w C v m k G cp L := by
  refine ⟨Nat.le_trans hC h.size, ⟨h.top.1, ?_⟩, fun j hj => (h.own j hj).lower hC, h.ne, h.inj, h.km⟩
  rcases h.top.2 with h2 | ⟨g, cap, cur, rfl, hg, hh, r⟩
  · exact .inl h2
  · exact .inr ⟨g, cap, cur, rfl, Nat.le_trans hC hg, hh, r⟩
/-- A pair more. -/
theorem append_pair {wr : World} {ops : Array Oper} {rest : List Oper} {o : Oper} {a : Act} {Q : Exit → Act → World → Prop} (hgd : o.guard = none) (s x : Operand) (t : TypeId)
    (ho : o.op = .call { callee := .builtin .append, args := #[s, x], argTypes := #[t, t] }) (ht : Try.prog.underlying t = some (.slice 26))
    {B : Nat} {v : Value} {m : Nat} {G cp : Nat → Nat} {L : Nat → List Int} (h : Rag wr B v m m G cp L) (y z : Int) (hs : a.eval s = v) (b1 b : Nat) (hb1 : b1 = wr.heap.size) (hb : b = wr.heap.size + 1) (hx : a.eval x = .slice (some ⟨b, 0, none⟩) 1 1) (hn : m ≤ 100000)
    (K : ∀ v' w' G' cp', Rag w' B v' (m + 1) (m + 1) G' cp' (fun t => if t = m then [y, z] else L t) → Below B wr w' → wpList Try.prog ops Q rest (a.put o.dst v') w') :
    wpList Try.prog ops Q (o :: rest) a ((wr.alloc (.cells #[.int .i64 y, .int .i64 z] 2)).alloc (.cells #[.slice (some ⟨b1, 0, none⟩) 2 2] 26)) := by
  subst hb1
  have hrow : OwnL (wr.alloc (.cells #[.int .i64 y, .int .i64 z] 2)) B (.slice (some ⟨wr.heap.size, 0, none⟩) [y, z].length 2) [y, z] := OwnL.lit wr B h.size [y, z] (by simp)
  refine append_rag hgd s x t ho ht (h.below (below1 wr (.cells #[.int .i64 y, .int .i64 z] 2))) hrow (fun e => by have := (h.top.lt _ e).2; omega) (fun j hj e => by have := (h.rlt hj).2; omega) hs b (by simp; omega) hx hn ?_
  intro v' w' hr hb
  exact K v' w' _ _ hr (((Below.refl B wr).alloc h.size _).trans hb)
/-- The value's own block is none of the table's. -/
def AptV (vo v : Value) (m : Nat) (G : Nat → Nat) : Prop := ∀ k, vo.ownBlock = some k → v.ownBlock ≠ some k ∧ ∀ j, j < m → G j ≠ k
theorem Rag.grown {w w' : World} {B : Nat} {v vo : Value} {m k : Nat} {G cp : Nat → Nat} {L : Nat → List Int} (h : Rag w B v m k G cp L) (hg : w.grownBy w' vo.ownBlock) (ha : AptV vo v k G) : Rag w' B v m k G cp L :=
  ⟨Nat.le_trans h.size hg.size, h.top.kept hg (by
      cases hv : v.ownBlock with
      | none => exact .inl rfl
      | some b => exact .inr (fun e => (ha b e.symm).1 hv)), fun j hj => ⟨Nat.le_trans h.size hg.size, (h.own j hj).2.kept hg (.inr (fun e => (ha (G j) e.symm).2 j hj rfl))⟩, h.ne, h.inj, h.km⟩
theorem AptV.next {w : World} {B : Nat} {v vo vo' : Value} {m k : Nat} {G cp : Nat → Nat} {L : Nat → List Int} (ha : AptV vo v k G) (h : Rag w B v m k G cp L) {b : Nat} (hb : w.heap.size ≤ b) (hat : vo'.ownBlock = vo.ownBlock ∨ vo'.ownBlock = some b) : AptV vo' v k G := by
  intro q hq
  rcases hat with e | e
  · exact ha q (e.symm.trans hq)
  · have : b = q := by rw [e] at hq; simpa using hq
    subst this
    exact ⟨fun e2 => by have := (h.top.lt _ e2).2; omega, fun j hj e2 => by have := (h.rlt hj).2; omega⟩
theorem AptV.top {vo : Value} {R m n c : Nat} {G : Nat → Nat} (h : AptV vo (.slice (some ⟨R, 0, none⟩) n c) m G) : some R ≠ vo.ownBlock := fun e => (h R e.symm).1 rfl
theorem AptV.at {vo v : Value} {m : Nat} {G : Nat → Nat} (h : AptV vo v m G) {j : Nat} (hj : j < m) : some (G j) ≠ vo.ownBlock := fun e => (h _ e.symm).2 j hj rfl
/-- One more number, and what has turned. -/
theorem step_oneG {W0 : World} {ops : Array Oper} {o : Oper} {a : Act} {K : Act → World → Prop} {Q : Exit → Act → World → Prop} {E : Prop} (hgd : o.guard = none) (s x : Operand) (t : TypeId)
    (ho : o.op = .call { callee := .builtin .append, args := #[s, x], argTypes := #[t, t] }) (ht : Try.prog.underlying t = some (.slice 2))
    {B : Nat} {v : Value} {zs : List Int} (z : Int) (hown : OwnL W0 B v zs) (hs : a.eval s = v) (b : Nat) (hb : b = W0.heap.size) (hx : a.eval x = .slice (some ⟨b, 0, none⟩) 1 1) (hn : zs.length ≤ 16777216)
    (h : ∀ v' w', OwnL w' B v' (zs ++ [z]) → W0.grownBy w' v.ownBlock → (W0.alloc (.cells #[.int .i64 z] 2)).grownBy w' v.ownBlock → (v'.ownBlock = v.ownBlock ∨ v'.ownBlock = some (W0.heap.size + 1)) → K (a.put o.dst v') w') :
    if Region.wanted o (yielded ops a.tmps) = true then Oper.wp Try.prog o a (W0.alloc (.cells #[.int .i64 z] 2)) K Q else E := by
  subst hb
  have hw : Region.wanted o (yielded ops a.tmps) = true := by simp [Region.wanted, hgd]
  rw [if_pos hw]
  obtain ⟨i0, hi, hz0, hz1, hz2⟩ := info_parts info_int
  obtain ⟨hB, hown⟩ := hown
  obtain ⟨v', w', hrun, h1, hg, _, hat⟩ := run_append_own_at (P := Try.prog) (W0.alloc (.cells #[.int .i64 z] 2)) B t o.type 2 i0 (.int .i64 0) 1 8 ht hi hz0 hz1 hz2 rfl (by decide) v zs.length (zs.map (Value.int .i64)) (hown.alloc _) ⟨W0.heap.size, 0, none⟩ 1 1 [.int .i64 z] rfl
    (by
      intro j u hj
      match j, hj with
      | 0, hj => simp at hj; subst hj; simp [Addr.add, go_sem])
    (by intro u hu; simp at hu; subst hu; rfl) (by unfold maxLen; omega) (by omega) (by simp; omega)
  have hg0 : W0.grownBy w' v.ownBlock := ⟨hg.os, hg.tape, hg.output, by have := hg.size; simp at this; omega, fun k hk hne => by
    refine (hg.block k (by simp; omega) hne).trans ?_
    exact heap_alloc_old W0 _ hk⟩
  have hfin := h v' w' ⟨by have := hg.size; simp at this; omega, by simpa using h1⟩ hg0 hg (by simpa using hat)
  unfold Oper.wp
  simp [execOp, ho, resolve, invoke, builtin, hs, hx, hrun, Result.andThen]
  exact hfin
theorem grown_below {w w' : World} {v : Value} {A : Nat} {w0 : World} (h : Below A w0 w) (h0 : A ≤ w0.heap.size) (hg : w.grownBy w' v.ownBlock) (hA : ∀ k, v.ownBlock = some k → A ≤ k) : Below A w0 w' := h.grown hg (Nat.le_trans h0 h.size) hA
end Go.Proofs.Ytfhkkpfiflgofaa
