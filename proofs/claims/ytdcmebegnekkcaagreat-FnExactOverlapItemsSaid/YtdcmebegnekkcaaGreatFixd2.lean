/-
  The parts Fixk, Fixl, Fixm.
-/
import Derived.Test.YtdcmebegnekkcaaGreatFixc
import Derived.Maps.OwnSet
import Derived.DeepKeys4
import Derived.Maps.AppendAt
/-
  The program's map of places: keys, what it holds, look-up, store.
-/
namespace Go.Proofs.YtdcmebegnekkcaaGreat
open Go.RowKit
open Go.Maps (Keyed)
set_option linter.unusedVariables false

abbrev MpT : TypeId := 219
theorem plKeyT : Tryz.prog.keyTypeAt 2 PlT = true := by kernel_rfl
theorem plKeyTT : Tryz.prog.keyType PlT = true := by kernel_rfl
theorem plRowB : (decide (PlT < Tryz.prog.types.size)) = true := by kernel_rfl
theorem plRow : PlT < Tryz.prog.types.size := of_decide_eq_true plRowB
theorem laidP : laidOutB Tryz.prog = true := by kernel_rfl
theorem pos_of_lt {a n : Nat} (h : a < n) : ∃ m, n = m + 1 := ⟨n - 1, by omega⟩
theorem plLaw : Keyed Tryz.prog PlT := Keyed.of_law (deep_law_laid (k := PlT) laidP (m := 2) (by omega) plRow plKeyT (by rw [Tryz.underlying222]))
theorem plSize : ∃ m, Tryz.prog.types.size = m + 1 := pos_of_lt plRow
theorem plCells : Tryz.prog.cellsOf PlT = 2 := by kernel_rfl
theorem i64Cells : Tryz.prog.cellsOf 2 = 1 := by kernel_rfl
theorem plKey {r c : Int} (hr : (Lit.int .i64 r).wf = true) (hc : (Lit.int .i64 c).wf = true) : ∃ l, keyOf Tryz.prog PlT (plV r c) = some l := by
  refine ⟨.string (keyBytes [.int .i64 r, .int .i64 c]), ?_⟩
  obtain ⟨m, hm⟩ := plSize
  unfold keyOf
  simp only [Tryz.underlying222]
  rw [if_pos (by simp [plKeyTT, plV, Value.formed, Tryz.underlying222, plCells]), hm]
  simp [Program.keyLits, plV, Value.cells, Tryz.underlying222, Tryz.underlying2, plCells, i64Cells, hr, hc]
/-- Block b is a map of places, true at those of T. -/
def TkM (w : World) (b n : Nat) (T : Int → Int → Bool) : Prop :=
  ∃ D : DataW Unit, w.ownsMap Tryz.prog PlT (plainElem Tryz.prog 4) b n D ∧ Maps.IsMap D ∧ ∀ r c kl, keyOf Tryz.prog PlT (plV r c) = some kl → D.atKey kl (.lit (.bool false)) = .lit (.bool (T r c))
theorem TkM.made (w : World) : TkM (w.alloc (.map #[] 0)) w.heap.size 0 (fun _ _ => false) :=
  ⟨.map [], World.ownsMap_made _ _ _ _, Maps.isMap_empty, fun _ _ _ _ => by simp [DataW.atKey]⟩
theorem TkM.lt {w : World} {b n : Nat} {T : Int → Int → Bool} (h : TkM w b n T) : b < w.heap.size := by obtain ⟨D, h1, _⟩ := h; exact h1.lt
theorem TkM.kept {w w' : World} {b n : Nat} {T : Int → Int → Bool} (h : TkM w b n T) (hb : w'.heap[b]? = w.heap[b]?) : TkM w' b n T := by
  obtain ⟨D, ⟨es, clock, h1, h2⟩, h3⟩ := h
  exact ⟨D, ⟨es, clock, hb.trans h1, h2⟩, h3⟩
theorem TkM.below {w w' : World} {b n M : Nat} {T : Int → Int → Bool} (h : TkM w b n T) (hb : Below M w w') (hM : b < M) : TkM w' b n T := h.kept (hb.block b hM)
theorem TkM.congr {w : World} {b n : Nat} {T T' : Int → Int → Bool} (h : TkM w b n T) (e : T = T') : TkM w b n T' := e ▸ h
theorem plV_inj {r c r' c' : Int} (h : plV r c = plV r' c') : r = r' ∧ c = c' := by
  unfold plV at h
  simpa using h
theorem TkM.put {w : World} {b n : Nat} {T : Int → Int → Bool} (h : TkM w b n T) (hn : n < 100000) {r c : Int} (hr : (Lit.int .i64 r).wf = true) (hc : (Lit.int .i64 c).wf = true) :
    ∃ w', (Instr.mapUpdate MpT (.map (some b)) (.agg #[.int .i64 r, .int .i64 c]) (.bool true)).run Tryz.prog w = .ok () w' ∧ TkM w' b (n + 1) (fun r' c' => T r' c' || (r' == r && c' == c)) ∧ w.grownBy w' (some b) := by
  obtain ⟨D, h1, h2, h3⟩ := h
  obtain ⟨kl, hk⟩ := plKey hr hc
  obtain ⟨w', e1, e2, e3⟩ := h1.update plLaw Tryz.underlying219 (by unfold maxLen; omega) hk (plainElem_bool (H := Unit) Tryz.underlying4 true)
  refine ⟨w', e1, ⟨_, e2, h2.put _ _, fun r' c' kl' hk' => ?_⟩, e3⟩
  by_cases e : kl' = kl
  · subst e
    obtain ⟨rfl, rfl⟩ := plV_inj (plLaw.inj hk' hk)
    rw [Maps.atKey_put_same h2 (plLaw.key hk)]
    show _ = DataW.lit (Lit.bool (T r' c' || (r' == r' && c' == c')))
    simp
  · rw [Maps.atKey_put_other e, h3 r' c' kl' hk']
    have hne : ¬ (r' = r ∧ c' = c) := fun ⟨a1, a2⟩ => by subst a1; subst a2; rw [hk] at hk'; exact e (Option.some.inj hk').symm
    show DataW.lit (Lit.bool (T r' c')) = DataW.lit (Lit.bool (T r' c' || (r' == r && c' == c)))
    by_cases hr' : r' = r
    · have : (c' == c) = false := by simp; exact fun hc' => hne ⟨hr', hc'⟩
      rw [this]; simp
    · have : (r' == r) = false := by simp [hr']
      rw [this]; simp
theorem zeroBool (w : World) : (zeroValue 4).run Tryz.prog w = .ok (.bool false) w := by kernel_rfl
theorem TkM.look {w : World} {b n : Nat} {T : Int → Int → Bool} (h : TkM w b n T) {r c : Int} (hr : (Lit.int .i64 r).wf = true) (hc : (Lit.int .i64 c).wf = true) :
    (Instr.lookup MpT (.map (some b)) (.agg #[.int .i64 r, .int .i64 c]) false).run Tryz.prog w = .ok (.bool (T r c)) w := by
  obtain ⟨D, h1, h2, h3⟩ := h
  obtain ⟨kl, hk⟩ := plKey hr hc
  obtain ⟨v, ps, e1, e2⟩ := h1.lookup plLaw Tryz.underlying219 (zeroBool w) (plainElem_bool (H := Unit) Tryz.underlying4 false) hk
  rw [h3 r c kl hk] at e2
  have : v = .bool (T r c) := by
    unfold plainElem at e2
    simp only [Tryz.underlying4] at e2
    cases v <;> simp at e2
    obtain ⟨rfl, -⟩ := e2
    rfl
  rw [← this]; exact e1
end Go.Proofs.YtdcmebegnekkcaaGreat
/-
  Slices of places of the call's own, two at a time; the places of the formats.
-/
namespace Go.Proofs.YtdcmebegnekkcaaGreat
open Go.RowKit
set_option linter.unusedVariables false

theorem info_plc : (Tryz.prog.info? PlT).map (fun i => (i.zero, i.size, i.bytes)) = some (some (.agg #[.int .i64 0, .int .i64 0]), 2, 16) := by kernel_rfl
/-- The cells of a list of places. -/
def plC (L : List (Int × Int)) : List Value := L.flatMap fun r => [Value.int .i64 r.1, Value.int .i64 r.2]
theorem plC_length (L : List (Int × Int)) : (plC L).length = L.length * 2 := by
  induction L with
  | nil => rfl
  | cons r L ih => show ([Value.int .i64 r.1, Value.int .i64 r.2] ++ plC L).length = _; rw [List.length_append, ih]; simp; omega
theorem plC_app (L M : List (Int × Int)) : plC (L ++ M) = plC L ++ plC M := by unfold plC; rw [List.flatMap_append]
theorem plC_at (L : List (Int × Int)) : ∀ (k : Nat) (hk : k < L.length), (plC L)[k * 2]? = some (.int .i64 (L[k]'hk).1) ∧ (plC L)[k * 2 + 1]? = some (.int .i64 (L[k]'hk).2) := by
  induction L with
  | nil => intro k hk; simp at hk
  | cons r L ih =>
    intro k hk
    have e : plC (r :: L) = Value.int .i64 r.1 :: Value.int .i64 r.2 :: plC L := rfl
    rw [e]
    cases k with
    | zero => exact ⟨rfl, rfl⟩
    | succ k =>
      have h := ih k (by simp at hk; omega)
      have e2 : (k + 1) * 2 = k * 2 + 1 + 1 := by omega
      rw [e2, List.getElem?_cons_succ, List.getElem?_cons_succ, List.getElem?_cons_succ, List.getElem?_cons_succ]
      exact h
/-- A slice of places of the call's own that may be appended to. -/
def OwnP (w : World) (B : Nat) (v : Value) (L : List (Int × Int)) : Prop := B ≤ w.heap.size ∧ w.ownsRow B PlT 2 v L.length (plC L)
theorem OwnP.empty (w : World) (B : Nat) (hB : B ≤ w.heap.size) (b : Nat) (hb : b = w.heap.size) : OwnP (w.alloc (.cells #[] PlT)) B (.slice (some ⟨b, 0, none⟩) 0 0) [] := by
  subst hb
  exact ⟨by simp; omega, World.ownsRow_made w #[] 0 hB (by unfold maxLen; omega) rfl⟩
theorem OwnP.belowV {w w' : World} {B M : Nat} {v : Value} {L : List (Int × Int)} (h : OwnP w B v L) (hb : Below M w w') (hg : ∀ k, v.ownBlock = some k → k < M) : OwnP w' B v L := by
  obtain ⟨hB, hl, h2⟩ := h
  refine ⟨Nat.le_trans hB hb.size, hl, ?_⟩
  rcases h2 with h0 | ⟨g', cp, cur, rfl, hg', hh, rest⟩
  · exact .inl h0
  · exact .inr ⟨g', cp, cur, rfl, hg', (hb.block g' (hg g' rfl)).trans hh, rest⟩
theorem OwnP.below {w w' : World} {B : Nat} {v : Value} {L : List (Int × Int)} (h : OwnP w B v L) (hb : Below w.heap.size w w') : OwnP w' B v L := h.belowV hb fun k hk => (h.2.lt k hk).2
theorem OwnP.other {w w' : World} {B : Nat} {v : Value} {L : List (Int × Int)} (h : OwnP w B v L) (hs : w.heap.size ≤ w'.heap.size) (hb : ∀ k, v.ownBlock = some k → w'.heap[k]? = w.heap[k]?) : OwnP w' B v L := by
  obtain ⟨hB, hl, h2⟩ := h
  refine ⟨Nat.le_trans hB hs, hl, ?_⟩
  rcases h2 with h0 | ⟨g', cp, cur, rfl, hg', hh, rest⟩
  · exact .inl h0
  · exact .inr ⟨g', cp, cur, rfl, hg', (hb g' rfl).trans hh, rest⟩
theorem OwnP.lower {w : World} {B C : Nat} {v : Value} {L : List (Int × Int)} (h : OwnP w B v L) (hC : C ≤ B) : OwnP w C v L := by
  obtain ⟨hB, hl, h2⟩ := h
  refine ⟨by omega, hl, ?_⟩
  rcases h2 with h2 | ⟨g, cap, cur, rfl, hg, r⟩
  · exact .inl h2
  · exact .inr ⟨g, cap, cur, rfl, by omega, r⟩
theorem OwnP.slice {w : World} {B : Nat} {v : Value} {L : List (Int × Int)} (h : OwnP w B v L) : ∃ a cap, v = .slice a L.length cap := by
  rcases h.2.2 with ⟨rfl, h0⟩ | ⟨g, cap, cur, rfl, _⟩
  · exact ⟨none, 0, by rw [h0]⟩
  · exact ⟨_, _, rfl⟩
theorem OwnP.cells {w : World} {B : Nat} {v : Value} {L : List (Int × Int)} (h : OwnP w B v L) (hn : 0 < L.length) : ∃ g cap, v = .slice (some ⟨g, 0, none⟩) L.length cap ∧ B ≤ g ∧ g < w.heap.size ∧ ∀ j u, (plC L)[j]? = some u → w.cell? ⟨g, j, none⟩ = some u := by
  rcases h.2.2 with ⟨rfl, h0⟩ | ⟨g, cap, cur, rfl, hg, hh, hc, hm, hs, ht⟩
  · omega
  · refine ⟨g, cap, rfl, hg, lt_of_heap hh, fun j u hj => ?_⟩
    rw [cell_of_heap hh, ← Array.getElem?_toList]
    have hl : j < (plC L).length := by
      rcases Nat.lt_or_ge j (plC L).length with h1 | h1
      · exact h1
      · rw [List.getElem?_eq_none h1] at hj; cases hj
    rw [← ht, List.getElem?_take] at hj
    split at hj
    · exact hj
    · cases hj
/-- Two slices of the call's own, in different blocks. -/
def Two (w : World) (B : Nat) (v : Value) (L : List (Int × Int)) (u : Value) (M : List (Int × Int)) : Prop :=
  OwnP w B v L ∧ OwnP w B u M ∧ ∀ q, v.ownBlock = some q → u.ownBlock ≠ some q
theorem Two.symm {w : World} {B : Nat} {v u : Value} {L M : List (Int × Int)} (h : Two w B v L u M) : Two w B u M v L := ⟨h.2.1, h.1, fun q hu hv => h.2.2 q hv hu⟩
theorem Two.below {w w' : World} {B : Nat} {v u : Value} {L M : List (Int × Int)} (h : Two w B v L u M) (hb : Below w.heap.size w w') : Two w' B v L u M := ⟨h.1.below hb, h.2.1.below hb, h.2.2⟩
theorem grown_belowP {B : Nat} {W w' : World} {v : Value} (hg : W.grownBy w' v.ownBlock) (hB : B ≤ W.heap.size) (hv : ∀ k, v.ownBlock = some k → B ≤ k) : Below B W w' :=
  ⟨hg.os, hg.tape, hg.output, hg.size, fun k hk => hg.block k (by omega) (fun e => by have := hv k e.symm; omega)⟩
theorem appendP {W : World} {ops : Array Oper} {rest : List Oper} {o : Oper} {a : Act} {Q : Exit → Act → World → Prop} (hgd : o.guard = none) (s x : Operand) (t : TypeId)
    (ho : o.op = .call { callee := .builtin .append, args := #[s, x], argTypes := #[t, t] }) (ht : Tryz.prog.underlying t = some (.slice PlT))
    {B : Nat} {v u : Value} {L M : List (Int × Int)} (N : List (Int × Int)) (ad : Addr) (m c : Nat) (hT : Two W B v L u M) (hs : a.eval s = v) (hx : a.eval x = .slice (some ad) m c) (hm : N.length = m)
    (hnews : ∀ j u, (plC N)[j]? = some u → W.cell? (ad.add j) = some u) (hn : L.length + m ≤ 1000000)
    (h : ∀ v' w', Two w' B v' (L ++ N) u M → Below B W w' → wpList Tryz.prog ops Q rest (a.put o.dst v') w') : wpList Tryz.prog ops Q (o :: rest) a W := by
  obtain ⟨i0, hi, hz0, hz1, hz2⟩ := info_parts info_plc
  obtain ⟨⟨hB, hown⟩, h2, h3⟩ := hT
  refine wpList_append_own_at _ hgd s x t ho B PlT i0 (.agg #[.int .i64 0, .int .i64 0]) 2 16 ht hi hz0 hz1 hz2 rfl (by decide) v L.length _ hs hown ad m c (plC N) hx (by rw [plC_length, hm]) hnews ?_ (by unfold maxLen; omega) (by omega) hB ?_
  · intro q hq
    unfold plC at hq
    rw [List.mem_flatMap] at hq
    obtain ⟨p, _, hp⟩ := hq
    simp at hp
    rcases hp with rfl | rfl <;> rfl
  · intro v' w' e1 hg _ hat
    have hb : Below B W w' := grown_belowP hg hB fun k hk => (hown.lt k hk).1
    refine h v' w' ⟨⟨Nat.le_trans hB hg.size, ?_⟩, h2.other hg.size (fun k hk => hg.block k (h2.2.lt k hk).2 (fun e => h3 k e.symm hk)), fun q hq hu => ?_⟩ hb
    · rw [List.length_append, plC_app, hm]; exact e1
    · rcases hat with e2 | e2
      · exact h3 q (e2 ▸ hq) hu
      · rw [e2] at hq
        have := (h2.2.lt q hu).2
        simp at hq; omega
theorem news1 (w : World) (r c : Int) : ∀ j u, (plC [(r, c)])[j]? = some u → (w.alloc (.cells #[.int .i64 r, .int .i64 c] PlT)).cell? ((⟨w.heap.size, 0, none⟩ : Addr).add j) = some u := by
  intro j u hj
  match j, hj with
  | 0, hj => simp [plC] at hj; subst hj; simp [Addr.add, go_sem]
  | 1, hj => simp [plC] at hj; subst hj; simp [Addr.add, go_sem]
  | j + 2, hj => simp [plC] at hj
theorem news3 (w : World) : ∀ j u, (plC [(8, 7), (8, 8), (7, 8)])[j]? = some u → (w.alloc (.cells #[.int .i64 8, .int .i64 7, .int .i64 8, .int .i64 8, .int .i64 7, .int .i64 8] PlT)).cell? ((⟨w.heap.size, 0, none⟩ : Addr).add j) = some u := by
  intro j u hj
  match j, hj with
  | 0, hj => simp [plC] at hj; subst hj; simp [Addr.add, go_sem]
  | 1, hj => simp [plC] at hj; subst hj; simp [Addr.add, go_sem]
  | 2, hj => simp [plC] at hj; subst hj; simp [Addr.add, go_sem]
  | 3, hj => simp [plC] at hj; subst hj; simp [Addr.add, go_sem]
  | 4, hj => simp [plC] at hj; subst hj; simp [Addr.add, go_sem]
  | 5, hj => simp [plC] at hj; subst hj; simp [Addr.add, go_sem]
  | j + 6, hj => simp [plC] at hj
end Go.Proofs.YtdcmebegnekkcaaGreat
/-
  The places of the formats, in the program.
-/
namespace Go.Proofs.YtdcmebegnekkcaaGreat
open Go.RowKit
set_option linter.unusedVariables false

def fA1 (k : Nat) : List (Int × Int) := (List.range k).map fun i : Nat => ((8 : Int), (i : Int))
def fA2 (k : Nat) : List (Int × Int) := (List.range k).map fun i : Nat => (5 - (i : Int), (8 : Int))
def fB1 (n : Int) (k : Nat) : List (Int × Int) := (List.range k).map fun i : Nat => (n - 1 - (i : Int), (8 : Int))
def fB2 (n : Int) (k : Nat) : List (Int × Int) := (List.range k).map fun i : Nat => ((8 : Int), n - 8 + (i : Int))
def fmtA : List (Int × Int) := fA1 6 ++ [(8, 7), (8, 8), (7, 8)] ++ fA2 6
def fmtB (n : Int) : List (Int × Int) := fB1 n 7 ++ fB2 n 8
theorem fA1_s (k : Nat) : fA1 k ++ [(8, (k : Int))] = fA1 (k + 1) := by unfold fA1; rw [List.range_succ, List.map_append]; rfl
theorem fA2_s (k : Nat) : fA2 k ++ [(5 - (k : Int), 8)] = fA2 (k + 1) := by unfold fA2; rw [List.range_succ, List.map_append]; rfl
theorem fB1_s (n : Int) (k : Nat) : fB1 n k ++ [(n - 1 - (k : Int), 8)] = fB1 n (k + 1) := by unfold fB1; rw [List.range_succ, List.map_append]; rfl
theorem fB2_s (n : Int) (k : Nat) : fB2 n k ++ [(8, n - 8 + (k : Int))] = fB2 n (k + 1) := by unfold fB2; rw [List.range_succ, List.map_append]; rfl
theorem f_lens (n : Int) (k : Nat) : (fA1 k).length = k ∧ (fA2 k).length = k ∧ (fB1 n k).length = k ∧ (fB2 n k).length = k := by simp [fA1, fA2, fB1, fB2]
set_option maxHeartbeats 4000000 in
theorem formats_any {n : Int} (h1 : 17 ≤ n) (h2 : n ≤ 41) (w : World) :
    Calls Tryz.prog 173 #[.int .i64 n] w fun e w' => Below w.heap.size w w' ∧ ∃ v u, e = .returned (.tuple #[v, u]) ∧ Two w' w.heap.size v fmtA u (fmtB n) := by
  have HN := Lib.hid (And.intro h1 h2)
  have hn7 := (wrp (x := n - 7) (by omega)).2
  have hn8 := (wrp (x := n - 8) (by omega)).2
  have hn1 := (wrp (x := n - 1) (by omega)).2
  clear h1 h2
  go_enter Tryz.func173, Tryz.ntmps173
  go_wp2_with fail
  have b0 := ((Below.refl w.heap.size w).alloc (Nat.le_refl _) (.cells #[] PlT)).alloc (by simp) (.cells #[] PlT)
  have t0 : Two ((w.alloc (.cells #[] PlT)).alloc (.cells #[] PlT)) w.heap.size (.slice (some ⟨w.heap.size, 0, none⟩) 0 0) (fA1 0) (.slice (some ⟨w.heap.size + 1, 0, none⟩) 0 0) [] :=
    ⟨(OwnP.empty w w.heap.size (Nat.le_refl _) _ rfl).below (below_al1 _ _), OwnP.empty (w.alloc (.cells #[] PlT)) w.heap.size (by simp) _ (by simp), fun q h1 h2 => by simp [Value.ownBlock] at h1 h2; omega⟩
  have T0 := Lib.hid (And.intro b0 t0)
  clear b0 t0
  generalize ((w.alloc (.cells #[] PlT)).alloc (.cells #[] PlT)) = W at *
  go_loopw [4, 6] (fun v t wr => ∃ k : Nat, k ≤ 6 ∧ t = .int .i64 (k : Int) ∧ Hid (Below w.heap.size w wr ∧ Two wr w.heap.size v (fA1 k) (.slice (some ⟨w.heap.size + 1, 0, none⟩) 0 0) [])) (fun _ t _ => 6 - (intOf t).toNat)
  case atStart => exact ⟨0, by omega, rfl, T0⟩
  case round =>
    clear T0
    obtain ⟨k, hk, rfl, HT⟩ := hrel
    by_cases hlt : k < 6
    · have hle : (k : Int) ≤ 5 := by omega
      have TW := Lib.hid (HT.out.2.below (below_al1 wr (.cells #[.int .i64 8, .int .i64 (k : Int)] PlT)))
      have BW := Lib.hid (HT.out.1.trans ((below_al1 wr (.cells #[.int .i64 8, .int .i64 (k : Int)] PlT)).mono HT.out.1.size))
      have hll : (fA1 k).length + 1 ≤ 1000000 := by rw [(f_lens n k).1]; omega
      go_wp2_with (at_builtin; refine appendP rfl _ _ _ rfl Tryz.underlying203 [(8, (k : Int))] ⟨wr.heap.size, 0, none⟩ 1 1 TW.out rfl rfl rfl (news1 wr 8 (k : Int)) hll ?_; intro v' w7 hT7 hb7)
      have H7 := Lib.hid (And.intro (BW.out.trans (hb7.mono (by have := BW.out.size; omega))) hT7)
      clear hb7 hT7
      go_roundw
      case rel => exact ⟨k + 1, by omega, by go_num, Lib.hid ⟨H7.out.1, by rw [← fA1_s]; exact H7.out.2⟩⟩
      case measure => simp [intOf]; omega
    · obtain rfl : k = 6 := by omega
      have TW := Lib.hid (HT.out.2.below (below_al1 wr (.cells #[.int .i64 8, .int .i64 7, .int .i64 8, .int .i64 8, .int .i64 7, .int .i64 8] PlT)))
      have BW := Lib.hid (HT.out.1.trans ((below_al1 wr (.cells #[.int .i64 8, .int .i64 7, .int .i64 8, .int .i64 8, .int .i64 7, .int .i64 8] PlT)).mono HT.out.1.size))
      have hll : (fA1 6).length + 3 ≤ 1000000 := by rw [(f_lens n 6).1]; omega
      go_wp2_with (at_builtin; refine appendP rfl _ _ _ rfl Tryz.underlying203 [(8, 7), (8, 8), (7, 8)] ⟨wr.heap.size, 0, none⟩ 3 3 TW.out rfl rfl rfl (news3 wr) hll ?_; intro v7 w7 hT7 hb7)
      have H7 := Lib.hid (show Below w.heap.size w w7 ∧ Two w7 w.heap.size v7 (fA1 6 ++ [(8, 7), (8, 8), (7, 8)] ++ fA2 0) (.slice (some ⟨w.heap.size + 1, 0, none⟩) 0 0) [] from ⟨BW.out.trans (hb7.mono (by have := BW.out.size; omega)), by rw [show fA2 0 = [] from rfl, List.append_nil]; exact hT7⟩)
      clear hb7 hT7 TW BW HT hll
      go_loopw [4, 7] (fun v t wr => ∃ k : Nat, k ≤ 6 ∧ t = .int .i64 (5 - (k : Int)) ∧ Hid (Below w.heap.size w wr ∧ Two wr w.heap.size v (fA1 6 ++ [(8, 7), (8, 8), (7, 8)] ++ fA2 k) (.slice (some ⟨w.heap.size + 1, 0, none⟩) 0 0) [])) (fun _ t _ => (intOf t + 1).toNat)
      case atStart => exact ⟨0, by omega, rfl, H7⟩
      case round =>
        clear H7
        obtain ⟨k, hk, rfl, HT⟩ := hrel
        by_cases hlt : k < 6
        · have hle : (0 : Int) ≤ 5 - (k : Int) := by omega
          have hwk := (wrp (x := 5 - (k : Int) - 1) (by omega))
          have hwa := hwk.1
          have hwb := hwk.2
          clear hwk
          have TW := Lib.hid (HT.out.2.below (below_al1 wr (.cells #[.int .i64 (5 - (k : Int)), .int .i64 8] PlT)))
          have BW := Lib.hid (HT.out.1.trans ((below_al1 wr (.cells #[.int .i64 (5 - (k : Int)), .int .i64 8] PlT)).mono HT.out.1.size))
          have hll : (fA1 6 ++ [(8, 7), (8, 8), (7, 8)] ++ fA2 k).length + 1 ≤ 1000000 := by simp [(f_lens n k).2.1, (f_lens n 6).1]; omega
          go_wp2_with (at_builtin; refine appendP rfl _ _ _ rfl Tryz.underlying203 [(5 - (k : Int), 8)] ⟨wr.heap.size, 0, none⟩ 1 1 TW.out rfl rfl rfl (news1 wr (5 - (k : Int)) 8) hll ?_; intro v7 w7 hT7 hb7)
          have H7 := Lib.hid (And.intro (BW.out.trans (hb7.mono (by have := BW.out.size; omega))) hT7)
          clear hb7 hT7
          go_roundw
          case rel => exact ⟨k + 1, by omega, by first | (go_num; done) | (congr 1; omega), Lib.hid ⟨H7.out.1, by rw [← fA2_s, ← List.append_assoc]; exact H7.out.2⟩⟩
          case measure => simp [intOf]; omega
        · obtain rfl : k = 6 := by omega
          have hne : ¬ (0 : Int) ≤ 5 - ((6 : Nat) : Int) := by omega
          go_wp2_with fail
          have HT3 := Lib.hid (show Below w.heap.size w wr ∧ Two wr w.heap.size (.slice (some ⟨w.heap.size + 1, 0, none⟩) 0 0) (fB1 n 0) u4 fmtA from ⟨HT.out.1, HT.out.2.symm⟩)
          clear HT hne
          go_loopw [5, 8] (fun v t wr => ∃ k : Nat, k ≤ 7 ∧ t = .int .i64 (n - 1 - (k : Int)) ∧ Hid (Below w.heap.size w wr ∧ Two wr w.heap.size v (fB1 n k) u4 fmtA)) (fun _ t _ => (intOf t - (n - 8)).toNat)
          case atStart => exact ⟨0, by omega, by simp, HT3⟩
          case round =>
            clear HT3
            obtain ⟨k, hk, rfl, HT⟩ := hrel
            by_cases hlt : k < 7
            · have hle : n - 7 ≤ n - 1 - (k : Int) := by omega
              have hwk := (wrp (x := n - 1 - (k : Int) - 1) (by have := HN.out; omega))
              have hwa := hwk.1
              have hwb := hwk.2
              clear hwk
              have TW := Lib.hid (HT.out.2.below (below_al1 wr (.cells #[.int .i64 (n - 1 - (k : Int)), .int .i64 8] PlT)))
              have BW := Lib.hid (HT.out.1.trans ((below_al1 wr (.cells #[.int .i64 (n - 1 - (k : Int)), .int .i64 8] PlT)).mono HT.out.1.size))
              have hll : (fB1 n k).length + 1 ≤ 1000000 := by rw [(f_lens n k).2.2.1]; omega
              go_wp2_with (at_builtin; refine appendP rfl _ _ _ rfl Tryz.underlying203 [(n - 1 - (k : Int), 8)] ⟨wr.heap.size, 0, none⟩ 1 1 TW.out rfl rfl rfl (news1 wr (n - 1 - (k : Int)) 8) hll ?_; intro v7 w7 hT7 hb7)
              have H7 := Lib.hid (And.intro (BW.out.trans (hb7.mono (by have := BW.out.size; omega))) hT7)
              clear hb7 hT7
              go_roundw
              case rel => exact ⟨k + 1, by omega, by first | (go_num; done) | (congr 1; omega), Lib.hid ⟨H7.out.1, by rw [← fB1_s]; exact H7.out.2⟩⟩
              case measure => simp [intOf]; omega
            · obtain rfl : k = 7 := by omega
              have hne : ¬ n - 7 ≤ n - 1 - ((7 : Nat) : Int) := by omega
              go_wp2_with fail
              have HT4 := Lib.hid (show Below w.heap.size w wr ∧ Two wr w.heap.size u5 (fB1 n 7 ++ fB2 n 0) u4 fmtA from ⟨HT.out.1, by rw [show fB2 n 0 = [] from rfl, List.append_nil]; exact HT.out.2⟩)
              clear HT hne
              go_loopw [5, 9] (fun v t wr => ∃ k : Nat, k ≤ 8 ∧ t = .int .i64 (n - 8 + (k : Int)) ∧ Hid (Below w.heap.size w wr ∧ Two wr w.heap.size v (fB1 n 7 ++ fB2 n k) u4 fmtA)) (fun _ t _ => (n - intOf t).toNat)
              case atStart => exact ⟨0, by omega, by simp, HT4⟩
              case round =>
                clear HT4
                obtain ⟨k, hk, rfl, HT⟩ := hrel
                by_cases hlt : k < 8
                · have hle : n - 8 + (k : Int) < n := by omega
                  have hwk := (wrp (x := n - 8 + (k : Int) + 1) (by have := HN.out; omega))
                  have hwa := hwk.1
                  have hwb := hwk.2
                  clear hwk
                  have TW := Lib.hid (HT.out.2.below (below_al1 wr (.cells #[.int .i64 8, .int .i64 (n - 8 + (k : Int))] PlT)))
                  have BW := Lib.hid (HT.out.1.trans ((below_al1 wr (.cells #[.int .i64 8, .int .i64 (n - 8 + (k : Int))] PlT)).mono HT.out.1.size))
                  have hll : (fB1 n 7 ++ fB2 n k).length + 1 ≤ 1000000 := by simp [(f_lens n k).2.2.2, (f_lens n 7).2.2.1]; omega
                  go_wp2_with (at_builtin; refine appendP rfl _ _ _ rfl Tryz.underlying203 [(8, n - 8 + (k : Int))] ⟨wr.heap.size, 0, none⟩ 1 1 TW.out rfl rfl rfl (news1 wr 8 (n - 8 + (k : Int))) hll ?_; intro v7 w7 hT7 hb7)
                  have H7 := Lib.hid (And.intro (BW.out.trans (hb7.mono (by have := BW.out.size; omega))) hT7)
                  clear hb7 hT7
                  go_roundw
                  case rel => exact ⟨k + 1, by omega, by first | (go_num; done) | (congr 1; omega), Lib.hid ⟨H7.out.1, by rw [← fB2_s, ← List.append_assoc]; exact H7.out.2⟩⟩
                  case measure => simp [intOf]; omega
                · obtain rfl : k = 8 := by omega
                  have hne : ¬ n - 8 + ((8 : Nat) : Int) < n := by omega
                  go_wp2_with fail
                  refine bodyPost_ret (results_tmp2 rfl _ _ _) rfl ⟨HT.out.1, u4, u5, rfl, HT.out.2.symm⟩
end Go.Proofs.YtdcmebegnekkcaaGreat
