/-
  A slice of elements that is being summed up in place.
-/
import Derived.Test.YtenlaoadclfmaaaSpecOwn
namespace Go.Proofs.Ytenlaoadclfmaaa
open Go.RowKit
set_option linter.unusedVariables false

/-- A row of m elements, in block G, whose polynomial is f. -/
def OutAt (V : VF) (w : World) (B G m : Nat) (f : PS (El V)) (c : Nat := m) : Prop := ∃ zs, OwnL w B (.slice (some ⟨G, 0, none⟩) m c) zs ∧ zs.length = m ∧ VF.els V zs ∧ VF.ps V zs = f
theorem OwnL.zeros (w : World) (B : Nat) (hB : B ≤ w.heap.size) (n : Nat) (hn : n ≤ 16777216) : OwnL (w.alloc (.cells (madeCells #[.int .i64 0] n) 2)) B (.slice (some ⟨w.heap.size, 0, none⟩) n n) (List.replicate n 0) :=
  ⟨by simp; omega, by simp, .inr ⟨_, n, madeCells #[.int .i64 0] n, by simp, hB, heap_alloc_new w _, by simp, by unfold maxLen; omega, by simp [madeCells], by
    have h := (own_zeros w n (by omega)).at'
    apply List.ext_getElem?
    intro j
    by_cases hj : j < n
    · simp [madeCells, hj, Nat.mod_one]
    · simp [madeCells, hj]⟩⟩
theorem OutAt.zeros {V : VF} (w : World) (B : Nat) (hB : B ≤ w.heap.size) (n : Nat) (hn : n ≤ 16777216) : OutAt V (w.alloc (.cells (madeCells #[.int .i64 0] n) 2)) B w.heap.size n 0 :=
  ⟨_, OwnL.zeros w B hB n hn, by simp, VF.els_replicate _, VF.ps_replicate _⟩
theorem OutAt.below {V : VF} {w w' : World} {B G m c : Nat} {f : PS (El V)} (h : OutAt V w B G m f c) (hb : Below w.heap.size w w') : OutAt V w' B G m f c := by
  obtain ⟨zs, h1, h2⟩ := h; exact ⟨zs, h1.below hb, h2⟩
theorem OutAt.eq {V : VF} {w : World} {B G m c : Nat} {f f' : PS (El V)} (h : OutAt V w B G m f c) (e : f = f') : OutAt V w B G m f' c := e ▸ h
/-- What is known of one of its elements, also behind calls. -/
structure OutPlace (V : VF) (w : World) (B G m : Nat) (f : PS (El V)) (j : Nat) (x : Int) (W : World) (c : Nat := m) : Prop where
  cell : W.cell? ⟨G, j, none⟩ = some (.int .i64 x)
  frozen : W.frozen? ⟨G, j, none⟩ = false
  lt : G < W.heap.size
  put : ∀ y, V.F.el y → OutAt V (W.setCell ⟨G, j, none⟩ (.int .i64 y)) B G m (f + VF.xp V j * PS.C (VF.of V y - VF.of V x)) c
theorem OutAt.place {V : VF} {w : World} {B G m c : Nat} {f : PS (El V)} (h : OutAt V w B G m f c) {j : Nat} (hj : j < m) : ∃ x, V.F.el x ∧ f.c j = VF.of V x ∧ ∀ W, Below w.heap.size w W → OutPlace V w B G m f j x W c := by
  obtain ⟨zs, h1, h2, h3, rfl⟩ := h
  refine ⟨gi zs j, h3.getD j, rfl, fun W hb => ?_⟩
  have h4 := h1.below hb
  obtain ⟨g, cap, cur, e, hg, hlt, hh, hc, hat⟩ := h4.form (by omega)
  simp only [Value.slice.injEq, Option.some.injEq, Addr.mk.injEq, and_true] at e
  obtain ⟨rfl, _⟩ := e
  obtain ⟨hp, hf, _⟩ := hat.place (i := j) (by omega)
  refine ⟨hp, hf, hlt, fun y hy => ⟨zs.set j y, h4.set (by omega) y, by simp [h2], h3.set _ hy, ?_⟩⟩
  rw [VF.ps_set zs j (by omega) y]; rfl
theorem OutPlace.add {V : VF} {w : World} {B G m c : Nat} {f : PS (El V)} {j : Nat} {x : Int} {W : World} (h : OutPlace V w B G m f j x W c) (hx : V.F.el x) {y : Int} (hy : V.F.el y) :
    OutAt V (W.setCell ⟨G, j, none⟩ (.int .i64 (V.F.add x y))) B G m (f + VF.xp V j * PS.C (VF.of V y)) c :=
  (h.put _ (FF.add_el V.ok hx hy)).eq (by rw [VF.of_add hx hy]; congr 3; grind)
theorem OutAt.trimmed {V : VF} {w : World} {B G m c : Nat} {f : PS (El V)} (h : OutAt V w B G m f c) : ∃ zs, RowAt w (some ⟨G, 0, none⟩) m zs ∧ m ≤ c ∧ OwnL w B (.slice (some ⟨G, 0, none⟩) (VF.tlen zs m) c) (VF.lst V f) ∧ VF.trim zs = VF.lst V f := by
  obtain ⟨zs, h1, h2, h3, rfl⟩ := h
  obtain ⟨a, c, e, _, ho⟩ := h1.shape
  simp only [Value.slice.injEq] at e
  obtain ⟨rfl, _, _⟩ := e
  rw [h2] at ho
  have ht : VF.trim zs = VF.lst V (VF.ps V zs) := VF.trim_lst h3
  refine ⟨zs, ho.row, ?_, ?_, ht⟩
  · obtain ⟨_, _, e2, hle, _⟩ := h1.cap
    simp only [Value.slice.injEq] at e2
    obtain ⟨_, _, rfl⟩ := e2
    omega
  rw [← ht]
  unfold VF.trim
  rw [h2]
  exact h1.takeN (VF.tlen_le _ _)
theorem OwnL.other {w : World} {B G j : Nat} {v x : Value} {zs : List Int} (h : OwnL w B v zs) (hne : ∀ k, v.ownBlock = some k → k ≠ G) : OwnL (w.setCell ⟨G, j, none⟩ x) B v zs := by
  obtain ⟨hB, hl, h2⟩ := h
  refine ⟨by simpa [World.setCell] using hB, hl, ?_⟩
  rcases h2 with h2 | ⟨g, cap, cur, rfl, hg, hh, r⟩
  · exact .inl h2
  · exact .inr ⟨g, cap, cur, rfl, hg, (Below.heap_setCell _ _ _ _ (hne g rfl)).trans hh, r⟩
theorem OutAt.other {V : VF} {w : World} {B G m c H j : Nat} {x : Value} {f : PS (El V)} (h : OutAt V w B G m f c) (hne : G ≠ H) : OutAt V (w.setCell ⟨H, j, none⟩ x) B G m f c := by
  obtain ⟨zs, h1, h2⟩ := h
  exact ⟨zs, h1.other (fun k hk => by simp [Value.ownBlock] at hk; omega), h2⟩
theorem OutPlace.put0 {V : VF} {w : World} {B G m c : Nat} {f : PS (El V)} {j : Nat} {x : Int} {W : World} (h : OutPlace V w B G m f j x W c) (h0 : VF.of V x = 0) {y : Int} (hy : V.F.el y) :
    OutAt V (W.setCell ⟨G, j, none⟩ (.int .i64 y)) B G m (f + VF.xp V j * PS.C (VF.of V y)) c :=
  (h.put _ hy).eq (by rw [h0]; congr 3; grind)
/-- A copy of a whole slice. -/
theorem copy_row {w : World} {ops : Array Oper} {rest : List Oper} {o : Oper} {a : Act} {Q : Exit → Act → World → Prop} (hgd : o.guard = none) (s x : Operand) (t : TypeId)
    (ho : o.op = .call { callee := .builtin .append, args := #[s, x], argTypes := #[t, t] }) (ht : Try.prog.underlying t = some (.slice 2))
    {B : Nat} {v : Value} (hown : OwnL w B v []) (hs : a.eval s = v) {ad : Option Addr} {m : Nat} {ys : List Int} (c : Nat) (hrow : RowAt w ad m ys) (hx : a.eval x = .slice ad m c) (hc : ad = none → c = 0) (hn : m ≤ 16777216)
    (h : ∀ ao co w', OwnL w' B (.slice ao m co) ys → Below B w w' → m ≤ co → (ao = none → co = 0) → (0 < m → ∃ g, ao = some ⟨g, 0, none⟩ ∧ B ≤ g ∧ g < w'.heap.size) → wpList Try.prog ops Q rest (a.put o.dst (.slice ao m co)) w') : wpList Try.prog ops Q (o :: rest) a w := by
  refine append_row hgd s x t ho ht hown hs c hrow hx hc (by simp; omega) ?_
  intro v' w' h1 hb
  simp only [List.nil_append] at h1
  obtain ⟨ao, co, e, h2, h3, _⟩ := h1.cap
  rw [hrow.len] at e h2
  subst e
  refine h ao co w' h1 hb h2 h3 (fun h0 => ?_)
  obtain ⟨g, cap, cur, e, hg1, hg2, _⟩ := h1.form (by rw [hrow.len]; exact h0)
  simp only [Value.slice.injEq] at e
  exact ⟨g, e.1, hg1, hg2⟩
theorem OutAt.of {V : VF} {w : World} {B g n cap : Nat} {zs : List Int} (h : OwnL w B (.slice (some ⟨g, 0, none⟩) n cap) zs) (hn : zs.length = n) (he : VF.els V zs) : OutAt V w B g n (VF.ps V zs) cap := ⟨zs, h, hn, he, rfl⟩
end Go.Proofs.Ytenlaoadclfmaaa
