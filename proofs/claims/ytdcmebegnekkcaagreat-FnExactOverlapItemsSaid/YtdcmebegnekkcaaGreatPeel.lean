/-
  The parts Peel, Peel2.
-/
import Derived.Test.YtdcmebegnekkcaaGreatProg
import Derived.Deep.RegionHeld3
import Derived.WalkKit
/-
  A region that draws its order and ends in one operation that waits for all the others: that one is carried out last.
-/
namespace Go.Proofs.YtdcmebegnekkcaaGreat
open Go.RowKit
set_option linter.unusedVariables false

section
variable {P : Program} {Q : Exit → Act → World → Prop} {S : World → Prop}
/-- The last operation behind all the others. -/
def LastQ (P : Program) (ops : Array Oper) (Q : Exit → Act → World → Prop) (s : Oper) : Exit → Act → World → Prop
  | .normal, a, w => wpList P ops Q [s] a w
  | e, a, w => Q e a w
/-- What the kernel checks of the region. -/
def lastB (l : List Oper) (n : Nat) : Bool :=
  decide (l.length = n + 1) && (l.all fun o => o.guard.isNone) &&
  ((List.range n).all fun i => ((l[i]?).map fun o => o.after.all fun e => decide (e.on < i)).getD false) &&
  ((l[n]?).map fun o => (o.after.all fun e => decide (e.on < n)) && (List.range n).all fun i => o.after.any fun e => Region.binds .any e && e.on == i).getD false
structure LastOk (l : List Oper) (n : Nat) (s : Oper) : Prop where
  len : l.length = n + 1
  guard : ∀ (i : Nat) (o : Oper), l[i]? = some o → o.guard = none
  low : ∀ (i : Nat) (o : Oper), i < n → l[i]? = some o → ∀ e ∈ o.after, e.on < i
  last : l[n]? = some s
  lows : ∀ e ∈ s.after, e.on < n
  waits : ∀ i, i < n → ∃ e ∈ s.after, Region.binds .any e = true ∧ e.on = i
theorem lastB_ok {l : List Oper} {n : Nat} {s : Oper} (hs : l[n]? = some s) (h : lastB l n = true) : LastOk l n s := by
  unfold lastB at h
  simp only [Bool.and_eq_true, decide_eq_true_eq, List.all_eq_true, List.mem_range, hs, Option.map_some, Option.getD_some, Array.all_eq_true_iff_forall_mem, Array.any_eq_true', beq_iff_eq] at h
  obtain ⟨⟨⟨h1, h2⟩, h3⟩, h4, h5⟩ := h
  refine ⟨h1, fun i o hi => ?_, fun i o hi ho e he => ?_, hs, h4, fun i hi => ?_⟩
  · have := h2 o (List.mem_of_getElem? hi)
    simpa using this
  · have := h3 i hi
    rw [ho] at this
    simp only [Option.map_some, Option.getD_some, Array.all_eq_true_iff_forall_mem, decide_eq_true_eq] at this
    exact this e he
  · obtain ⟨e, he, hb, ho⟩ := h5 i hi
    exact ⟨e, he, hb, ho⟩
theorem getD_push {listed : Array Bool} {n i : Nat} (hn : listed.size = n) (hi : i < n) (d : Bool) : (listed.push false).getD i d = listed.getD i d := by
  have : ¬ i = n := by omega
  simp [Array.getElem?_push, hn, this]
theorem getD_push_last {listed : Array Bool} {n : Nat} (hn : listed.size = n) (d : Bool) : (listed.push false).getD n d = false := by
  subst hn; simp
theorem set_push {listed : Array Bool} {n i : Nat} (hn : listed.size = n) (hi : i < n) : (listed.push false).setIfInBounds i true = (listed.setIfInBounds i true).push false := by
  apply Array.ext_getElem?
  intro j
  simp only [Array.getElem?_setIfInBounds, Array.getElem?_push, Array.size_push, Array.size_setIfInBounds, hn]
  by_cases h1 : i = j
  · subst h1
    have : ¬ i = n := by omega
    simp [hi, this]
    omega
  · simp [h1]
theorem pre_get {l : List Oper} {n i : Nat} (hi : i < n) : (l.take n).toArray[i]? = l.toArray[i]? := by
  simp [hi]
theorem ready_pre {l : List Oper} {n : Nat} {s : Oper} (h : LastOk l n s) {listed : Array Bool} (hn : listed.size = n) {i : Nat} (hi : i < n) :
    i ∈ Region.ready .any l.toArray (listed.push false) ↔ i ∈ Region.ready .any (l.take n).toArray listed := by
  rw [mem_ready, mem_ready, getD_push hn hi, pre_get hi]
  constructor
  · rintro ⟨h0, o, ho, hall⟩
    refine ⟨h0, o, ho, fun e he hb => ?_⟩
    have hlt := h.low i o hi (by simpa using ho) e he
    rw [← getD_push hn (show e.on < n by omega) false]; exact hall e he hb
  · rintro ⟨h0, o, ho, hall⟩
    refine ⟨h0, o, ho, fun e he hb => ?_⟩
    have hlt := h.low i o hi (by simpa using ho) e he
    rw [getD_push hn (show e.on < n by omega) false]; exact hall e he hb
theorem all_listed {l : List Oper} {n : Nat} {s : Oper} (h : LastOk l n s) {listed : Array Bool} (hn : listed.size = n) (hr : Region.ready .any (l.take n).toArray listed = []) :
    ∀ i, i < n → listed.getD i false = true := by
  intro i
  induction i using Nat.strongRecOn with
  | _ i ih =>
    intro hi
    cases hl : listed.getD i false with
    | true => rfl
    | false =>
      exfalso
      have hlt : i < l.length := by rw [h.len]; omega
      have ho : l[i]? = some l[i] := List.getElem?_eq_getElem hlt
      have : i ∈ Region.ready .any (l.take n).toArray listed := by
        rw [mem_ready]
        refine ⟨?_, l[i], by rw [pre_get hi]; simp, fun e he hb => ?_⟩
        · have : i < listed.size := by omega
          simp [this] at hl ⊢; exact hl
        · have hlo := h.low i _ hi ho e he
          exact ih e.on hlo (by omega)
      rw [hr] at this; cases this
theorem last_ready {l : List Oper} {n : Nat} {s : Oper} (h : LastOk l n s) {listed : Array Bool} (hn : listed.size = n) (hr : Region.ready .any (l.take n).toArray listed = []) :
    n ∈ Region.ready .any l.toArray (listed.push false) := by
  rw [mem_ready]
  refine ⟨getD_push_last hn true, s, by simpa using h.last, fun e he hb => ?_⟩
  have hlt := h.lows e he
  rw [getD_push hn hlt]; exact all_listed h hn hr _ hlt
theorem last_only {l : List Oper} {n : Nat} {s : Oper} (h : LastOk l n s) {listed : Array Bool} (hn : listed.size = n) (hm : n ∈ Region.ready .any l.toArray (listed.push false)) :
    Region.ready .any (l.take n).toArray listed = [] := by
  apply List.eq_nil_iff_forall_not_mem.2
  intro i hi
  have hin : i < n := by
    have h1 := mem_ready.1 hi
    obtain ⟨_, o, ho, _⟩ := h1
    have := (Array.getElem?_eq_some_iff.1 ho).1
    simp at this; omega
  obtain ⟨_, o, ho, hall⟩ := mem_ready.1 hm
  have hos : o = s := by have := h.last; simp at ho; rw [this] at ho; cases ho; rfl
  subst hos
  obtain ⟨e, he, hb, heq⟩ := h.waits i hin
  have h2 := hall e he hb
  rw [heq, getD_push hn hin] at h2
  obtain ⟨h0, _⟩ := mem_ready.1 hi
  have hlt : i < listed.size := by omega
  simp [hlt] at h2 h0
  rw [h2] at h0; cases h0
theorem wpOp_pre {l : List Oper} {n : Nat} {s : Oper} (h : LastOk l n s) {i : Nat} (hi : i < n) {K K' : Act → World → Prop} (hK : ∀ a w, K a w → K' a w) {a : Act} {w : World}
    (hw : wpOp P (l.take n).toArray (LastQ P l.toArray Q s) i K a w) : wpOp P l.toArray Q i K' a w := by
  have hlt : i < l.length := by rw [h.len]; omega
  have ho : l[i]? = some l[i] := List.getElem?_eq_getElem hlt
  have hg := h.guard i _ ho
  unfold wpOp at *
  rw [pre_get hi] at hw
  have ho2 : l.toArray[i]? = some l[i] := by simp
  simp only [ho2] at hw ⊢
  have hw1 : ∀ y, Region.wanted l[i] y = true := fun y => by unfold Region.wanted; rw [hg]
  simp only [hw1, if_true] at hw ⊢
  rcases hw with hw | ⟨h1, h2⟩
  · refine .inl ?_
    unfold Oper.wp at *
    generalize (execOp a.eval l[i]).run P w = r at *
    cases r with
    | ok nx w' =>
      cases nx <;> simp only [Oper.upon] at hw ⊢
      case value u => exact hK _ _ hw
      case skip => exact hK _ _ hw
      case defer d => exact hK _ _ hw
      case enter f args =>
        refine Calls.mono hw fun e w'' he => ?_
        cases e with
        | returned u => exact hK _ _ he
        | panicked c => exact he
        | outgrown => exact he
      case row row args => exact Rows.mono hw fun u w'' he => hK _ _ he
    | halt x w' => cases x <;> simp only [Oper.upon] at hw ⊢; exact hw
  · exact .inr ⟨h1, h2⟩
theorem wpOp_last {l : List Oper} {n : Nat} {s : Oper} (h : LastOk l n s) {a : Act} {w : World} (hw : wpList P l.toArray Q [s] a w) : wpOp P l.toArray Q n (Q .normal) a w := by
  unfold wpOp
  have ho : l.toArray[n]? = some s := by simpa using h.last
  simp only [ho]
  exact hw
theorem ready_end {l : List Oper} {n : Nat} {s : Oper} (h : LastOk l n s) {listed : Array Bool} (hn : listed.size = n) (hr : Region.ready .any (l.take n).toArray listed = []) :
    Region.ready .any l.toArray ((listed.push false).setIfInBounds n true) = [] := by
  apply List.eq_nil_iff_forall_not_mem.2
  intro i hi
  obtain ⟨h0, o, ho, _⟩ := mem_ready.1 hi
  have hin : i < n + 1 := by have := (Array.getElem?_eq_some_iff.1 ho).1; simp at this; have := h.len; omega
  by_cases he : i = n
  · subst he
    simp [hn] at h0
  · have hlt : i < n := by omega
    rw [getD_set_ne true (by omega), getD_push hn hlt] at h0
    have h1 := all_listed h hn hr i hlt
    have hs : i < listed.size := by omega
    simp [hs] at h0 h1
    rw [h1] at h0; cases h0
theorem wpAny_last {l : List Oper} {n : Nat} {s : Oper} (h : LastOk l n s) : ∀ (f : Nat) (listed : Array Bool) (a : Act) (w : World), listed.size = n →
    wpAnyH P .any (l.take n).toArray (LastQ P l.toArray Q s) S f listed a w → wpAny P .any l.toArray Q (f + 1) (listed.push false) a w
  | f, listed, a, w, hn, hw => by
    have hend : Region.ready .any (l.take n).toArray listed = [] → wpList P l.toArray Q [s] a w := by
      cases f with
      | zero => exact fun _ => hw.2
      | succ f => exact hw.1
    refine ⟨fun h0 => ?_, fun i hi => ?_⟩
    · exfalso
      by_cases hr : Region.ready .any (l.take n).toArray listed = []
      · have := last_ready h hn hr; rw [h0] at this; cases this
      · obtain ⟨i, hi⟩ := List.exists_mem_of_ne_nil _ hr
        have hin : i < n := by
          obtain ⟨_, o, ho, _⟩ := mem_ready.1 hi
          have := (Array.getElem?_eq_some_iff.1 ho).1
          simp at this; omega
        have := (ready_pre h hn hin).2 hi; rw [h0] at this; cases this
    · have hin : i < n + 1 := by
        obtain ⟨_, o, ho, _⟩ := mem_ready.1 hi
        have := (Array.getElem?_eq_some_iff.1 ho).1
        simp at this; have := h.len; omega
      by_cases he : i = n
      · subst he
        have hr := last_only h hn hi
        exact wpOp_mono (fun a' w' hq => wpAny_done (ready_end h hn hr) hq f) (wpOp_last h (hend hr))
      · have hlt : i < n := by omega
        have hi2 := (ready_pre h hn hlt).1 hi
        cases f with
        | zero => have := hw.1; rw [this] at hi2; cases hi2
        | succ f =>
          rw [set_push hn hlt]
          exact wpOp_pre h hlt (fun a' w' hq => wpAny_last h f _ a' w' (by simp [hn]) hq.2) (hw.2 i hi2)
/-- The region without its last operation first, under S; then that one. -/
theorem wp_region_last {id : Nat} {a : Act} {w : World} {l : List Oper} (n : Nat) {s : Oper} (hm : P.follows .mixedOrders = true) (hs : l[n]? = some s) (hB : lastB l n = true) (hS : S w.drew)
    (hw : S w.drew → wpAnyH P .any (l.take n).toArray (LastQ P l.toArray Q s) S n (Array.replicate n false) a w.drew) : (Code.region id l.toArray true).wp P Q a w := by
  have h := lastB_ok hs hB
  refine wp_region_any hm ?_
  have := wpAny_last h n (Array.replicate n false) a w.drew (by simp) (hw hS)
  rw [show (Array.replicate n false).push false = Array.replicate l.toArray.size false by simp [h.len, ← Array.replicate_succ]] at this
  rw [show l.toArray.size = n + 1 by simp [h.len]]
  rw [show l.toArray.size = n + 1 by simp [h.len]] at this
  exact this
theorem lastQ_normal {ops : Array Oper} {s : Oper} {a : Act} {w : World} (h : wpList P ops Q [s] a w) : LastQ P ops Q s .normal a w := h
end
end Go.Proofs.YtdcmebegnekkcaaGreat
/-
  A region that draws its order and ends in one operation that waits for all the others: that one is carried out last.
-/
namespace Go.Proofs.YtdcmebegnekkcaaGreat
open Go.RowKit
set_option linter.unusedVariables false

section
variable {P : Program} {Q : Exit → Act → World → Prop} {S : World → Prop}
/-- The last operation behind all the others. -/
def LastQW (P : Program) (ops : Array Oper) (Q : Exit → Act → World → Prop) (s : Oper) : Exit → Act → World → Prop
  | .normal, a, w => wpList P ops Q [s] a w
  | e, a, w => Q e a w
/-- What the kernel checks of the region. -/
def lastBW (l : List Oper) (n : Nat) : Bool :=
  decide (l.length = n + 1) && (l.all fun o => o.guard.isNone) &&
  ((List.range n).all fun i => ((l[i]?).map fun o => o.after.all fun e => !Region.binds .any e || decide (e.on < i)).getD false) &&
  ((l[n]?).map fun o => (o.after.all fun e => decide (e.on < n)) && (List.range n).all fun i => o.after.any fun e => Region.binds .any e && e.on == i).getD false
structure LastOkW (l : List Oper) (n : Nat) (s : Oper) : Prop where
  len : l.length = n + 1
  guard : ∀ (i : Nat) (o : Oper), l[i]? = some o → o.guard = none
  low : ∀ (i : Nat) (o : Oper), i < n → l[i]? = some o → ∀ e ∈ o.after, Region.binds .any e = true → e.on < i
  last : l[n]? = some s
  lows : ∀ e ∈ s.after, e.on < n
  waits : ∀ i, i < n → ∃ e ∈ s.after, Region.binds .any e = true ∧ e.on = i
theorem lastB_okW {l : List Oper} {n : Nat} {s : Oper} (hs : l[n]? = some s) (h : lastBW l n = true) : LastOkW l n s := by
  unfold lastBW at h
  simp only [Bool.and_eq_true, decide_eq_true_eq, List.all_eq_true, List.mem_range, hs, Option.map_some, Option.getD_some, Array.all_eq_true_iff_forall_mem, Array.any_eq_true', beq_iff_eq] at h
  obtain ⟨⟨⟨h1, h2⟩, h3⟩, h4, h5⟩ := h
  refine ⟨h1, fun i o hi => ?_, fun i o hi ho e he hbb => ?_, hs, h4, fun i hi => ?_⟩
  · have := h2 o (List.mem_of_getElem? hi)
    simpa using this
  · have := h3 i hi
    rw [ho] at this
    simp only [Option.map_some, Option.getD_some, Array.all_eq_true_iff_forall_mem, Bool.or_eq_true, Bool.not_eq_true', decide_eq_true_eq] at this
    rcases this e he with h6 | h6
    · rw [hbb] at h6; cases h6
    · exact h6
  · obtain ⟨e, he, hb, ho⟩ := h5 i hi
    exact ⟨e, he, hb, ho⟩
theorem getD_pushW {listed : Array Bool} {n i : Nat} (hn : listed.size = n) (hi : i < n) (d : Bool) : (listed.push false).getD i d = listed.getD i d := by
  have : ¬ i = n := by omega
  simp [Array.getElem?_push, hn, this]
theorem getD_push_lastW {listed : Array Bool} {n : Nat} (hn : listed.size = n) (d : Bool) : (listed.push false).getD n d = false := by
  subst hn; simp
theorem set_pushW {listed : Array Bool} {n i : Nat} (hn : listed.size = n) (hi : i < n) : (listed.push false).setIfInBounds i true = (listed.setIfInBounds i true).push false := by
  apply Array.ext_getElem?
  intro j
  simp only [Array.getElem?_setIfInBounds, Array.getElem?_push, Array.size_push, Array.size_setIfInBounds, hn]
  by_cases h1 : i = j
  · subst h1
    have : ¬ i = n := by omega
    simp [hi, this]
    omega
  · simp [h1]
theorem pre_getW {l : List Oper} {n i : Nat} (hi : i < n) : (l.take n).toArray[i]? = l.toArray[i]? := by
  simp [hi]
theorem ready_preW {l : List Oper} {n : Nat} {s : Oper} (h : LastOkW l n s) {listed : Array Bool} (hn : listed.size = n) {i : Nat} (hi : i < n) :
    i ∈ Region.ready .any l.toArray (listed.push false) ↔ i ∈ Region.ready .any (l.take n).toArray listed := by
  rw [mem_ready, mem_ready, getD_pushW hn hi, pre_getW hi]
  constructor
  · rintro ⟨h0, o, ho, hall⟩
    refine ⟨h0, o, ho, fun e he hb => ?_⟩
    have hlt := h.low i o hi (by simpa using ho) e he hb
    rw [← getD_pushW hn (show e.on < n by omega) false]; exact hall e he hb
  · rintro ⟨h0, o, ho, hall⟩
    refine ⟨h0, o, ho, fun e he hb => ?_⟩
    have hlt := h.low i o hi (by simpa using ho) e he hb
    rw [getD_pushW hn (show e.on < n by omega) false]; exact hall e he hb
theorem all_listedW {l : List Oper} {n : Nat} {s : Oper} (h : LastOkW l n s) {listed : Array Bool} (hn : listed.size = n) (hr : Region.ready .any (l.take n).toArray listed = []) :
    ∀ i, i < n → listed.getD i false = true := by
  intro i
  induction i using Nat.strongRecOn with
  | _ i ih =>
    intro hi
    cases hl : listed.getD i false with
    | true => rfl
    | false =>
      exfalso
      have hlt : i < l.length := by rw [h.len]; omega
      have ho : l[i]? = some l[i] := List.getElem?_eq_getElem hlt
      have : i ∈ Region.ready .any (l.take n).toArray listed := by
        rw [mem_ready]
        refine ⟨?_, l[i], by rw [pre_getW hi]; simp, fun e he hb => ?_⟩
        · have : i < listed.size := by omega
          simp [this] at hl ⊢; exact hl
        · have hlo := h.low i _ hi ho e he hb
          exact ih e.on hlo (by omega)
      rw [hr] at this; cases this
theorem last_readyW {l : List Oper} {n : Nat} {s : Oper} (h : LastOkW l n s) {listed : Array Bool} (hn : listed.size = n) (hr : Region.ready .any (l.take n).toArray listed = []) :
    n ∈ Region.ready .any l.toArray (listed.push false) := by
  rw [mem_ready]
  refine ⟨getD_push_lastW hn true, s, by simpa using h.last, fun e he hb => ?_⟩
  have hlt := h.lows e he
  rw [getD_pushW hn hlt]; exact all_listedW h hn hr _ hlt
theorem last_onlyW {l : List Oper} {n : Nat} {s : Oper} (h : LastOkW l n s) {listed : Array Bool} (hn : listed.size = n) (hm : n ∈ Region.ready .any l.toArray (listed.push false)) :
    Region.ready .any (l.take n).toArray listed = [] := by
  apply List.eq_nil_iff_forall_not_mem.2
  intro i hi
  have hin : i < n := by
    have h1 := mem_ready.1 hi
    obtain ⟨_, o, ho, _⟩ := h1
    have := (Array.getElem?_eq_some_iff.1 ho).1
    simp at this; omega
  obtain ⟨_, o, ho, hall⟩ := mem_ready.1 hm
  have hos : o = s := by have := h.last; simp at ho; rw [this] at ho; cases ho; rfl
  subst hos
  obtain ⟨e, he, hb, heq⟩ := h.waits i hin
  have h2 := hall e he hb
  rw [heq, getD_pushW hn hin] at h2
  obtain ⟨h0, _⟩ := mem_ready.1 hi
  have hlt : i < listed.size := by omega
  simp [hlt] at h2 h0
  rw [h2] at h0; cases h0
theorem wpOp_preW {l : List Oper} {n : Nat} {s : Oper} (h : LastOkW l n s) {i : Nat} (hi : i < n) {K K' : Act → World → Prop} (hK : ∀ a w, K a w → K' a w) {a : Act} {w : World}
    (hw : wpOp P (l.take n).toArray (LastQW P l.toArray Q s) i K a w) : wpOp P l.toArray Q i K' a w := by
  have hlt : i < l.length := by rw [h.len]; omega
  have ho : l[i]? = some l[i] := List.getElem?_eq_getElem hlt
  have hg := h.guard i _ ho
  unfold wpOp at *
  rw [pre_getW hi] at hw
  have ho2 : l.toArray[i]? = some l[i] := by simp
  simp only [ho2] at hw ⊢
  have hw1 : ∀ y, Region.wanted l[i] y = true := fun y => by unfold Region.wanted; rw [hg]
  simp only [hw1, if_true] at hw ⊢
  rcases hw with hw | ⟨h1, h2⟩
  · refine .inl ?_
    unfold Oper.wp at *
    generalize (execOp a.eval l[i]).run P w = r at *
    cases r with
    | ok nx w' =>
      cases nx <;> simp only [Oper.upon] at hw ⊢
      case value u => exact hK _ _ hw
      case skip => exact hK _ _ hw
      case defer d => exact hK _ _ hw
      case enter f args =>
        refine Calls.mono hw fun e w'' he => ?_
        cases e with
        | returned u => exact hK _ _ he
        | panicked c => exact he
        | outgrown => exact he
      case row row args => exact Rows.mono hw fun u w'' he => hK _ _ he
    | halt x w' => cases x <;> simp only [Oper.upon] at hw ⊢; exact hw
  · exact .inr ⟨h1, h2⟩
theorem wpOp_lastW {l : List Oper} {n : Nat} {s : Oper} (h : LastOkW l n s) {a : Act} {w : World} (hw : wpList P l.toArray Q [s] a w) : wpOp P l.toArray Q n (Q .normal) a w := by
  unfold wpOp
  have ho : l.toArray[n]? = some s := by simpa using h.last
  simp only [ho]
  exact hw
theorem ready_endW {l : List Oper} {n : Nat} {s : Oper} (h : LastOkW l n s) {listed : Array Bool} (hn : listed.size = n) (hr : Region.ready .any (l.take n).toArray listed = []) :
    Region.ready .any l.toArray ((listed.push false).setIfInBounds n true) = [] := by
  apply List.eq_nil_iff_forall_not_mem.2
  intro i hi
  obtain ⟨h0, o, ho, _⟩ := mem_ready.1 hi
  have hin : i < n + 1 := by have := (Array.getElem?_eq_some_iff.1 ho).1; simp at this; have := h.len; omega
  by_cases he : i = n
  · subst he
    simp [hn] at h0
  · have hlt : i < n := by omega
    rw [getD_set_ne true (by omega), getD_pushW hn hlt] at h0
    have h1 := all_listedW h hn hr i hlt
    have hs : i < listed.size := by omega
    simp [hs] at h0 h1
    rw [h1] at h0; cases h0
theorem wpAny_lastW {l : List Oper} {n : Nat} {s : Oper} (h : LastOkW l n s) : ∀ (f : Nat) (listed : Array Bool) (a : Act) (w : World), listed.size = n →
    wpAnyH P .any (l.take n).toArray (LastQW P l.toArray Q s) S f listed a w → wpAny P .any l.toArray Q (f + 1) (listed.push false) a w
  | f, listed, a, w, hn, hw => by
    have hend : Region.ready .any (l.take n).toArray listed = [] → wpList P l.toArray Q [s] a w := by
      cases f with
      | zero => exact fun _ => hw.2
      | succ f => exact hw.1
    refine ⟨fun h0 => ?_, fun i hi => ?_⟩
    · exfalso
      by_cases hr : Region.ready .any (l.take n).toArray listed = []
      · have := last_readyW h hn hr; rw [h0] at this; cases this
      · obtain ⟨i, hi⟩ := List.exists_mem_of_ne_nil _ hr
        have hin : i < n := by
          obtain ⟨_, o, ho, _⟩ := mem_ready.1 hi
          have := (Array.getElem?_eq_some_iff.1 ho).1
          simp at this; omega
        have := (ready_preW h hn hin).2 hi; rw [h0] at this; cases this
    · have hin : i < n + 1 := by
        obtain ⟨_, o, ho, _⟩ := mem_ready.1 hi
        have := (Array.getElem?_eq_some_iff.1 ho).1
        simp at this; have := h.len; omega
      by_cases he : i = n
      · subst he
        have hr := last_onlyW h hn hi
        exact wpOp_mono (fun a' w' hq => wpAny_done (ready_endW h hn hr) hq f) (wpOp_lastW h (hend hr))
      · have hlt : i < n := by omega
        have hi2 := (ready_preW h hn hlt).1 hi
        cases f with
        | zero => have := hw.1; rw [this] at hi2; cases hi2
        | succ f =>
          rw [set_pushW hn hlt]
          exact wpOp_preW h hlt (fun a' w' hq => wpAny_lastW h f _ a' w' (by simp [hn]) hq.2) (hw.2 i hi2)
/-- The region without its last operation first, under S; then that one. -/
theorem wp_region_lastW {id : Nat} {a : Act} {w : World} {l : List Oper} (n : Nat) {s : Oper} (hm : P.follows .mixedOrders = true) (hs : l[n]? = some s) (hB : lastBW l n = true) (hS : S w.drew)
    (hw : S w.drew → wpAnyH P .any (l.take n).toArray (LastQW P l.toArray Q s) S n (Array.replicate n false) a w.drew) : (Code.region id l.toArray true).wp P Q a w := by
  have h := lastB_okW hs hB
  refine wp_region_any hm ?_
  have := wpAny_lastW h n (Array.replicate n false) a w.drew (by simp) (hw hS)
  rw [show (Array.replicate n false).push false = Array.replicate l.toArray.size false by simp [h.len, ← Array.replicate_succ]] at this
  rw [show l.toArray.size = n + 1 by simp [h.len]]
  rw [show l.toArray.size = n + 1 by simp [h.len]] at this
  exact this
theorem lastQ_normalW {ops : Array Oper} {s : Oper} {a : Act} {w : World} (h : wpList P ops Q [s] a w) : LastQW P ops Q s .normal a w := h
end
end Go.Proofs.YtdcmebegnekkcaaGreat
