/-
  The walks of 'primePowers' and of 'Field.calc': the tables of a field, or no.
-/
import Derived.Test.YtenlaoadclfmaaaFill
namespace Go.Proofs.Ytenlaoadclfmaaa
open Go.RowKit
set_option linter.unusedVariables false

def isZ : Value → Bool
  | .int .i64 z => z == 0
  | _ => false
def isF : Value → Bool
  | .bool b => !b
  | _ => false
theorem isZ_eq {v : Value} (h : isZ v = true) : v = .int .i64 0 := by
  unfold isZ at h; split at h
  · simp at h; rw [h]
  · cases h
theorem isF_eq {v : Value} (h : isF v = true) : v = .bool false := by
  unfold isF at h; split at h
  · rename_i b; cases b
    · rfl
    · cases h
  · cases h
def headOk : List Value → Bool
  | [] => false
  | v :: r => isF v && r.all isZ
theorem zero_ok : headOk Try.zeroCells125.toList = true := by kernel_rfl
theorem zero_size : Try.zeroCells125.size = 2044 := Try.zeroCells125_size
theorem zeros_of (a : Array Value) (h : headOk a.toList = true) : a[0]? = some (.bool false) ∧ ∀ n, 0 < n → n < a.size → a[n]? = some (.int .i64 0) := by
  obtain ⟨l⟩ := a
  cases l with
  | nil => cases h
  | cons v r =>
    simp only [headOk, Bool.and_eq_true] at h
    refine ⟨by rw [isF_eq h.1]; rfl, fun n hn hs => ?_⟩
    obtain ⟨m, rfl⟩ : ∃ m, n = m + 1 := ⟨n - 1, by omega⟩
    have hm : m < r.length := by simp at hs; omega
    simp only [List.getElem?_toArray, List.getElem?_cons_succ]
    rw [List.getElem?_eq_getElem hm, isZ_eq (List.all_eq_true.1 h.2 _ (List.getElem_mem hm))]
theorem zero_at (n : Nat) (h0 : 0 < n) (h : n < 2044) : Try.zeroCells125[n]? = some (Value.int .i64 0) := (zeros_of _ zero_ok).2 n h0 (by rw [zero_size]; exact h)
theorem set_first (a : Array Value) (v : Value) (h : a[0]? = some v) : a = a.setIfInBounds 0 v := by
  apply Array.ext_getElem?
  intro i
  by_cases hi : i = 0
  · subst hi
    rw [h, Array.getElem?_setIfInBounds_self_of_lt (Array.getElem?_eq_some_iff.1 h).1]
  · rw [Array.getElem?_setIfInBounds_ne (by omega)]
theorem zero_first : Try.zeroCells125 = Try.zeroCells125.setIfInBounds 0 (.bool false) := set_first _ _ (zeros_of _ zero_ok).1
/-- The new tables, all logarithms 0. -/
theorem tab_of (W : World) (bin : Bool) (sz : Int) (T : Int → Int) (z arr : Array Value) (hz : z.size = 2044) (hza : ∀ n, 0 < n → n < 2044 → z[n]? = some (Value.int .i64 0)) (h0 : arr = (z.setIfInBounds 0 (.bool bin)).setIfInBounds 1 (.int .i64 sz)) :
    Tab (W.alloc (.cells arr 125)) W.heap.size bin sz T 0 := by
  subst h0
  refine ⟨⟨_, heap_alloc_new W _, by simp [hz], ?_, ?_, fun n hn => by omega, fun v hv => ?_⟩⟩
  · rw [Array.getElem?_setIfInBounds_ne (by omega), Array.getElem?_setIfInBounds_self_of_lt (by omega)]
  · rw [Array.getElem?_setIfInBounds_self_of_lt (by simp; omega)]
  · rw [Array.getElem?_setIfInBounds_ne (by omega), Array.getElem?_setIfInBounds_ne (by omega), hza _ (by omega) (by omega)]; rfl
theorem tab_new (W : World) (bin : Bool) (sz : Int) (T : Int → Int) (arr : Array Value) (h0 : arr = (Try.zeroCells125.setIfInBounds 0 (.bool bin)).setIfInBounds 1 (.int .i64 sz)) :
    Tab (W.alloc (.cells arr 125)) W.heap.size bin sz T 0 := tab_of W bin sz T _ arr zero_size zero_at h0
/-- One less than the size. -/
def nP (p : Int) : Nat := (p - 1).toNat
/-- What 'primePowers' and 'calc' leave: a new block, and the tables in it if the answer is yes. -/
def Made (bin : Bool) (sz : Int) (T : Int → Int) (ok : Bool) (w : World) (e : Ending) (w' : World) : Prop :=
  ∃ b, e = .returned (.tuple #[.pointer (some ⟨b, 0, none⟩), .bool ok]) ∧ Below w.heap.size w w' ∧ w.heap.size ≤ b ∧ b < w'.heap.size ∧ (goodB T (nP sz) = true → Tab w' b bin sz T (nP sz))

theorem frame_cell (W : World) (b o : Nat) (v : Value) (a : Addr) (h : a.block ≠ b) : (W.setCell ⟨b, o, none⟩ v).cell? a = W.cell? a := World.cell?_of_block (by rw [Below.heap_setCell _ _ _ _ h])
theorem callFunc_p (args : Array Value) (W : World) : (callFunc 132 args).run Try.prog W = .ok (.enter 132 args) W := by kernel_rfl
theorem callFunc_b (args : Array Value) (W : World) : (callFunc 123 args).run Try.prog W = .ok (.enter 123 args) W := by kernel_rfl

set_option maxHeartbeats 400000 in
set_option maxRecDepth 100000 in
theorem primePowers_any (p g : Int) (w : World) (h3 : 3 ≤ p) (hp : p ≤ 1021) (hg0 : 0 ≤ g) (hg : g ≤ 1021) :
    Calls Try.prog 121 #[.int .i64 p, .int .i64 g] w (Made false p (timesP g p) (goodB (timesP g p) (nP p)) w) := by
  go_enter Try.func121, Try.ntmps121
  go_wp2_with fail
  have hb0 : Below w.heap.size w (((w.alloc (.cells #[.int .i64 p] 2)).alloc (.cells #[.int .i64 g] 2)).alloc (.cells (Try.zeroCells125.setIfInBounds 1 (.int .i64 p)) 125)) :=
    (((Below.refl _ _).alloc (Nat.le_refl _) _).alloc (by simp) _).alloc (by simp; omega) _
  refine (fill_any false p (timesP g p) (nP p) (by unfold nP; omega) h3 hp
    (fun x h0 h1 => ⟨Int.emod_nonneg _ (by omega), Int.emod_lt_of_pos _ (by omega)⟩) _ _ _ (w.heap.size + 1 + 1)
    (fun W => W.cell? ⟨w.heap.size, 0, none⟩ = some (.int .i64 p) ∧ W.cell? ⟨w.heap.size + 1, 0, none⟩ = some (.int .i64 g))
    (fun W o v hP ho => ⟨by rw [frame_cell _ _ _ _ _ (by simp; omega)]; exact hP.1, by rw [frame_cell _ _ _ _ _ (by simp)]; exact hP.2⟩)
    (fun W x hP _ h0 h1 => timesP_any g p x W _ _ hP.2 hP.1 h0 h1 hg0 hg h3 hp) callFunc_p _ ?h0 ?h1).mono ?_
  case h0 =>
    have := tab_new ((w.alloc (.cells #[.int .i64 p] 2)).alloc (.cells #[.int .i64 g] 2)) false p (timesP g p) (Try.zeroCells125.setIfInBounds 1 (.int .i64 p)) (by rw [← zero_first])
    simpa using this
  case h1 => exact ⟨by simp [go_sem], by simp [go_sem]⟩
  rintro e w' ⟨rfl, hb, hP, ht⟩
  have hsz := hb.size
  have hB := Lib.hid (hb0.trans (hb.mono (by omega)))
  have hlt : w.heap.size + 1 + 1 < w'.heap.size := by simp at hsz; omega
  clear hb hb0 hP hsz
  have HT := Lib.hid ht
  clear ht
  go_wp2_with fail
  go_ret2
  exact ⟨_, rfl, hB.out, by omega, hlt, HT.out⟩
end Go.Proofs.Ytenlaoadclfmaaa
