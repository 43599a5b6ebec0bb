/-
  The parts SegI, SegJ, SegK.
-/
import Derived.Test.YtdcmebegnekkcaaGreatSega
import Derived.Laws.RangeString
/-
  The program's modes: characters, widths.
-/
namespace Go.Proofs.YtdcmebegnekkcaaGreat
open Go.RowKit
set_option linter.unusedVariables false

abbrev LiT : TypeId := 245
abbrev PmT : TypeId := 246
theorem setM_ascii {m : Int} : ∀ x ∈ setM m, x.toNat < 128 := by
  unfold setM
  repeat' split
  all_goals decide
set_option maxHeartbeats 4000000 in
theorem listedValue_any {m : Int} (hm : m ≠ 4) (a : Option Addr) (n c : Nat) (b : UInt8) (z : Int) (hz : z = (b.toNat : Int)) (w : World) :
    Calls Tryz.prog 212 #[.agg #[.string (str (setM m)), .slice a n c], .int .i64 z] w fun e w' => e = .returned (.int .i64 (valM m b)) ∧ Below w.heap.size w w' := by
  have hzb : 0 ≤ z ∧ z ≤ 255 := by have := b.toNat_lt; omega
  have HZ := Lib.hid hz
  clear hz
  have HH := Lib.hid (fun i hi hb hn => valM_hit (m := m) hm (b := b) (i := i) hi hb hn)
  have HM := Lib.hid (fun hn => valM_miss (m := m) hm (b := b) hn)
  have HA := Lib.hid (setM_ascii (m := m))
  have hlen := setM_le m
  have hsz := str_size (setM m)
  generalize setM m = L at *
  clear hm
  have HB := Lib.hid (below1 w (.cells #[.string (str L), .slice a n c] LiT))
  go_enter Tryz.func212, Tryz.ntmps212
  go_wp2_with fail
  obtain ⟨W1, hW1⟩ : ∃ W1, w.alloc (.cells #[.string (str L), .slice a n c] LiT) = W1 := ⟨_, rfl⟩
  rw [hW1] at HB
  have hW1s : W1.heap.size = w.heap.size + 1 := by rw [← hW1]; simp
  (try rw [hW1])
  have HW := Lib.hid HB.out
  go_loopw [5] (fun _ wr => ∃ i : Nat, i ≤ L.length ∧ wr = W1.iter (str L) i ∧ Hid (∀ j, j < i → L[j]? ≠ some b)) (fun _ wr => L.length - wr.iterPos W1.heap.size)
  case atStart => exact ⟨0, by omega, rfl, Lib.hid (fun j hj => by omega)⟩
  case round =>
    obtain ⟨i, hi, rfl, hn⟩ := hrel
    have BW := Lib.hid (show Below w.heap.size w (W1.iter (str L) i) from HB.out.alloc (by omega) _)
    by_cases hlt : i < L.length
    · have hp : i < (str L).size := by rw [hsz]; exact hlt
      have hnx : ∀ ty, (Instr.next (.pointer (some ⟨W1.heap.size, 0, none⟩)) true ty).run Tryz.prog (W1.iter (str L) i) = _ := fun ty => run_next_ascii W1 (str L) i ty hp (by rw [str_get]; exact HA.out _ (List.getElem_mem hlt))
      rw [hW1s] at hnx
      by_cases hb : L[i]'hlt = b
      · have hbe : (wrap64 (((str L)[i]'hp).toNat : Int) == z) = true := by rw [str_get, hb, IntWalk.wrap64_in _ (by have := b.toNat_lt; omega), HZ.out]; simp
        have HR := Lib.hid (HH.out i hlt hb hn.out)
        clear hb
        go_wp2_with fail
        go_ret
        exact ⟨by rw [HR.out]; rfl, HB.out.alloc (by omega) _⟩
      · have hbe : (wrap64 (((str L)[i]'hp).toNat : Int) == z) = false := by
          rw [str_get, IntWalk.wrap64_in _ (by have := (L[i]'hlt).toNat_lt; omega), HZ.out]
          have : (L[i]'hlt).toNat ≠ b.toNat := fun h => hb (UInt8.toNat_inj.1 h)
          simp; omega
        have HN := Lib.hid (show ∀ j, j < i + 1 → L[j]? ≠ some b from fun j hj => by
          by_cases e : j = i
          · subst e; rw [List.getElem?_eq_getElem hlt]; simpa using hb
          · exact hn.out j (by omega))
        clear hb
        go_wp2_with fail
        go_roundw
        case rel => exact ⟨i + 1, by omega, rfl, HN⟩
        case measure => simp only [World.iterPos, World.iter_heap]; omega
    · obtain rfl : i = L.length := by omega
      have hnx : ∀ ty, (Instr.next (.pointer (some ⟨W1.heap.size, 0, none⟩)) true ty).run Tryz.prog (W1.iter (str L) L.length) = _ := fun ty => run_next_end W1 (str L) L.length ty (by rw [hsz]; omega)
      rw [hW1s] at hnx
      have HR := Lib.hid (HM.out hn.out)
      go_wp2_with fail
      go_ret
      exact ⟨by rw [HR.out]; rfl, HB.out.alloc (by omega) _⟩
theorem listedGroup_any (s : ByteArray) (a : Option Addr) (n c : Nat) (w : World) :
    Calls Tryz.prog 211 #[.agg #[.string s, .slice a n c]] w fun e w' => e = .returned (.int .i64 (n : Int)) ∧ Below w.heap.size w w' := by
  go_enter Tryz.func211, Tryz.ntmps211
  go_wp2_with fail
  go_ret
  exact ⟨rfl, below1 _ _⟩
theorem listedWidth_any (s : ByteArray) (b n c : Nat) (k : Nat) (x z : Int) (hz : z = (k : Int)) (h1 : 1 ≤ k) (hk : k ≤ n) (hn : n ≤ 3) (w : World) (hb : b < w.heap.size) (hc : w.cell? ⟨b, k - 1, none⟩ = some (.int .i64 x)) :
    Calls Tryz.prog 213 #[.agg #[.string s, .slice (some ⟨b, 0, none⟩) n c], .int .i64 z] w fun e w' => e = .returned (.int .i64 x) ∧ Below w.heap.size w w' := by
  obtain ⟨j, rfl⟩ : ∃ j, k = j + 1 := ⟨k - 1, by omega⟩
  obtain rfl : z = (j : Int) + 1 := by omega
  simp only [Nat.add_sub_cancel] at hc
  have h2 : (j : Int) < (n : Int) := by omega
  have h3 : j < n := by omega
  clear hz
  go_enter Tryz.func213, Tryz.ntmps213
  go_wp2_with fail
  go_ret
  exact ⟨rfl, below1 _ _⟩
theorem plainGroup_any (w : World) : Calls Tryz.prog 216 #[.agg #[]] w fun e w' => e = .returned (.int .i64 1) ∧ Below w.heap.size w w' := by
  go_enter Tryz.func216, Tryz.ntmps216
  go_wp2_with fail
  go_ret
  exact ⟨rfl, below1 _ _⟩
theorem plainWidth_any (z : Int) (w : World) : Calls Tryz.prog 218 #[.agg #[], .int .i64 z] w fun e w' => e = .returned (.int .i64 8) ∧ Below w.heap.size w w' := by
  go_enter Tryz.func218, Tryz.ntmps218
  go_wp2_with fail
  go_ret
  exact ⟨rfl, below1 _ _⟩
theorem plainValue_any (z : Int) (w : World) : Calls Tryz.prog 217 #[.agg #[], .int .i64 z] w fun e w' => e = .returned (.int .i64 z) ∧ Below w.heap.size w w' := by
  go_enter Tryz.func217, Tryz.ntmps217
  go_wp2_with fail
  go_ret
  exact ⟨rfl, below1 _ _⟩
/-- A mode's value: the plain one, or a listed one whose widths lie in a block. -/
def ModeAt (w : World) (v : Value) (m : Int) : Prop :=
  (m = 4 ∧ v = .iface PmT (.agg #[])) ∨ ((m = 1 ∨ m = 2 ∨ m = 3) ∧ ∃ b, v = .iface LiT (.agg #[.string (str (setM m)), .slice (some ⟨b, 0, none⟩) (grpM m) (grpM m)]) ∧ b < w.heap.size ∧ ∀ i, i < grpM m → w.cell? ⟨b, i, none⟩ = some (.int .i64 (widM m (i + 1))))
theorem ModeAt.below {w w' : World} {v : Value} {m : Int} (h : ModeAt w v m) (hb : Below w.heap.size w w') : ModeAt w' v m := by
  rcases h with h | ⟨h, b, rfl, hlt, hc⟩
  · exact .inl h
  · exact .inr ⟨h, b, rfl, Nat.lt_of_lt_of_le hlt hb.size, fun i hi => (hb.cell (p := ⟨b, i, none⟩) hlt).trans (hc i hi)⟩
theorem ModeAt.keep {w w' : World} {v : Value} {m : Int} {M : Nat} (h : ModeAt w v m) (hb : Below M w w') (hv : ∀ b n c s, v = .iface LiT (.agg #[s, .slice (some ⟨b, 0, none⟩) n c]) → b < M) (hs : w.heap.size ≤ w'.heap.size) : ModeAt w' v m := by
  rcases h with h | ⟨h, b, rfl, hlt, hc⟩
  · exact .inl h
  · exact .inr ⟨h, b, rfl, Nat.lt_of_lt_of_le hlt hs, fun i hi => (hb.cell (p := ⟨b, i, none⟩) (hv b _ _ _ rfl)).trans (hc i hi)⟩
/-- Old blocks but one are kept. -/
theorem ModeAt.dr {w w' : World} {v : Value} {m : Int} {s : Nat} (h : ModeAt w v m) (hd : Dr s w w') (hs : ∀ b n c x, v = .iface LiT (.agg #[x, .slice (some ⟨b, 0, none⟩) n c]) → b ≠ s) : ModeAt w' v m := by
  rcases h with h | ⟨h, b, rfl, hlt, hc⟩
  · exact .inl h
  · exact .inr ⟨h, b, rfl, Nat.lt_of_lt_of_le hlt hd.size, fun i hi => hd.cell (hc i hi) (hs b _ _ _ rfl)⟩
/-- The widths lie in a block from M on. -/
def FreshM (M : Nat) (v : Value) : Prop := ∀ b n c x, v = .iface LiT (.agg #[x, .slice (some ⟨b, 0, none⟩) n c]) → M ≤ b
theorem fresh_mk (b n c : Nat) (x : Value) : FreshM b (.iface LiT (.agg #[x, .slice (some ⟨b, 0, none⟩) n c])) := fun b' n' c' x' h => by simp at h; omega
theorem fresh_pl (M : Nat) : FreshM M (.iface PmT (.agg #[])) := fun b' n' c' x' h => by simp at h
set_option maxHeartbeats 4000000 in
theorem modeOf_any {m : Int} (hm : 1 ≤ m ∧ m ≤ 4) (w : World) :
    Calls Tryz.prog 170 #[.int .i64 m] w fun e w' => ∃ v, e = .returned (.tuple #[v, .bool true]) ∧ Below w.heap.size w w' ∧ ModeAt w' v m ∧ FreshM w.heap.size v := by
  go_enter Tryz.func170, Tryz.ntmps170
  rcases (show m = 1 ∨ m = 2 ∨ m = 3 ∨ m = 4 by omega) with rfl | rfl | rfl | rfl
  · go_wp2_with fail
    go_ret2
    refine ⟨_, rfl, below1 _ _, .inr ⟨.inl rfl, w.heap.size, rfl, by simp, fun i hi => ?_⟩, fresh_mk _ _ _ _⟩
    have hi : i < 3 := hi
    rcases (show i = 0 ∨ i = 1 ∨ i = 2 by omega) with rfl | rfl | rfl <;> go_simp <;> rfl
  · go_wp2_with fail
    go_ret2
    refine ⟨_, rfl, below1 _ _, .inr ⟨.inr (.inl rfl), w.heap.size, rfl, by simp, fun i hi => ?_⟩, fresh_mk _ _ _ _⟩
    have hi : i < 2 := hi
    rcases (show i = 0 ∨ i = 1 by omega) with rfl | rfl <;> go_simp <;> rfl
  · go_wp2_with fail
    go_ret2
    refine ⟨_, rfl, below1 _ _, .inr ⟨.inr (.inr rfl), w.heap.size, rfl, by simp, fun i hi => ?_⟩, fresh_mk _ _ _ _⟩
    have hi : i < 1 := hi
    obtain rfl : i = 0 := by omega
    go_simp <;> rfl
  · go_wp2_with fail
    go_ret2
    exact ⟨_, rfl, Below.refl _ _, .inl ⟨rfl, rfl⟩, fresh_pl _⟩
end Go.Proofs.YtdcmebegnekkcaaGreat
/-
  The program's widths of segments.
-/
namespace Go.Proofs.YtdcmebegnekkcaaGreat
open Go.RowKit
set_option linter.unusedVariables false

theorem mGroupL (s : ByteArray) (a : Option Addr) (n c : Nat) (w : World) : (method 362 LiT (.agg #[.string s, .slice a n c]) "loop.example/g00879/impl.group").run Tryz.prog w = .ok (211, .agg #[.string s, .slice a n c]) w := by kernel_rfl
theorem mWidthL (s : ByteArray) (a : Option Addr) (n c : Nat) (w : World) : (method 362 LiT (.agg #[.string s, .slice a n c]) "loop.example/g00879/impl.width").run Tryz.prog w = .ok (213, .agg #[.string s, .slice a n c]) w := by kernel_rfl
theorem mValueL (s : ByteArray) (a : Option Addr) (n c : Nat) (w : World) : (method 362 LiT (.agg #[.string s, .slice a n c]) "loop.example/g00879/impl.value").run Tryz.prog w = .ok (212, .agg #[.string s, .slice a n c]) w := by kernel_rfl
theorem mNilL (s : ByteArray) (a : Option Addr) (n c : Nat) (w : World) : (nilAhead 362 LiT (.agg #[.string s, .slice a n c]) "loop.example/g00879/impl.width").run Tryz.prog w = .ok (some false) w := by kernel_rfl
theorem mGroupP (w : World) : (method 362 PmT (.agg #[]) "loop.example/g00879/impl.group").run Tryz.prog w = .ok (216, .agg #[]) w := by kernel_rfl
theorem mWidthP (w : World) : (method 362 PmT (.agg #[]) "loop.example/g00879/impl.width").run Tryz.prog w = .ok (218, .agg #[]) w := by kernel_rfl
theorem mValueP (w : World) : (method 362 PmT (.agg #[]) "loop.example/g00879/impl.value").run Tryz.prog w = .ok (217, .agg #[]) w := by kernel_rfl
theorem mNilP (w : World) : (nilAhead 362 PmT (.agg #[]) "loop.example/g00879/impl.width").run Tryz.prog w = .ok (some false) w := by kernel_rfl
set_option maxHeartbeats 4000000 in
set_option maxRecDepth 100000 in
theorem textWidthL_any {m : Int} (hm : m = 1 ∨ m = 2 ∨ m = 3) (n : Nat) (hn : n ≤ 255) (b : Nat) (z : Int) (hz : z = (n : Int)) (w : World) (hb : b < w.heap.size) (hc : ∀ i, i < grpM m → w.cell? ⟨b, i, none⟩ = some (.int .i64 (widM m (i + 1)))) :
    Calls Tryz.prog 182 #[.iface LiT (.agg #[.string (str (setM m)), .slice (some ⟨b, 0, none⟩) (grpM m) (grpM m)]), .int .i64 z] w fun e w' => e = .returned (.int .i64 (segW m n - 11)) ∧ Below w.heap.size w w' := by
  have HG := Lib.hid (mGroupL (str (setM m)) (some ⟨b, 0, none⟩) (grpM m) (grpM m))
  have hmg := mGroupL (str (setM m)) (some ⟨b, 0, none⟩) (grpM m) (grpM m)
  have hmw := mWidthL (str (setM m)) (some ⟨b, 0, none⟩) (grpM m) (grpM m)
  have hmn := mNilL (str (setM m)) (some ⟨b, 0, none⟩) (grpM m) (grpM m)
  have hgb := grpM_bd m
  obtain ⟨g, hg⟩ : ∃ g, grpM m = g := ⟨_, rfl⟩
  have HL := Lib.hid (show segW m n - 11 = ((n / g : Nat) : Int) * widM m g + (if n % g = 0 then 0 else widM m (n % g)) from by unfold segW; rw [if_pos ⟨by omega, by omega, hn⟩, hg]; omega)
  rw [hg] at hmg hmw hmn hc hgb
  rw [hg]
  have hwb := widM_bd m g
  have hrlt : n % g < g := Nat.mod_lt _ (by omega)
  have hq : z.tdiv (g : Int) = ((n / g : Nat) : Int) := by rw [hz, Int.tdiv_eq_ediv_of_nonneg (by omega)]; rfl
  have hr : z.tmod (g : Int) = ((n % g : Nat) : Int) := by rw [hz, Int.tmod_eq_emod_of_nonneg (by omega)]; rfl
  have hql : n / g ≤ 255 := Nat.le_trans (Nat.div_le_self _ _) hn
  have hrl : n % g ≤ 3 := by omega
  have hwr := widM_bd m (n % g)
  have hgz : ¬ g = 0 := by omega
  obtain ⟨q, hqq⟩ : ∃ q, q = n / g := ⟨_, rfl⟩
  obtain ⟨r, hrr⟩ : ∃ r, r = n % g := ⟨_, rfl⟩
  rw [← hqq, ← hrr] at HL
  rw [← hqq] at hq hql
  rw [← hrr] at hr hrl hwr hrlt
  clear hqq hrr HG hg
  generalize setM m = L at *
  have hmul : 0 ≤ (q : Int) * widM m g ∧ (q : Int) * widM m g ≤ 2805 := ⟨Int.mul_nonneg (by omega) hwb.1, by have : (q : Int) * widM m g ≤ 255 * 11 := Int.mul_le_mul (by omega) hwb.2 hwb.1 (by omega); omega⟩
  have HW1 := Lib.hid (fun (W : World) (h1 : b < W.heap.size) h2 => listedWidth_any (str L) b g g g (widM m g) (g : Int) rfl hgb.1 (Nat.le_refl _) hgb.2 W h1 h2)
  have HW2 := Lib.hid (fun (h0 : r ≠ 0) (W : World) (h1 : b < W.heap.size) h2 => listedWidth_any (str L) b g g r (widM m r) (r : Int) rfl (by omega) (by omega) hgb.2 W h1 h2)
  have HC1 := Lib.hid (show w.cell? ⟨b, g - 1, none⟩ = some (.int .i64 (widM m g)) from by have := hc (g - 1) (by omega); rwa [show g - 1 + 1 = g by omega] at this)
  have HC2 := Lib.hid (show r ≠ 0 → w.cell? ⟨b, r - 1, none⟩ = some (.int .i64 (widM m r)) from fun h => by have := hc (r - 1) (by omega); rwa [show r - 1 + 1 = r by omega] at this)
  have HRP := Lib.hid (show r ≠ 0 → 0 < r from fun h => by omega)
  have hzb : 0 ≤ z ∧ z ≤ 255 := by omega
  have y1 : -1000000000000 ≤ (q : Int) ∧ (q : Int) ≤ 1000000000000 := by omega
  have y2 : -1000000000000 ≤ (r : Int) ∧ (r : Int) ≤ 1000000000000 := by omega
  have y3 : -1000000000000 ≤ (q : Int) * widM m g ∧ (q : Int) * widM m g ≤ 1000000000000 := by omega
  have y5 : -1000000000000 ≤ (q : Int) * widM m g + widM m r ∧ (q : Int) * widM m g + widM m r ≤ 1000000000000 := by omega
  obtain ⟨a1, b1⟩ := wrp y1
  obtain ⟨a2, b2⟩ := wrp y2
  obtain ⟨a3, b3⟩ := wrp y3
  obtain ⟨a5, b5⟩ := wrp y5
  clear hz hn y1 y2 y3 y5 hc
  go_enter Tryz.func182, Tryz.ntmps182
  go_wp2_with fail
  have hb0 : b < w.drew.heap.size := hb
  refine wp_region_S (S := (fun _ => True)) 13 rfl (by kernel_rfl) ?_ (fun hHeld => ?_)
  · (try dsimp only); all_goals trivial
  refine wpAnyH_take (i := 0) (oi := _) (v := ?_) rfl (by kernel_rfl) (by kernel_rfl) (by kernel_rfl) (fun _ _ _ h => h) (Or.inl ⟨by kernel_rfl, ?_⟩) hHeld ?_
  rotate_left
  · intro w0 hSw; (try dsimp only at hSw); go_simp; (try with_reducible rfl)
  (try dsimp only [Act.put, List.setIfInBounds_toArray, List.set_cons_zero, List.set_cons_succ])
  refine wpAnyH_take (i := 1) (oi := _) (v := ?_) rfl (by kernel_rfl) (by kernel_rfl) (by kernel_rfl) (fun _ _ _ h => h) (Or.inl ⟨by kernel_rfl, ?_⟩) hHeld ?_
  rotate_left
  · intro w0 hSw; (try dsimp only at hSw); go_simp; (try with_reducible rfl)
  (try dsimp only [Act.put, List.setIfInBounds_toArray, List.set_cons_zero, List.set_cons_succ])
  refine wpAnyH_take (i := 4) (oi := _) (v := ?_) rfl (by kernel_rfl) (by kernel_rfl) (by kernel_rfl) (fun _ _ _ h => h) (Or.inl ⟨by kernel_rfl, ?_⟩) hHeld ?_
  rotate_left
  · intro w0 hSw; (try dsimp only at hSw); go_simp; (try with_reducible rfl)
  (try dsimp only [Act.put, List.setIfInBounds_toArray, List.set_cons_zero, List.set_cons_succ])
  refine wpAnyH_take (i := 5) (oi := _) (v := ?_) rfl (by kernel_rfl) (by kernel_rfl) (by kernel_rfl) (fun _ _ _ h => h) (Or.inl ⟨by kernel_rfl, ?_⟩) hHeld ?_
  rotate_left
  · intro w0 hSw; (try dsimp only at hSw); go_simp; (try with_reducible rfl)
  (try dsimp only [Act.put, List.setIfInBounds_toArray, List.set_cons_zero, List.set_cons_succ])
  refine wpAnyH_take (i := 7) (oi := _) (v := ?_) rfl (by kernel_rfl) (by kernel_rfl) (by kernel_rfl) (fun _ _ _ h => h) (Or.inl ⟨by kernel_rfl, ?_⟩) hHeld ?_
  rotate_left
  · intro w0 hSw; (try dsimp only at hSw); go_simp; (try with_reducible rfl)
  (try dsimp only [Act.put, List.setIfInBounds_toArray, List.set_cons_zero, List.set_cons_succ])
  refine wpAnyH_take (i := 8) (oi := _) (v := ?_) rfl (by kernel_rfl) (by kernel_rfl) (by kernel_rfl) (fun _ _ _ h => h) (Or.inl ⟨by kernel_rfl, ?_⟩) hHeld ?_
  rotate_left
  · intro w0 hSw; (try dsimp only at hSw); go_simp; (try with_reducible rfl)
  (try dsimp only [Act.put, List.setIfInBounds_toArray, List.set_cons_zero, List.set_cons_succ])
  refine wpAnyH_take (i := 9) (oi := _) (v := ?_) rfl (by kernel_rfl) (by kernel_rfl) (by kernel_rfl) (fun _ _ _ h => h) (Or.inl ⟨by kernel_rfl, ?_⟩) hHeld ?_
  rotate_left
  · intro w0 hSw; (try dsimp only at hSw); go_simp; (try with_reducible rfl)
  (try dsimp only [Act.put, List.setIfInBounds_toArray, List.set_cons_zero, List.set_cons_succ])
  refine wpAnyH_ready (rs := [2]) (by kernel_rfl) (by simp) ?_
  refine AllReadyH.cons (o := _) rfl (fun K hK => ?_) AllReadyH.nil
  go_simp
  refine (listedGroup_any _ _ _ _ _).mono ?_
  rintro e w3 ⟨rfl, hb3⟩
  go_wp2_with fail
  refine hK.out _ _ ?_ (fun hHeld => ?_)
  · (try dsimp only); all_goals trivial
  clear hK K
  (try dsimp only [Act.put, List.setIfInBounds_toArray, List.set_cons_zero, List.set_cons_succ])
  refine wpAnyH_take (i := 3) (oi := _) (v := ?_) rfl (by kernel_rfl) (by kernel_rfl) (by kernel_rfl) (fun _ _ _ h => h) (Or.inl ⟨by kernel_rfl, ?_⟩) hHeld ?_
  rotate_left
  · intro w0 hSw; (try dsimp only at hSw); go_simp; (try with_reducible rfl)
  (try dsimp only [Act.put, List.setIfInBounds_toArray, List.set_cons_zero, List.set_cons_succ])
  refine wpAnyH_ready (rs := [6]) (by kernel_rfl) (by simp) ?_
  refine AllReadyH.cons (o := _) rfl (fun K hK => ?_) AllReadyH.nil
  go_simp
  refine (listedGroup_any _ _ _ _ _).mono ?_
  rintro e w4 ⟨rfl, hb4⟩
  go_wp2_with fail
  refine hK.out _ _ ?_ (fun hHeld => ?_)
  · (try dsimp only); all_goals trivial
  clear hK K
  (try dsimp only [Act.put, List.setIfInBounds_toArray, List.set_cons_zero, List.set_cons_succ])
  have hb34 : Below w.drew.heap.size w.drew w4 := hb3.trans (hb4.mono hb3.size)
  have hl4 : b < w4.heap.size := Nat.lt_of_lt_of_le hb0 hb34.size
  have hc4 := (hb34.cell (p := ⟨b, g - 1, none⟩) hb0).trans HC1.out
  refine wpAnyH_ready (rs := [10]) (by kernel_rfl) (by simp) ?_
  refine AllReadyH.cons (o := _) rfl (fun K hK => ?_) AllReadyH.nil
  go_simp
  refine (HW1.out _ hl4 hc4).mono ?_
  rintro e w5 ⟨rfl, hb5⟩
  go_wp2_with fail
  refine hK.out _ _ ?_ (fun hHeld => ?_)
  · (try dsimp only); all_goals trivial
  clear hK K
  (try dsimp only [Act.put, List.setIfInBounds_toArray, List.set_cons_zero, List.set_cons_succ])
  refine wpAnyH_take (i := 11) (oi := _) (v := ?_) rfl (by kernel_rfl) (by kernel_rfl) (by kernel_rfl) (fun _ _ _ h => h) (Or.inl ⟨by kernel_rfl, ?_⟩) hHeld ?_
  rotate_left
  · intro w0 hSw; (try dsimp only at hSw); go_simp; (try with_reducible rfl)
  (try dsimp only [Act.put, List.setIfInBounds_toArray, List.set_cons_zero, List.set_cons_succ])
  refine wpAnyH_take (i := 12) (oi := _) (v := ?_) rfl (by kernel_rfl) (by kernel_rfl) (by kernel_rfl) (fun _ _ _ h => h) (Or.inl ⟨by kernel_rfl, ?_⟩) hHeld ?_
  rotate_left
  · intro w0 hSw; (try dsimp only at hSw); go_simp; (try with_reducible rfl)
  (try dsimp only [Act.put, List.setIfInBounds_toArray, List.set_cons_zero, List.set_cons_succ])
  refine wpAnyH_done (by kernel_rfl) ?_ _
  go_simp
  have B5 := Lib.hid ((Drew.below (drew1 w) _).trans (hb34.trans (hb5.mono hb34.size)))
  clear hb3 hb4 hb34 hb5 hl4 hc4 hHeld
  go_wp2_with fail
  refine (listedGroup_any _ _ _ _ _).mono ?_
  rintro e w6 ⟨rfl, hb6⟩
  have B6 := Lib.hid (B5.out.trans (hb6.mono B5.out.size))
  clear hb6
  by_cases hr0 : r = 0
  · subst hr0
    have HL2 := Lib.hid (show segW m n - 11 = (q : Int) * widM m g from by rw [HL.out, if_pos rfl, Int.add_zero])
    go_wp2_with fail
    go_ret
    exact ⟨by rw [HL2.out]; rfl, B6.out⟩
  · have HL2 := Lib.hid (show segW m n - 11 = (q : Int) * widM m g + widM m r from by rw [HL.out, if_neg hr0])
    have hrp := HRP.out hr0
    have hl6 : b < w6.heap.size := Nat.lt_of_lt_of_le hb B6.out.size
    have hc6 := (B6.out.cell (p := ⟨b, r - 1, none⟩) hb).trans (HC2.out hr0)
    go_wp2_with fail
    refine (HW2.out hr0 _ hl6 hc6).mono ?_
    rintro e w7 ⟨rfl, hb7⟩
    have B7 := Lib.hid (B6.out.trans (hb7.mono B6.out.size))
    clear hb7
    go_wp2_with fail
    go_ret
    exact ⟨by rw [HL2.out]; rfl, B7.out⟩
set_option maxHeartbeats 4000000 in
set_option maxRecDepth 100000 in
theorem textWidthP_any (n : Nat) (hn : n ≤ 255) (z : Int) (hz : z = (n : Int)) (w : World) :
    Calls Tryz.prog 182 #[.iface PmT (.agg #[]), .int .i64 z] w fun e w' => e = .returned (.int .i64 (segW 4 n - 11)) ∧ Below w.heap.size w w' := by
  have hmg := mGroupP
  have hmw := mWidthP
  have hmn := mNilP
  have HL := Lib.hid (show segW 4 n - 11 = z * 8 from by unfold segW; rw [if_pos ⟨by omega, by omega, hn⟩]; simp [grpM, widM, Nat.mod_one, hz]; omega)
  have hq : z.tdiv 1 = z := Int.tdiv_one z
  have hr : z.tmod 1 = 0 := Int.tmod_one z
  have hzb : 0 ≤ z ∧ z ≤ 255 := by omega
  have y1 : -1000000000000 ≤ z ∧ z ≤ 1000000000000 := by omega
  have y3 : -1000000000000 ≤ z * 8 ∧ z * 8 ≤ 1000000000000 := by omega
  obtain ⟨a1, b1⟩ := wrp y1
  obtain ⟨a3, b3⟩ := wrp y3
  clear hz hn y1 y3
  go_enter Tryz.func182, Tryz.ntmps182
  go_wp2_with fail
  refine wp_region_S (S := (fun _ => True)) 13 rfl (by kernel_rfl) ?_ (fun hHeld => ?_)
  · (try dsimp only); all_goals trivial
  refine wpAnyH_take (i := 0) (oi := _) (v := ?_) rfl (by kernel_rfl) (by kernel_rfl) (by kernel_rfl) (fun _ _ _ h => h) (Or.inl ⟨by kernel_rfl, ?_⟩) hHeld ?_
  rotate_left
  · intro w0 hSw; (try dsimp only at hSw); go_simp; (try with_reducible rfl)
  (try dsimp only [Act.put, List.setIfInBounds_toArray, List.set_cons_zero, List.set_cons_succ])
  refine wpAnyH_take (i := 1) (oi := _) (v := ?_) rfl (by kernel_rfl) (by kernel_rfl) (by kernel_rfl) (fun _ _ _ h => h) (Or.inl ⟨by kernel_rfl, ?_⟩) hHeld ?_
  rotate_left
  · intro w0 hSw; (try dsimp only at hSw); go_simp; (try with_reducible rfl)
  (try dsimp only [Act.put, List.setIfInBounds_toArray, List.set_cons_zero, List.set_cons_succ])
  refine wpAnyH_take (i := 4) (oi := _) (v := ?_) rfl (by kernel_rfl) (by kernel_rfl) (by kernel_rfl) (fun _ _ _ h => h) (Or.inl ⟨by kernel_rfl, ?_⟩) hHeld ?_
  rotate_left
  · intro w0 hSw; (try dsimp only at hSw); go_simp; (try with_reducible rfl)
  (try dsimp only [Act.put, List.setIfInBounds_toArray, List.set_cons_zero, List.set_cons_succ])
  refine wpAnyH_take (i := 5) (oi := _) (v := ?_) rfl (by kernel_rfl) (by kernel_rfl) (by kernel_rfl) (fun _ _ _ h => h) (Or.inl ⟨by kernel_rfl, ?_⟩) hHeld ?_
  rotate_left
  · intro w0 hSw; (try dsimp only at hSw); go_simp; (try with_reducible rfl)
  (try dsimp only [Act.put, List.setIfInBounds_toArray, List.set_cons_zero, List.set_cons_succ])
  refine wpAnyH_take (i := 7) (oi := _) (v := ?_) rfl (by kernel_rfl) (by kernel_rfl) (by kernel_rfl) (fun _ _ _ h => h) (Or.inl ⟨by kernel_rfl, ?_⟩) hHeld ?_
  rotate_left
  · intro w0 hSw; (try dsimp only at hSw); go_simp; (try with_reducible rfl)
  (try dsimp only [Act.put, List.setIfInBounds_toArray, List.set_cons_zero, List.set_cons_succ])
  refine wpAnyH_take (i := 8) (oi := _) (v := ?_) rfl (by kernel_rfl) (by kernel_rfl) (by kernel_rfl) (fun _ _ _ h => h) (Or.inl ⟨by kernel_rfl, ?_⟩) hHeld ?_
  rotate_left
  · intro w0 hSw; (try dsimp only at hSw); go_simp; (try with_reducible rfl)
  (try dsimp only [Act.put, List.setIfInBounds_toArray, List.set_cons_zero, List.set_cons_succ])
  refine wpAnyH_take (i := 9) (oi := _) (v := ?_) rfl (by kernel_rfl) (by kernel_rfl) (by kernel_rfl) (fun _ _ _ h => h) (Or.inl ⟨by kernel_rfl, ?_⟩) hHeld ?_
  rotate_left
  · intro w0 hSw; (try dsimp only at hSw); go_simp; (try with_reducible rfl)
  (try dsimp only [Act.put, List.setIfInBounds_toArray, List.set_cons_zero, List.set_cons_succ])
  refine wpAnyH_ready (rs := [2]) (by kernel_rfl) (by simp) ?_
  refine AllReadyH.cons (o := _) rfl (fun K hK => ?_) AllReadyH.nil
  go_simp
  refine (plainGroup_any _).mono ?_
  rintro e w3 ⟨rfl, hb3⟩
  go_wp2_with fail
  refine hK.out _ _ ?_ (fun hHeld => ?_)
  · (try dsimp only); all_goals trivial
  clear hK K
  (try dsimp only [Act.put, List.setIfInBounds_toArray, List.set_cons_zero, List.set_cons_succ])
  refine wpAnyH_take (i := 3) (oi := _) (v := ?_) rfl (by kernel_rfl) (by kernel_rfl) (by kernel_rfl) (fun _ _ _ h => h) (Or.inl ⟨by kernel_rfl, ?_⟩) hHeld ?_
  rotate_left
  · intro w0 hSw; (try dsimp only at hSw); go_simp; (try with_reducible rfl)
  (try dsimp only [Act.put, List.setIfInBounds_toArray, List.set_cons_zero, List.set_cons_succ])
  refine wpAnyH_ready (rs := [6]) (by kernel_rfl) (by simp) ?_
  refine AllReadyH.cons (o := _) rfl (fun K hK => ?_) AllReadyH.nil
  go_simp
  refine (plainGroup_any _).mono ?_
  rintro e w4 ⟨rfl, hb4⟩
  go_wp2_with fail
  refine hK.out _ _ ?_ (fun hHeld => ?_)
  · (try dsimp only); all_goals trivial
  clear hK K
  (try dsimp only [Act.put, List.setIfInBounds_toArray, List.set_cons_zero, List.set_cons_succ])
  refine wpAnyH_ready (rs := [10]) (by kernel_rfl) (by simp) ?_
  refine AllReadyH.cons (o := _) rfl (fun K hK => ?_) AllReadyH.nil
  go_simp
  refine (plainWidth_any _ _).mono ?_
  rintro e w5 ⟨rfl, hb5⟩
  go_wp2_with fail
  refine hK.out _ _ ?_ (fun hHeld => ?_)
  · (try dsimp only); all_goals trivial
  clear hK K
  (try dsimp only [Act.put, List.setIfInBounds_toArray, List.set_cons_zero, List.set_cons_succ])
  refine wpAnyH_take (i := 11) (oi := _) (v := ?_) rfl (by kernel_rfl) (by kernel_rfl) (by kernel_rfl) (fun _ _ _ h => h) (Or.inl ⟨by kernel_rfl, ?_⟩) hHeld ?_
  rotate_left
  · intro w0 hSw; (try dsimp only at hSw); go_simp; (try with_reducible rfl)
  (try dsimp only [Act.put, List.setIfInBounds_toArray, List.set_cons_zero, List.set_cons_succ])
  refine wpAnyH_take (i := 12) (oi := _) (v := ?_) rfl (by kernel_rfl) (by kernel_rfl) (by kernel_rfl) (fun _ _ _ h => h) (Or.inl ⟨by kernel_rfl, ?_⟩) hHeld ?_
  rotate_left
  · intro w0 hSw; (try dsimp only at hSw); go_simp; (try with_reducible rfl)
  (try dsimp only [Act.put, List.setIfInBounds_toArray, List.set_cons_zero, List.set_cons_succ])
  refine wpAnyH_done (by kernel_rfl) ?_ _
  go_simp
  have hb34 : Below w.drew.heap.size w.drew w4 := hb3.trans (hb4.mono hb3.size)
  have B5 := Lib.hid ((Drew.below (drew1 w) _).trans (hb34.trans (hb5.mono hb34.size)))
  clear hb3 hb4 hb34 hb5 hHeld
  go_wp2_with fail
  refine (plainGroup_any _).mono ?_
  rintro e w6 ⟨rfl, hb6⟩
  have B6 := Lib.hid (B5.out.trans (hb6.mono B5.out.size))
  clear hb6
  go_wp2_with fail
  go_ret
  exact ⟨by rw [HL.out]; rfl, B6.out⟩
theorem textWidth_any {m : Int} {v : Value} {w : World} (hv : ModeAt w v m) (n : Nat) (hn : n ≤ 255) (z : Int) (hz : z = (n : Int)) :
    Calls Tryz.prog 182 #[v, .int .i64 z] w fun e w' => e = .returned (.int .i64 (segW m n - 11)) ∧ Below w.heap.size w w' := by
  rcases hv with ⟨rfl, rfl⟩ | ⟨hm, b, rfl, hb, hc⟩
  · exact textWidthP_any n hn z hz w
  · exact textWidthL_any hm n hn b z hz w hb hc
theorem segmentWidth_any {m : Int} {v : Value} {w : World} (hv : ModeAt w v m) (n : Nat) (hn : n ≤ 255) (z : Int) (hz : z = (n : Int)) :
    Calls Tryz.prog 171 #[v, .int .i64 z] w fun e w' => e = .returned (.int .i64 (segW m n)) ∧ Below w.heap.size w w' := by
  have HV := Lib.hid hv
  have hbd := segW_bd m n
  have HT := Lib.hid (textWidth_any hv n hn z hz)
  clear hv hz
  go_enter Tryz.func171, Tryz.ntmps171
  go_wp2_with fail
  refine HT.out.mono ?_
  rintro e w1 ⟨rfl, hb1⟩
  have y1 : -1000000000000 ≤ segW m n - 11 ∧ segW m n - 11 ≤ 1000000000000 := by omega
  have e1 : 11 + (segW m n - 11) = segW m n := by omega
  have HB := Lib.hid hb1
  clear hb1
  have E := Lib.hid e1
  clear e1 hbd
  obtain ⟨x, hx⟩ : ∃ x, segW m n - 11 = x := ⟨_, rfl⟩
  rw [hx] at y1 E
  rw [hx]
  clear hx
  go_wp2_with fail
  go_ret
  exact ⟨by rw [← E.out]; rfl, HB.out⟩
/-- The value of a byte in a mode, through the interface. -/
theorem modeValue_of {m : Int} {v : Value} {w : World} (hv : ModeAt w v m) : (m = 4 ∧ v = .iface PmT (.agg #[])) ∨ (m ≠ 4 ∧ ∃ b n, v = .iface LiT (.agg #[.string (str (setM m)), .slice (some ⟨b, 0, none⟩) n n])) := by
  rcases hv with h | ⟨hm, b, rfl, -⟩
  · exact .inl h
  · exact .inr ⟨by omega, b, _, rfl⟩
end Go.Proofs.YtdcmebegnekkcaaGreat
/-
  The program's table of the best segmentations: its parts.
-/
namespace Go.Proofs.YtdcmebegnekkcaaGreat
open Go.RowKit
set_option linter.unusedVariables false

abbrev SwT : TypeId := 229
theorem tf_zeros (w : World) (cs : Array Value) (ty : TypeId) (n : Nat) (hn : cs.size = n) (h : (cs.toList.all isZ) = true) : Tf (w.alloc (.cells cs ty)) w.heap.size n ty (fun _ => .int .i64 0) :=
  ⟨cs, heap_new _ _, hn, fun i hi => by
    rw [Array.getElem?_eq_getElem (by omega)]
    have hm : cs[i]'(by omega) ∈ cs.toList := by simp
    rw [isZ_eq (List.all_eq_true.1 h _ hm)]⟩
/-- The widths of segments, as far as they are made. -/
def wdF (M N : Nat) (i : Nat) : Value := .int .i64 (if 1 ≤ i / 256 ∧ 1 ≤ i % 256 ∧ (i / 256 < M ∨ (i / 256 = M ∧ i % 256 < N)) then segW ((i / 256 : Nat) : Int) (i % 256) else 0)
theorem wdF_start (i : Nat) : Value.int .i64 0 = wdF 1 1 i := by unfold wdF; rw [if_neg (by omega)]
theorem wdF_next (M : Nat) (i : Nat) : wdF M 256 i = wdF (M + 1) 1 i := by
  unfold wdF
  by_cases h : 1 ≤ i / 256 ∧ 1 ≤ i % 256 ∧ (i / 256 < M ∨ (i / 256 = M ∧ i % 256 < 256))
  · rw [if_pos h, if_pos (by omega)]
  · rw [if_neg h, if_neg (by omega)]
theorem wdF_step {M N : Nat} (hM : 1 ≤ M) (hN : 1 ≤ N) (hN2 : N < 256) (i : Nat) : upd (wdF M N) (M * 256 + N) (.int .i64 (segW (M : Int) N)) i = wdF M (N + 1) i := by
  unfold upd wdF
  by_cases e : i = M * 256 + N
  · subst e
    rw [if_pos rfl, show (M * 256 + N) / 256 = M by omega, show (M * 256 + N) % 256 = N by omega, if_pos (by omega)]
  · rw [if_neg e]
    by_cases h : 1 ≤ i / 256 ∧ 1 ≤ i % 256 ∧ (i / 256 < M ∨ (i / 256 = M ∧ i % 256 < N))
    · rw [if_pos h, if_pos (by omega)]
    · rw [if_neg h, if_neg (by omega)]
theorem wdF_at {m n : Nat} (h1 : 1 ≤ m) (h2 : m ≤ 4) (h3 : 1 ≤ n) (h4 : n ≤ 255) : wdF 5 1 (m * 256 + n) = .int .i64 (segW (m : Int) n) := by
  unfold wdF
  rw [show (m * 256 + n) / 256 = m by omega, show (m * 256 + n) % 256 = n by omega, if_pos (by omega)]
set_option maxHeartbeats 4000000 in
set_option maxRecDepth 100000 in
theorem widthsOfSegments_any (w : World) :
    Calls Tryz.prog 162 #[] w fun e w' => ∃ B, e = .returned (.pointer (some ⟨B, 0, none⟩)) ∧ Below w.heap.size w w' ∧ w.heap.size ≤ B ∧ Tf w' B 1280 SwT (wdF 5 1) := by
  have T0 := Lib.hid ((tf_zeros w Tryz.zeroCells229 SwT 1280 Tryz.zeroCells229_size (by kernel_rfl)).congr fun i _ => wdF_start i)
  have B0 := Lib.hid (below1 w (.cells Tryz.zeroCells229 SwT))
  go_enter Tryz.func162, Tryz.ntmps162
  go_wp2_with fail
  obtain ⟨X, hX⟩ : ∃ X, w.heap.size = X := ⟨_, rfl⟩
  rw [hX] at T0 B0
  rw [hX]
  go_loopw [2] (fun tm wr => ∃ m : Nat, 1 ≤ m ∧ m ≤ 5 ∧ tm = .int .i64 (m : Int) ∧ Hid (Tf wr X 1280 SwT (wdF m 1)) ∧ Hid (Below X w wr)) (fun tm _ => (5 - intOf tm).toNat)
  case atStart => exact ⟨1, by omega, by omega, rfl, T0, B0⟩
  case round =>
    clear T0 B0
    obtain ⟨m, hm1, hm5, rfl, hT, hB⟩ := hrel
    by_cases hm : m < 5
    · have hm4 : (m : Int) ≤ 4 := by omega
      go_wp2_with fail
      refine (modeOf_any (m := (m : Int)) ⟨by omega, by omega⟩ _).mono ?_
      rintro e w3 ⟨v, rfl, hb3, hv3, hf3⟩
      have T3 := Lib.hid (hT.out.below hb3 hT.out.lt)
      have B3 := Lib.hid (hB.out.trans (hb3.mono (Nat.le_of_lt hT.out.lt)))
      have V3 := Lib.hid hv3
      have HF := Lib.hid (show ∀ b n c x, v = .iface LiT (.agg #[x, .slice (some ⟨b, 0, none⟩) n c]) → b ≠ X from fun b n c x h => by have := hf3 b n c x h; have := hT.out.lt; omega)
      clear hb3 hv3 hf3 hT hB
      go_wp2_with fail
      go_loopw [5] (fun tn ws => ∃ n : Nat, 1 ≤ n ∧ n ≤ 256 ∧ tn = .int .i64 (n : Int) ∧ Hid (Tf ws X 1280 SwT (wdF m n)) ∧ Hid (Below X w ws) ∧ Hid (ModeAt ws v (m : Int))) (fun tn _ => (256 - intOf tn).toNat)
      case atStart => exact ⟨1, by omega, by omega, rfl, T3, B3, V3⟩
      case round =>
        clear T3 B3 V3
        obtain ⟨n, hn1, hn2, rfl, hT, hB, hV⟩ := hrel
        by_cases hn : n < 256
        · have hn3 : (n : Int) ≤ 255 := by omega
          have i1 : (m : Int) < 5 := by omega
          have i2 : (n : Int) < 256 := by omega
          have hXw : X < wr.drew.heap.size := hT.out.lt
          have BD := Drew.below (drew1 wr) wr.heap.size
          have HV := Lib.hid (hV.out.below BD)
          have HT := Lib.hid hT.out.drew
          have HBd := Lib.hid hB.out.drew
          clear hV hT hB
          go_wp2_with fail
          refine wp_region_S (S := (fun _ => True)) 10 rfl (by kernel_rfl) ?_ (fun hHeld => ?_)
          · (try dsimp only); all_goals trivial
          refine wpAnyH_take (i := 0) (oi := _) (v := ?_) rfl (by kernel_rfl) (by kernel_rfl) (by kernel_rfl) (fun _ _ _ h => h) (Or.inl ⟨by kernel_rfl, ?_⟩) hHeld ?_
          rotate_left
          · intro w0 hSw; (try dsimp only at hSw); go_simp; (try with_reducible rfl)
          (try dsimp only [Act.put, List.setIfInBounds_toArray, List.set_cons_zero, List.set_cons_succ])
          refine wpAnyH_take (i := 1) (oi := _) (v := ?_) rfl (by kernel_rfl) (by kernel_rfl) (by kernel_rfl) (fun _ _ _ h => h) (Or.inl ⟨by kernel_rfl, ?_⟩) hHeld ?_
          rotate_left
          · intro w0 hSw; (try dsimp only at hSw); go_simp; (try with_reducible rfl)
          (try dsimp only [Act.put, List.setIfInBounds_toArray, List.set_cons_zero, List.set_cons_succ])
          refine wpAnyH_take (i := 2) (oi := _) (v := ?_) rfl (by kernel_rfl) (by kernel_rfl) (by kernel_rfl) (fun _ _ _ h => h) (Or.inl ⟨by kernel_rfl, ?_⟩) hHeld ?_
          rotate_left
          · intro w0 hSw; (try dsimp only at hSw); go_simp; (try with_reducible rfl)
          (try dsimp only [Act.put, List.setIfInBounds_toArray, List.set_cons_zero, List.set_cons_succ])
          refine wpAnyH_take (i := 3) (oi := _) (v := ?_) rfl (by kernel_rfl) (by kernel_rfl) (by kernel_rfl) (fun _ _ _ h => h) (Or.inl ⟨by kernel_rfl, ?_⟩) hHeld ?_
          rotate_left
          · intro w0 hSw; (try dsimp only at hSw); go_simp; (try with_reducible rfl)
          (try dsimp only [Act.put, List.setIfInBounds_toArray, List.set_cons_zero, List.set_cons_succ])
          refine wpAnyH_take (i := 4) (oi := _) (v := ?_) rfl (by kernel_rfl) (by kernel_rfl) (by kernel_rfl) (fun _ _ _ h => h) (Or.inl ⟨by kernel_rfl, ?_⟩) hHeld ?_
          rotate_left
          · intro w0 hSw; (try dsimp only at hSw); go_simp; (try with_reducible rfl)
          (try dsimp only [Act.put, List.setIfInBounds_toArray, List.set_cons_zero, List.set_cons_succ])
          refine wpAnyH_take (i := 6) (oi := _) (v := ?_) rfl (by kernel_rfl) (by kernel_rfl) (by kernel_rfl) (fun _ _ _ h => h) (Or.inl ⟨by kernel_rfl, ?_⟩) hHeld ?_
          rotate_left
          · intro w0 hSw; (try dsimp only at hSw); go_simp; (try with_reducible rfl)
          (try dsimp only [Act.put, List.setIfInBounds_toArray, List.set_cons_zero, List.set_cons_succ])
          refine wpAnyH_take (i := 7) (oi := _) (v := ?_) rfl (by kernel_rfl) (by kernel_rfl) (by kernel_rfl) (fun _ _ _ h => h) (Or.inl ⟨by kernel_rfl, ?_⟩) hHeld ?_
          rotate_left
          · intro w0 hSw; (try dsimp only at hSw); go_simp; (try with_reducible rfl)
          (try dsimp only [Act.put, List.setIfInBounds_toArray, List.set_cons_zero, List.set_cons_succ])
          refine wpAnyH_ready (rs := [5]) (by kernel_rfl) (by simp) ?_
          refine AllReadyH.cons (o := _) rfl (fun K hK => ?_) AllReadyH.nil
          go_simp
          refine (segmentWidth_any HV.out n (by omega) _ rfl).mono ?_
          rintro e w5 ⟨rfl, hb5⟩
          go_wp2_with fail
          refine hK.out _ _ ?_ (fun hHeld => ?_)
          · (try dsimp only); all_goals trivial
          clear hK K
          (try dsimp only [Act.put, List.setIfInBounds_toArray, List.set_cons_zero, List.set_cons_succ])
          refine wpAnyH_take (i := 8) (oi := _) (v := ?_) rfl (by kernel_rfl) (by kernel_rfl) (by kernel_rfl) (fun _ _ _ h => h) (Or.inl ⟨by kernel_rfl, ?_⟩) hHeld ?_
          rotate_left
          · intro w0 hSw; (try dsimp only at hSw); go_simp; (try with_reducible rfl)
          (try dsimp only [Act.put, List.setIfInBounds_toArray, List.set_cons_zero, List.set_cons_succ])
          have T5 := HT.out.below hb5 hXw
          have B5 := Lib.hid (HBd.out.trans (hb5.mono (Nat.le_of_lt hXw)))
          have c5 := T5.cell (i := m * 256 + n) (by omega)
          have f5 := T5.fz (m * 256 + n)
          have T6 := Lib.hid ((T5.set (m * 256 + n) (.int .i64 (segW (m : Int) n))).congr fun i _ => wdF_step hm1 hn1 hn i)
          have B6 := Lib.hid (B5.out.setCell (p := ⟨X, m * 256 + n, none⟩) (Nat.le_refl _) (.int .i64 (segW (m : Int) n)))
          have V6 := Lib.hid ((HV.out.below hb5).dr (Dr.set X (m * 256 + n) w5 (.int .i64 (segW (m : Int) n))) HF.out)
          clear T5 B5 hb5
          refine wpAnyH_ready (rs := [9]) (by kernel_rfl) (by simp) ?_
          refine AllReadyH.cons (o := _) rfl (fun K hK => ?_) AllReadyH.nil
          go_simp
          refine hK.out _ _ ?_ (fun hHeld => ?_)
          · (try dsimp only); all_goals trivial
          clear hK K
          (try dsimp only [Act.put, List.setIfInBounds_toArray, List.set_cons_zero, List.set_cons_succ])
          refine wpAnyH_done (by kernel_rfl) ?_ _
          go_simp
          clear c5 f5
          go_wp2_with fail
          go_roundw
          case rel => exact ⟨n + 1, by omega, by omega, by go_num, T6, B6, V6⟩
          case measure => simp [intOf]; omega
        · obtain rfl : n = 256 := by omega
          have T4 := Lib.hid (hT.out.congr fun i _ => wdF_next m i)
          go_wp2_with fail
          go_roundw
          case rel => exact ⟨m + 1, by omega, by omega, by go_num, T4, hB⟩
          case measure => simp [intOf]; omega
    · obtain rfl : m = 5 := by omega
      go_wp2_with fail
      go_ret
      exact ⟨X, rfl, hX ▸ hB.out, by omega, hT.out⟩
end Go.Proofs.YtdcmebegnekkcaaGreat
