/-
  The parts Ovp, Ovs, Ovi, Ovm, Ovn.
-/
import Derived.Test.YtdcmebegnekkcaaGreatLaby
import Derived.BigQuiet
/-
  Pairs of items that overlap; tables of rows.
-/
namespace Go.Proofs.YtdcmebegnekkcaaGreat
open Go.RowKit
set_option linter.unusedVariables false
theorem upFrom_length (k : Int) (n : Nat) : (upFrom k n).length = n := by
  induction n with
  | zero => rfl
  | succ n ih => simp [upFrom, ih]
theorem upFrom_gi (k : Int) (n j : Nat) (hj : j < n) : gi (upFrom k n) j = k + j := by
  induction n with
  | zero => omega
  | succ n ih =>
    unfold gi at *
    show (upFrom k n ++ [k + n]).getD j 0 = _
    by_cases e : j = n
    · subst e
      rw [List.getD_eq_getElem?_getD, List.getElem?_append_right (by rw [upFrom_length]; omega), upFrom_length]; simp
    · rw [List.getD_eq_getElem?_getD, List.getElem?_append_left (by rw [upFrom_length]; omega), ← List.getD_eq_getElem?_getD]; exact ih (by omega)
theorem grownBy_refl (w : World) (r : Option Nat) : w.grownBy w r := ⟨rfl, rfl, rfl, Nat.le_refl _, fun _ _ _ => rfl⟩
theorem grownBy_set (w : World) (b o : Nat) (v : Value) : w.grownBy (w.setCell ⟨b, o, none⟩ v) (some b) :=
  ⟨rfl, rfl, rfl, by simp [World.setCell], fun k _ h => Below.heap_setCell _ _ _ _ (fun e => h (by rw [e]))⟩
theorem grownBy_trans {w w1 w2 : World} {r : Option Nat} (h : w.grownBy w1 r) (h2 : w1.grownBy w2 r) : w.grownBy w2 r :=
  ⟨h2.os.trans h.os, h2.tape.trans h.tape, h2.output.trans h.output, Nat.le_trans h.size h2.size, fun k hk hr => (h2.block k (Nat.lt_of_lt_of_le hk h.size) hr).trans (h.block k hk hr)⟩
theorem below_of_grown {w w' : World} {r : Option Nat} {B : Nat} (h : w.grownBy w' r) (hB : B ≤ w.heap.size) (hr : ∀ b, r = some b → B ≤ b) : Below B w w' :=
  (Below.refl B w).grown h hB hr
theorem markTo_length (zs : List Int) (k : Int) (m : Nat) (h : m ≤ zs.length) : (markTo zs k m).length = zs.length := by
  unfold markTo; rw [List.length_append, upFrom_length, List.length_drop]; omega
theorem gi_append_left {l m : List Int} {j : Nat} (h : j < l.length) : gi (l ++ m) j = gi l j := by
  unfold gi; rw [List.getD_eq_getElem?_getD, List.getElem?_append_left h, ← List.getD_eq_getElem?_getD]
theorem gi_append_right {l m : List Int} {j : Nat} (h : l.length ≤ j) : gi (l ++ m) j = gi m (j - l.length) := by
  unfold gi; rw [List.getD_eq_getElem?_getD, List.getElem?_append_right h, ← List.getD_eq_getElem?_getD]
theorem gi_drop (l : List Int) (m j : Nat) : gi (l.drop m) j = gi l (m + j) := by
  unfold gi; rw [List.getD_eq_getElem?_getD, List.getElem?_drop, ← List.getD_eq_getElem?_getD]
theorem markTo_set (zs : List Int) (k : Int) (m : Nat) (h : m < zs.length) : markTo zs k (m + 1) = (markTo zs k m).set m (k + m) := by
  apply List.ext_getElem
  · rw [List.length_set, markTo_length _ _ _ h, markTo_length _ _ _ (by omega)]
  · intro j h1 h2
    have e1 : ∀ (l : List Int) (hj : j < l.length), l[j] = gi l j := fun l hj => by unfold gi; rw [List.getD_eq_getElem?_getD, List.getElem?_eq_getElem hj]; rfl
    rw [e1, e1, gi_set (by rw [markTo_length _ _ _ (by omega)]; exact h)]
    rw [markTo_length _ _ _ h] at h1
    unfold markTo
    by_cases hj : j < m
    · rw [if_neg (by omega), gi_append_left (by rw [upFrom_length]; omega), gi_append_left (by rw [upFrom_length]; omega), upFrom_gi _ _ _ (by omega), upFrom_gi _ _ _ hj]
    · by_cases e : j = m
      · subst e; rw [if_pos rfl, gi_append_left (by rw [upFrom_length]; omega), upFrom_gi _ _ _ (by omega)]
      · rw [if_neg e, gi_append_right (by rw [upFrom_length]; omega), gi_append_right (by rw [upFrom_length]; omega), upFrom_length, upFrom_length, gi_drop, gi_drop]
        congr 1; omega
set_option maxHeartbeats 400000 in
theorem mark_any {w : World} {B n cap : Nat} {a : Option Addr} {zs : List Int} (h : OwnAt w B a n zs) (hn : n ≤ 1048576) (k : Int) (hk0 : 0 ≤ k) (hk : k ≤ 4194304) :
    Calls Tryz.prog 44 #[.slice a n cap, .int .i64 k] w fun e w' => e = .returned (.int .i64 (k + n)) ∧ w.grownBy w' (blk a) ∧ OwnAt w' B a n (upFrom k n) := by
  have H := Lib.hid h
  have hlen := h.len
  clear h
  go_enter Tryz.func44, Tryz.ntmps44
  go_wp2_with fail
  go_loopw [1, 5] (fun kk t wr => ∃ m : Nat, m ≤ n ∧ t = .int .i64 m ∧ kk = .int .i64 (k + m) ∧ Hid (OwnAt wr B a n (markTo zs k m)) ∧ Hid (w.grownBy wr (blk a))) (fun _ t _ => n - (intOf t).toNat)
  case atStart => exact ⟨0, by omega, rfl, by simp, H, grownBy_refl _ _⟩
  case round =>
    obtain ⟨m, hm, rfl, rfl, ho, hg⟩ := hrel
    by_cases hlt : m < n
    · obtain ⟨b, cur, rfl, _⟩ := ho.out.at' (by omega)
      obtain ⟨hc, hf, hb⟩ := ho.out.place hlt
      have ho2 := Lib.hid (by have := ho.out.set hlt (k + m); rw [← markTo_set _ _ _ (by omega)] at this; exact this)
      have hg2 := Lib.hid (grownBy_trans hg.out (grownBy_set wr b m (.int .i64 (k + m))))
      have e1 : k + (m : Int) + 1 = k + ((m + 1 : Nat) : Int) := by omega
      have E1 := Lib.hid e1
      clear hlen e1
      go_wp2_with fail
      go_roundw
      case rel => exact ⟨m + 1, by omega, by go_num, by rw [E1.out], ho2, hg2⟩
      case measure => simp [intOf]; omega
    · obtain rfl : m = n := by omega
      have hfin := Lib.hid (show OwnAt wr B a m (upFrom k m) by have := ho.out; unfold markTo at this; rw [List.drop_of_length_le (by omega), List.append_nil] at this; exact this)
      clear hlen
      go_wp2_with fail
      go_ret
      exact ⟨rfl, hg.out, hfin.out⟩
theorem held_any {w : World} {n cap : Nat} {a : Option Addr} (k : Int) (h : RowAt w a n (upFrom k n)) (hn : n ≤ 1048576) (hk0 : 0 ≤ k) (hk : k ≤ 4194304) :
    Calls Tryz.prog 45 #[.slice a n cap, .int .i64 k] w fun e w' => e = .returned (.int .i64 (k + n)) ∧ w = w' := by
  have H := Lib.hid h
  clear h
  go_enter Tryz.func45, Tryz.ntmps45
  go_wp2_with fail
  go_loop [1, 5] (fun kk t => ∃ m : Nat, m ≤ n ∧ t = .int .i64 m ∧ kk = .int .i64 (k + m)) (fun _ t => n - (intOf t).toNat)
  case atStart => exact ⟨0, by omega, rfl, by simp⟩
  case round =>
    obtain ⟨m, hm, rfl, rfl⟩ := hrel
    by_cases hlt : m < n
    · obtain ⟨b, off, rfl, hb, hcs⟩ := H.out.at' (by omega)
      have hc := hcs m hlt
      rw [upFrom_gi k n m hlt] at hc
      clear hcs
      have hne : (k + (m : Int) != k + (m : Int)) = false := by simp
      have e1 : k + (m : Int) + 1 = k + ((m + 1 : Nat) : Int) := by omega
      have E1 := Lib.hid e1
      clear e1 hne
      go_wp2_with fail
      go_round
      case rel => exact ⟨m + 1, by omega, by go_num, by rw [E1.out]⟩
      case measure => simp [intOf]; omega
    · obtain rfl : m = n := by omega
      go_wp2_with fail
      go_ret
      exact ⟨rfl, rfl⟩
theorem list_ext_gi {l m : List Int} (h : l.length = m.length) (he : ∀ j, j < l.length → gi l j = gi m j) : l = m := by
  apply List.ext_getElem h
  intro j h1 h2
  have := he j h1
  unfold gi at this
  rw [List.getD_eq_getElem?_getD, List.getD_eq_getElem?_getD, List.getElem?_eq_getElem h1, List.getElem?_eq_getElem h2] at this
  exact this
set_option maxHeartbeats 400000 in
theorem eqRow_any {w : World} {n m cap cap' : Nat} {a b : Option Addr} {xs ys : List Int} (hx : RowAt w a n xs) (hy : RowAt w b m ys) :
    Calls Tryz.prog 42 #[.slice a n cap, .slice b m cap'] w fun e w' => e = .returned (.bool (decide (xs = ys))) ∧ ∃ q, w' = w.drewN q := by
  have HX := Lib.hid hx
  have HY := Lib.hid hy
  have hsn := hx.small
  have hlx := hx.len
  have hly := hy.len
  clear hx hy
  by_cases hnm : n = m
  · have hb : ((n : Int) != (m : Int)) = false := by simp [hnm]
    subst hnm
    go_enter Tryz.func42, Tryz.ntmps42
    go_wp2_with fail
    have HLX := Lib.hid hlx
    have HLY := Lib.hid hly
    clear hlx hly hb
    go_loopw [5] (fun t wr => ∃ k q : Nat, k ≤ n ∧ t = .int .i64 k ∧ wr = w.drewN q ∧ Hid (∀ j, j < k → gi xs j = gi ys j)) (fun t _ => n - (intOf t).toNat)
    case atStart => exact ⟨0, 0, by omega, rfl, rfl, fun j hj => by omega⟩
    case round =>
      obtain ⟨k, q, hk, rfl, rfl, heq⟩ := hrel
      by_cases hlt : k < n
      · obtain ⟨b1, o1, rfl, hb1, hc1⟩ := HX.out.at' (by omega)
        obtain ⟨b2, o2, rfl, hb2, hc2⟩ := HY.out.at' (by omega)
        have hc1 := hc1 k hlt
        have hc2 := hc2 k hlt
        by_cases he : gi xs k = gi ys k
        · have hh : (gi xs k != gi ys k) = false := by simp [he]
          have heq2 := Lib.hid (show ∀ j, j < k + 1 → gi xs j = gi ys j from fun j hj => by
            by_cases e : j = k
            · rw [e, he]
            · exact heq.out j (by omega))
          clear he
          go_wp2_with fail
          go_quiet (fail)
          go_wp2_with fail
          go_roundw
          case rel => exact ⟨k + 1, q + nq, by omega, by go_num, rfl, heq2⟩
          case measure => simp [intOf]; omega
        · have hh : (gi xs k != gi ys k) = true := by simp [he]
          have hf := Lib.hid (show decide (xs = ys) = false by
            simp only [decide_eq_false_iff_not]; intro e; exact he (by rw [e]))
          clear he
          go_wp2_with fail
          go_quiet (fail)
          go_wp2_with fail
          go_ret
          exact ⟨ret_bool hf.out.symm, _, drewN_drewN _ _ _⟩
      · have hf := Lib.hid (show decide (xs = ys) = true by
          simp only [decide_eq_true_eq]
          exact list_ext_gi (by rw [HLX.out, HLY.out]) (fun j hj => heq.out j (by rw [HLX.out] at hj; omega)))
        go_wp2_with fail
        go_ret
        exact ⟨ret_bool hf.out.symm, _, rfl⟩
  · have hb : ((n : Int) != (m : Int)) = true := by simp; omega
    have hf := Lib.hid (show decide (xs = ys) = false by
      simp only [decide_eq_false_iff_not]; intro e; apply hnm; rw [← hlx, ← hly, e])
    clear hlx hly hnm
    go_enter Tryz.func42, Tryz.ntmps42
    go_wp2_with fail
    go_ret
    exact ⟨ret_bool hf.out.symm, 0, rfl⟩

theorem info_row : (Tryz.prog.info? 25).map (fun i => (i.zero, i.size, i.bytes)) = some (some (.slice none 0 0), 1, 24) := by kernel_rfl
def slots (m k : Nat) (G cp : Nat → Nat) (L : Nat → List Int) : List Value := (List.range m).map fun j => if j < k then .slice (some ⟨G j, 0, none⟩) (L j).length (cp j) else .slice none 0 0
theorem slots_get {m k : Nat} {G cp : Nat → Nat} {L : Nat → List Int} {j : Nat} (hj : j < m) : (slots m k G cp L)[j]? = some (if j < k then .slice (some ⟨G j, 0, none⟩) (L j).length (cp j) else .slice none 0 0) := by
  unfold slots; rw [List.getElem?_map, List.getElem?_range hj]; rfl
structure Rag (w : World) (B : Nat) (v : Value) (m k : Nat) (G cp : Nat → Nat) (L : Nat → List Int) : Prop where
  size : B ≤ w.heap.size
  top : w.ownsRow B 25 1 v m (slots m k G cp L)
  own : ∀ j, j < k → OwnL w B (.slice (some ⟨G j, 0, none⟩) (L j).length (cp j)) (L j)
  ne : ∀ j, j < k → v.ownBlock ≠ some (G j)
  inj : ∀ i j, i < k → j < k → G i = G j → i = j
  km : k ≤ m
section
variable {w : World} {B : Nat} {v : Value} {m k : Nat} {G cp : Nat → Nat} {L : Nat → List Int}
theorem Rag.below {w' : World} (h : Rag w B v m k G cp L) (hb : Below w.heap.size w w') : Rag w' B v m k G cp L :=
  ⟨Nat.le_trans h.size hb.size, ownsRow_below h.top hb, fun j hj => (h.own j hj).below hb, h.ne, h.inj, h.km⟩
theorem Rag.form (h : Rag w B v m k G cp L) (hm : 0 < m) : ∃ R cap, v = .slice (some ⟨R, 0, none⟩) m cap ∧ m ≤ cap ∧ B ≤ R ∧ R < w.heap.size := by
  rcases h.top.2 with ⟨_, h0⟩ | ⟨g, cap, cur, e, hg, hh, hc, _⟩
  · omega
  · exact ⟨g, cap, e, hc, hg, lt_of_heap hh⟩
theorem Rag.shape (h : Rag w B v m k G cp L) : ∃ a cap, v = .slice a m cap ∧ m ≤ cap ∧ (a = none → cap = 0) := by
  rcases h.top.2 with ⟨e, h0⟩ | ⟨g, cap, cur, e, hg, hh, hc, _⟩
  · exact ⟨none, 0, by rw [e, h0], by omega, fun _ => rfl⟩
  · exact ⟨_, cap, e, hc, fun h => by cases h⟩
theorem Rag.slot {R cap : Nat} (h : Rag w B (.slice (some ⟨R, 0, none⟩) m cap) m k G cp L) {j : Nat} (hj : j < k) : w.cell? ⟨R, j, none⟩ = some (.slice (some ⟨G j, 0, none⟩) (L j).length (cp j)) := by
  have hm := h.km
  rw [h.top.cellAt j (by omega), slots_get (by omega), if_pos hj]
theorem Rag.rlt (h : Rag w B v m k G cp L) {j : Nat} (hj : j < k) : B ≤ G j ∧ G j < w.heap.size := (h.own j hj).2.lt _ rfl
theorem Rag.row (h : Rag w B v m k G cp L) {j : Nat} (hj : j < k) : RowAt w (some ⟨G j, 0, none⟩) (L j).length (L j) := by
  obtain ⟨a, c, e, _, ho⟩ := (h.own j hj).shape
  simp only [Value.slice.injEq] at e
  obtain ⟨rfl, _, _⟩ := e
  exact ho.row
theorem slots_congr {G' cp' : Nat → Nat} {L' : Nat → List Int} (h : ∀ j, j < k → G j = G' j ∧ cp j = cp' j ∧ (L j).length = (L' j).length) : slots m k G cp L = slots m k G' cp' L' := by
  unfold slots
  refine List.map_congr_left fun j _ => ?_
  by_cases hj : j < k
  · obtain ⟨a, b, c⟩ := h j hj
    rw [if_pos hj, if_pos hj, a, b, c]
  · rw [if_neg hj, if_neg hj]
theorem Rag.congr {L' : Nat → List Int} (h : Rag w B v m k G cp L) (e : ∀ j, j < k → L j = L' j) : Rag w B v m k G cp L' :=
  ⟨h.size, by rw [← slots_congr (G := G) (cp := cp) (L := L) (fun j hj => ⟨rfl, rfl, by rw [e j hj]⟩)]; exact h.top, fun j hj => by rw [← e j hj]; exact h.own j hj, h.ne, h.inj, h.km⟩
end
theorem Rag.nil (w : World) (B : Nat) (hB : B ≤ w.heap.size) (G cp : Nat → Nat) (L : Nat → List Int) : Rag w B (.slice none 0 0) 0 0 G cp L :=
  ⟨hB, World.ownsRow_nil _ _ _ _, fun j hj => by omega, fun j hj => by omega, fun i j hi => by omega, Nat.le_refl _⟩
theorem Rag.empty (w : World) (B : Nat) (hB : B ≤ w.heap.size) (b : Nat) (hb : b = w.heap.size) (G cp : Nat → Nat) (L : Nat → List Int) : Rag (w.alloc (.cells #[] 25)) B (.slice (some ⟨b, 0, none⟩) 0 0) 0 0 G cp L := by
  subst hb
  exact ⟨by simp; omega, World.ownsRow_made w #[] 0 hB (by unfold maxLen; omega) rfl, fun j hj => by omega, fun j hj => by omega, fun i j hi => by omega, Nat.le_refl _⟩
theorem rag_push {W0 w' : World} {B : Nat} {v v' : Value} {m g c : Nat} {G cp : Nat → Nat} {L : Nat → List Int} {zs : List Int} (h : Rag W0 B v m m G cp L) (hrow : OwnL W0 B (.slice (some ⟨g, 0, none⟩) zs.length c) zs) (hgv : v.ownBlock ≠ some g) (hgj : ∀ j, j < m → G j ≠ g)
    (h1 : w'.ownsRow B 25 1 v' (m + 1) (slots m m G cp L ++ [.slice (some ⟨g, 0, none⟩) zs.length c])) (hg : (W0.alloc (.cells #[.slice (some ⟨g, 0, none⟩) zs.length c] 25)).grownBy w' v.ownBlock) (hat : v'.ownBlock = v.ownBlock ∨ v'.ownBlock = some (W0.alloc (.cells #[.slice (some ⟨g, 0, none⟩) zs.length c] 25)).heap.size) :
    Rag w' B v' (m + 1) (m + 1) (fun t => if t = m then g else G t) (fun t => if t = m then c else cp t) (fun t => if t = m then zs else L t) := by
  have hsz : B ≤ w'.heap.size := by have := hg.size; have := h.size; simp at *; omega
  have hglt : g < W0.heap.size := (hrow.2.lt g rfl).2
  have hGlt : ∀ j, j < m → G j < W0.heap.size := fun j hj => (h.rlt hj).2
  refine ⟨hsz, ?_, fun t ht => ?_, fun t ht => ?_, fun i j hi hj e => ?_, Nat.le_refl _⟩
  · have e : slots m m G cp L ++ [.slice (some ⟨g, 0, none⟩) zs.length c] = slots (m + 1) (m + 1) (fun t => if t = m then g else G t) (fun t => if t = m then c else cp t) (fun t => if t = m then zs else L t) := by
      unfold slots
      rw [List.range_succ, List.map_append]
      congr 1
      · refine List.map_congr_left fun j hj => ?_
        have hj := List.mem_range.1 hj
        have e2 : ¬ j = m := by omega
        rw [if_pos hj, if_pos (by omega)]; simp [e2]
      · simp
    rw [← e]; exact h1
  · by_cases e : t = m
    · subst e
      simp only [if_pos]
      exact ⟨hsz, (hrow.2.alloc _).kept hg (.inr (fun e => hgv e.symm))⟩
    · simp only [if_neg e]
      exact ⟨hsz, ((h.own t (by omega)).2.alloc _).kept hg (.inr (fun e2 => h.ne t (by omega) e2.symm))⟩
  · have key : ∀ q, q < W0.heap.size → v.ownBlock ≠ some q → v'.ownBlock ≠ some q := fun q hq hne e => by
      rcases hat with h2 | h2
      · exact hne (h2.symm.trans e)
      · rw [h2] at e; simp at e; omega
    by_cases e : t = m
    · simp only [if_pos e]; exact key g hglt hgv
    · simp only [if_neg e]; exact key _ (hGlt t (by omega)) (h.ne t (by omega))
  · by_cases e1 : i = m <;> by_cases e2 : j = m
    · omega
    · simp only [if_pos e1, if_neg e2] at e
      exact absurd e.symm (hgj j (by omega))
    · simp only [if_neg e1, if_pos e2] at e
      exact absurd e (hgj i (by omega))
    · simp only [if_neg e1, if_neg e2] at e
      exact h.inj i j (by omega) (by omega) e
theorem append_rag {W0 : World} {ops : Array Oper} {rest : List Oper} {o : Oper} {a : Act} {Q : Exit → Act → World → Prop} (hgd : o.guard = none) (s x : Operand) (t : TypeId)
    (ho : o.op = .call { callee := .builtin .append, args := #[s, x], argTypes := #[t, t] }) (ht : Tryz.prog.underlying t = some (.slice 25))
    {B : Nat} {v : Value} {m g c : Nat} {G cp : Nat → Nat} {L : Nat → List Int} {zs : List Int} (h : Rag W0 B v m m G cp L) (hrow : OwnL W0 B (.slice (some ⟨g, 0, none⟩) zs.length c) zs) (hgv : v.ownBlock ≠ some g) (hgj : ∀ j, j < m → G j ≠ g)
    (hs : a.eval s = v) (b : Nat) (hb : b = W0.heap.size) (hx : a.eval x = .slice (some ⟨b, 0, none⟩) 1 1) (hn : m ≤ 100000)
    (K : ∀ v' w', Rag w' B v' (m + 1) (m + 1) (fun t => if t = m then g else G t) (fun t => if t = m then c else cp t) (fun t => if t = m then zs else L t) → Below B W0 w' → wpList Tryz.prog ops Q rest (a.put o.dst v') w') :
    wpList Tryz.prog ops Q (o :: rest) a (W0.alloc (.cells #[.slice (some ⟨g, 0, none⟩) zs.length c] 25)) := by
  subst hb
  obtain ⟨i0, hi, hz0, hz1, hz2⟩ := info_parts info_row
  refine wpList_append_own_at _ hgd s x t ho B 25 i0 (.slice none 0 0) 1 24 ht hi hz0 hz1 hz2 rfl (by decide) v m (slots m m G cp L) hs (h.top.alloc _) ⟨W0.heap.size, 0, none⟩ 1 1 [.slice (some ⟨g, 0, none⟩) zs.length c] hx rfl ?_ ?_ (by unfold maxLen; omega) (by omega) (by have := h.size; simp; omega) ?_
  · intro j u hj
    match j, hj with
    | 0, hj => simp at hj; subst hj; simp [Addr.add, go_sem]
  · intro u hu; simp at hu; subst hu; rfl
  · intro v' w' h1 hg _ hat
    exact K v' w' (rag_push h hrow hgv hgj h1 hg hat) (append_below h.size hg (fun k hk => (h.top.lt k hk).1))
theorem Rag.lower {w : World} {B C : Nat} {v : Value} {m k : Nat} {G cp : Nat → Nat} {L : Nat → List Int} (h : Rag w B v m k G cp L) (hC : C ≤ B) : Rag w C v m k G cp L := by
  refine ⟨Nat.le_trans hC h.size, ⟨h.top.1, ?_⟩, fun j hj => (h.own j hj).lower hC, h.ne, h.inj, h.km⟩
  rcases h.top.2 with h2 | ⟨g, cap, cur, rfl, hg, hh, r⟩
  · exact .inl h2
  · exact .inr ⟨g, cap, cur, rfl, Nat.le_trans hC hg, hh, r⟩
theorem append_pair {wr : World} {ops : Array Oper} {rest : List Oper} {o : Oper} {a : Act} {Q : Exit → Act → World → Prop} (hgd : o.guard = none) (s x : Operand) (t : TypeId)
    (ho : o.op = .call { callee := .builtin .append, args := #[s, x], argTypes := #[t, t] }) (ht : Tryz.prog.underlying t = some (.slice 25))
    {B : Nat} {v : Value} {m : Nat} {G cp : Nat → Nat} {L : Nat → List Int} (h : Rag wr B v m m G cp L) (y z : Int) (hs : a.eval s = v) (b1 b : Nat) (hb1 : b1 = wr.heap.size) (hb : b = wr.heap.size + 1) (hx : a.eval x = .slice (some ⟨b, 0, none⟩) 1 1) (hn : m ≤ 100000)
    (K : ∀ v' w' G' cp', Rag w' B v' (m + 1) (m + 1) G' cp' (fun t => if t = m then [y, z] else L t) → Below B wr w' → wpList Tryz.prog ops Q rest (a.put o.dst v') w') :
    wpList Tryz.prog ops Q (o :: rest) a ((wr.alloc (.cells #[.int .i64 y, .int .i64 z] 2)).alloc (.cells #[.slice (some ⟨b1, 0, none⟩) 2 2] 25)) := by
  subst hb1
  have hrow : OwnL (wr.alloc (.cells #[.int .i64 y, .int .i64 z] 2)) B (.slice (some ⟨wr.heap.size, 0, none⟩) [y, z].length 2) [y, z] := OwnL.lit wr B h.size [y, z] (by simp)
  refine append_rag hgd s x t ho ht (h.below (below1 wr (.cells #[.int .i64 y, .int .i64 z] 2))) hrow (fun e => by have := (h.top.lt _ e).2; omega) (fun j hj e => by have := (h.rlt hj).2; omega) hs b (by simp; omega) hx hn ?_
  intro v' w' hr hb
  exact K v' w' _ _ hr (((Below.refl B wr).alloc h.size _).trans hb)
/-- A table of rows of the call's own. -/
def OwnQ (w : World) (B : Nat) (v : Value) (LL : List (List Int)) : Prop := ∃ G cp, Rag w B v LL.length LL.length G cp (fun j => LL.getD j [])
theorem OwnQ.nil (w : World) : OwnQ w w.heap.size (.slice none 0 0) [] := ⟨fun _ => 0, fun _ => 0, Rag.nil w _ (Nat.le_refl _) _ _ _⟩
theorem OwnQ.empty (w : World) : OwnQ (w.alloc (.cells #[] 25)) w.heap.size (.slice (some ⟨w.heap.size, 0, none⟩) 0 0) [] := ⟨fun _ => 0, fun _ => 0, Rag.empty w _ (Nat.le_refl _) _ rfl _ _ _⟩
theorem OwnQ.below {w w' : World} {B : Nat} {v : Value} {LL : List (List Int)} (h : OwnQ w B v LL) (hb : Below w.heap.size w w') : OwnQ w' B v LL := by
  obtain ⟨G, cp, h⟩ := h; exact ⟨G, cp, h.below hb⟩
theorem OwnQ.lower {w : World} {B C : Nat} {v : Value} {LL : List (List Int)} (h : OwnQ w B v LL) (hC : C ≤ B) : OwnQ w C v LL := by
  obtain ⟨G, cp, h⟩ := h; exact ⟨G, cp, h.lower hC⟩
theorem OwnQ.size {w : World} {B : Nat} {v : Value} {LL : List (List Int)} (h : OwnQ w B v LL) : B ≤ w.heap.size := by
  obtain ⟨G, cp, h⟩ := h; exact h.size
theorem appendQ_pair {wr : World} {ops : Array Oper} {rest : List Oper} {o : Oper} {a : Act} {Q : Exit → Act → World → Prop} (hgd : o.guard = none) (s x : Operand) (t : TypeId)
    (ho : o.op = .call { callee := .builtin .append, args := #[s, x], argTypes := #[t, t] }) (ht : Tryz.prog.underlying t = some (.slice 25))
    {B : Nat} {v : Value} {LL : List (List Int)} (h : OwnQ wr B v LL) (y z : Int) (hs : a.eval s = v) (b1 b : Nat) (hb1 : b1 = wr.heap.size) (hb : b = wr.heap.size + 1) (hx : a.eval x = .slice (some ⟨b, 0, none⟩) 1 1) (hn : LL.length ≤ 100000)
    (K : ∀ v' w', OwnQ w' B v' (LL ++ [[y, z]]) → Below B wr w' → wpList Tryz.prog ops Q rest (a.put o.dst v') w') :
    wpList Tryz.prog ops Q (o :: rest) a ((wr.alloc (.cells #[.int .i64 y, .int .i64 z] 2)).alloc (.cells #[.slice (some ⟨b1, 0, none⟩) 2 2] 25)) := by
  obtain ⟨G, cp, h⟩ := h
  refine append_pair hgd s x t ho ht h y z hs b1 b hb1 hb hx hn ?_
  intro v' w' G' cp' hr hb2
  refine K v' w' ⟨G', cp', ?_⟩ hb2
  have e : (LL ++ [[y, z]]).length = LL.length + 1 := by simp
  rw [e]
  refine hr.congr fun j hj => ?_
  by_cases hj2 : j = LL.length
  · subst hj2
    simp [List.getD_eq_getElem?_getD]
  · rw [if_neg hj2, List.getD_eq_getElem?_getD, List.getD_eq_getElem?_getD, List.getElem?_append_left (by omega)]
/-- Whether two items overlap. -/
noncomputable def ovB (a b : It) : Bool := decide (a.rw < b.rw + boxR b) && (decide (b.rw < a.rw + boxR a) && (decide (a.cl < b.cl + boxC b) && decide (b.cl < a.cl + boxC a)))
noncomputable def innL (zs : List It) (i : Nat) : Nat → List (List Int)
  | 0 => []
  | d + 1 => innL zs i d ++ (if ovB (giI zs i) (giI zs (i + 1 + d)) = true then [[(i : Int), ((i + 1 + d : Nat) : Int)]] else [])
noncomputable def outL (zs : List It) (n : Nat) : Nat → List (List Int)
  | 0 => []
  | i + 1 => outL zs n i ++ innL zs i (n - (i + 1))
noncomputable def ovR (R C : Int) (zs : List It) : List (List Int) := if labB R C zs = true then outL zs zs.length zs.length else []
noncomputable def ovC (R C : Int) (zs : List It) : Int := if labB R C zs = true then 0 else 1
theorem innL_len (zs : List It) (i d : Nat) : (innL zs i d).length ≤ d := by
  induction d with
  | zero => exact Nat.le_refl _
  | succ d ih =>
    unfold innL
    rw [List.length_append]
    split
    · show _ + 1 ≤ d + 1; omega
    · show _ + 0 ≤ d + 1; omega
theorem outL_len (zs : List It) (n i : Nat) : (outL zs n i).length ≤ i * n := by
  induction i with
  | zero => exact Nat.zero_le _
  | succ i ih =>
    unfold outL
    rw [List.length_append, Nat.add_mul]
    have := innL_len zs i (n - (i + 1))
    omega
theorem lab_in {R C : Int} {zs : List It} (h : labB R C zs = true) : zs.length ≤ 12 ∧ ∀ i, i < zs.length → 0 ≤ (giI zs i).rw ∧ (giI zs i).rw ≤ 400 ∧ 0 ≤ (giI zs i).cl ∧ (giI zs i).cl ≤ 400 ∧ 0 ≤ boxR (giI zs i) ∧ boxR (giI zs i) ≤ 400 ∧ 0 ≤ boxC (giI zs i) ∧ boxC (giI zs i) ≤ 400 := by
  unfold labB at h
  simp only [Bool.and_eq_true, decide_eq_true_eq] at h
  obtain ⟨h1, h2, h3⟩ := h
  have hs := szB_bd h1
  refine ⟨h2, fun i hi => ?_⟩
  have e : giI zs i = zs[i] := by unfold giI; rw [List.getD_eq_getElem?_getD, List.getElem?_eq_getElem hi]; rfl
  have hx := List.all_eq_true.1 h3 _ (List.getElem_mem hi)
  rw [← e] at hx
  unfold inB at hx
  simp only [Bool.and_eq_true, decide_eq_true_eq] at hx
  obtain ⟨g1, g2, g3, g4, g5⟩ := hx
  have p := box_pos g1
  have q1 := inR_iff.1 g4
  have q2 := inR_iff.1 g5
  omega
end Go.Proofs.YtdcmebegnekkcaaGreat
/-
  Items that overlap, in the reference.
-/
namespace Go.Proofs.YtdcmebegnekkcaaGreat
open Go.RowKit
set_option linter.unusedVariables false

set_option maxHeartbeats 16000000 in
set_option maxRecDepth 100000 in
theorem specOverlap_any {w : World} {a : Option Addr} {n cap : Nat} {zs : List It} (R C : Int) (hr : ItsAt w a n zs) (htx : ∀ i, i < n → (giI zs i).tx.length ≤ 1048576) :
    Calls Tryz.prog 20 #[lbV R C (.slice a n cap)] w fun e w' => (∃ v, e = .returned (.tuple #[v, .int .i64 (ovC R C zs)]) ∧ OwnQ w' w.heap.size v (ovR R C zs)) ∧ Below w.heap.size w w' := by
  have L0 := Lib.hid (LbB.new w R C (.slice a n cap) LbT)
  have B0 := Lib.hid (below1 w (.cells #[.int .i64 R, .int .i64 C, .slice a n cap] LbT))
  have HR := Lib.hid (hr.below (below1 w (.cells #[.int .i64 R, .int .i64 C, .slice a n cap] LbT)))
  have HTX := Lib.hid htx
  have HLN := Lib.hid hr.len
  have hsm := hr.small
  have HU := Lib.hid (show ovR R C zs = if labB R C zs = true then outL zs zs.length zs.length else [] from rfl)
  have HV := Lib.hid (show ovC R C zs = if labB R C zs = true then 0 else 1 from rfl)
  have HLI := Lib.hid (fun h => lab_in (R := R) (C := C) (zs := zs) h)
  clear hr htx
  go_enter Tryz.func20, Tryz.ntmps20
  obtain ⟨X, hX⟩ : ∃ X, w.heap.size = X := ⟨_, rfl⟩
  obtain ⟨w1, hw1⟩ : ∃ w1, w.alloc (.cells #[.int .i64 R, .int .i64 C, .slice a n cap] LbT) = w1 := ⟨_, rfl⟩
  rw [hw1] at L0 B0 HR
  rw [hX] at L0
  have l0 := L0.out.c0
  have l1 := L0.out.c1
  have l2 := L0.out.c2
  have hX1 := L0.out.lt
  go_wp2_with fail
  (try rw [show w.alloc (.cells #[.int .i64 R, .int .i64 C, .slice a n cap] LbT) = w1 from hw1])
  clear hw1
  refine (specIsLabel_any R C HR.out HTX.out).mono ?_
  rintro e w2 ⟨rfl, hb2⟩
  have L2 := Lib.hid (L0.out.below hb2)
  have R2 := Lib.hid (HR.out.below hb2)
  have B2 := Lib.hid (B0.out.trans (hb2.mono B0.out.size))
  clear hb2 L0 HR B0 l0 l1 l2 hX1
  have l0 := L2.out.c0
  have l1 := L2.out.c1
  have l2 := L2.out.c2
  have hX1 := L2.out.lt
  cases hl : labB R C zs with
  | false =>
    rw [hl, if_neg (by simp)] at HU
    rw [hl, if_neg (by simp)] at HV
    clear hl
    have HQ := Lib.hid (OwnQ.nil w2)
    go_wp2_with fail
    go_ret2
    exact ⟨⟨_, by rw [HV.out]; rfl, by rw [HU.out]; exact HQ.out.lower B2.out.size⟩, hX ▸ B2.out⟩
  | true =>
  obtain ⟨hn12, hin⟩ := HLI.out hl
  rw [hl, if_pos rfl] at HU
  rw [hl, if_pos rfl] at HV
  clear hl
  rw [HLN.out] at hn12 hin HU
  have HIN := Lib.hid hin
  clear hin
  have O2 := Lib.hid (OwnQ.empty w2)
  have C2 := Lib.hid (below1 w2 (.cells #[] 25))
  obtain ⟨M, hM⟩ : ∃ M, w2.heap.size = M := ⟨_, rfl⟩
  rw [hM] at O2 C2
  have hMw : w.heap.size ≤ M := by rw [← hM]; exact B2.out.size
  go_wp2_with fail
  go_loopw [4, 5] (fun tv ti wr => ∃ i : Nat, i ≤ n ∧ ti = .int .i64 (i : Int) ∧ Hid (Below M w2 wr) ∧ Hid (OwnQ wr M tv (outL zs n i))) (fun _ ti _ => n - (intOf ti).toNat)
  case atStart => exact ⟨0, by omega, rfl, C2, O2⟩
  case round =>
    obtain ⟨i, hi, rfl, hB, hO⟩ := hrel
    have L3 := Lib.hid (L2.out.below (by rw [hM]; exact hB.out))
    clear O2 C2 l0 l1 l2 hX1
    have l0 := L3.out.c0
    have l1 := L3.out.c1
    have l2 := L3.out.c2
    have hX1 := L3.out.lt
    by_cases hlt : i < n
    · have HOS := Lib.hid (show outL zs n (i + 1) = outL zs n i ++ innL zs i (n - (i + 1)) from rfl)
      have hol := outL_len zs n i
      have hol2 : (outL zs n i).length ≤ 144 := Nat.le_trans hol (Nat.mul_le_mul (show i ≤ 12 by omega) hn12)
      clear hol
      have HO0 := Lib.hid (show OwnQ wr M _ (outL zs n i ++ innL zs i 0) from by
        have h := hO.out
        rwa [show outL zs n i ++ innL zs i 0 = outL zs n i from List.append_nil _])
      have hli : (i : Int) < (n : Int) := by omega
      go_wp2_with fail
      obtain ⟨wo, hwo⟩ : ∃ wo, wr = wo := ⟨_, rfl⟩
      rw [hwo] at hB hO HO0 L3 l0 l1 l2 hX1
      rw [hwo]
      clear hwo wr
      go_loopw [4, 6] (fun tv tk wr => ∃ d : Nat, i + 1 + d ≤ n ∧ tk = .int .i64 ((i + 1 + d : Nat) : Int) ∧ Hid (Below M w2 wr) ∧ Hid (OwnQ wr M tv (outL zs n i ++ innL zs i d))) (fun _ tk _ => n - (intOf tk).toNat)
      case atStart => exact ⟨0, by omega, by simp, hB, HO0⟩
      case round =>
        obtain ⟨d, hd, rfl, hB2, hO2⟩ := hrel
        have L4 := Lib.hid (L2.out.below (by rw [hM]; exact hB2.out))
        clear hB hO HO0 L3 l0 l1 l2 hX1
        have l0 := L4.out.c0
        have l1 := L4.out.c1
        have l2 := L4.out.c2
        have hX1 := L4.out.lt
        obtain ⟨k, hk⟩ : ∃ k, i + 1 + d = k := ⟨_, rfl⟩
        rw [hk]
        rw [hk] at hd
        by_cases hkn : k < n
        · obtain ⟨b1, o1, e1, hC⟩ := (R2.out.below (by rw [hM]; exact hB2.out)).one hlt
          obtain ⟨b2, o2, e2, hD⟩ := (R2.out.below (by rw [hM]; exact hB2.out)).one hkn
          subst e1
          simp only [Option.some.injEq, Addr.mk.injEq, and_true] at e2
          obtain ⟨rfl, rfl⟩ := e2
          obtain ⟨x1, x2, x3, x4, x5, x6, x7, x8⟩ := HIN.out i hlt
          obtain ⟨y1, y2, y3, y4, y5, y6, y7, y8⟩ := HIN.out k hkn
          have HST := Lib.hid (show innL zs i (d + 1) = innL zs i d ++ (if ovB (giI zs i) (giI zs k) = true then [[(i : Int), (k : Int)]] else []) from by rw [← hk]; rfl)
          have HOV := Lib.hid (show ovB (giI zs i) (giI zs k) = (decide ((giI zs i).rw < (giI zs k).rw + boxR (giI zs k)) && (decide ((giI zs k).rw < (giI zs i).rw + boxR (giI zs i)) && (decide ((giI zs i).cl < (giI zs k).cl + boxC (giI zs k)) && decide ((giI zs k).cl < (giI zs i).cl + boxC (giI zs i))))) from rfl)
          have HBX := Lib.hid (fun (V : World) => specItemBox_any (giI zs i) (HTX.out i hlt) V)
          have HBY := Lib.hid (fun (V : World) => specItemBox_any (giI zs k) (HTX.out k hkn) V)
          generalize giI zs i = x at *
          generalize giI zs k = y at *
          have hidl := innL_len zs i d
          have hki : (k : Int) < (n : Int) := by omega
          have HC := Lib.hid hC
          have HD := Lib.hid hD
          clear hC hD
          go_wp2_with fail
          refine wp_region_S (S := (fun w' => Below wr.heap.size wr w')) 14 rfl (by kernel_rfl) ?_ (fun hHeld => ?_)
          · first | (exact (Below.refl _ _).drew) | ((try dsimp only); exact (Below.refl _ _).drew)
          refine wpAnyH_take (i := 0) (oi := _) (v := ?_) rfl (by kernel_rfl) (by kernel_rfl) (by kernel_rfl) (fun _ _ _ h => h) (Or.inl ⟨by kernel_rfl, ?_⟩) hHeld ?_
          rotate_left
          · intro w0 hSw; (try dsimp only at hSw); go_simp; (try with_reducible rfl)
          (try dsimp only [Act.put, List.setIfInBounds_toArray, List.set_cons_zero, List.set_cons_succ])
          refine wpAnyH_take (i := 1) (oi := _) (v := ?_) rfl (by kernel_rfl) (by kernel_rfl) (by kernel_rfl) (fun _ _ _ h => h) (Or.inl ⟨by kernel_rfl, ?_⟩) hHeld ?_
          rotate_left
          · intro w0 hSw; (try dsimp only at hSw); have FF := L4.out.below hSw; have r0 := FF.c0; have r1 := FF.c1; have r2 := FF.c2; go_simp; (try with_reducible rfl)
          (try dsimp only [Act.put, List.setIfInBounds_toArray, List.set_cons_zero, List.set_cons_succ])
          refine wpAnyH_take (i := 2) (oi := _) (v := ?_) rfl (by kernel_rfl) (by kernel_rfl) (by kernel_rfl) (fun _ _ _ h => h) (Or.inl ⟨by kernel_rfl, ?_⟩) hHeld ?_
          rotate_left
          · intro w0 hSw; (try dsimp only at hSw); go_simp; (try with_reducible rfl)
          (try dsimp only [Act.put, List.setIfInBounds_toArray, List.set_cons_zero, List.set_cons_succ])
          refine wpAnyH_take (i := 3) (oi := _) (v := ?_) rfl (by kernel_rfl) (by kernel_rfl) (by kernel_rfl) (fun _ _ _ h => h) (Or.inl ⟨by kernel_rfl, ?_⟩) hHeld ?_
          rotate_left
          · intro w0 hSw; (try dsimp only at hSw); go_simp; (try with_reducible rfl)
          (try dsimp only [Act.put, List.setIfInBounds_toArray, List.set_cons_zero, List.set_cons_succ])
          refine wpAnyH_take (i := 4) (oi := _) (v := ?_) rfl (by kernel_rfl) (by kernel_rfl) (by kernel_rfl) (fun _ _ _ h => h) (Or.inl ⟨by kernel_rfl, ?_⟩) hHeld ?_
          rotate_left
          · intro w0 hSw; (try dsimp only at hSw); have FF := HC.out.below hSw; have r0 := FF.c0; have r1 := FF.c1; have r2 := FF.c2; have r3 := FF.c3; have r4 := FF.c4; have r5 := FF.c5; have r6 := FF.c6; have r7 := FF.c7; have r8 := FF.c8; go_simp; (try with_reducible rfl)
          (try dsimp only [Act.put, List.setIfInBounds_toArray, List.set_cons_zero, List.set_cons_succ])
          refine wpAnyH_take (i := 5) (oi := _) (v := ?_) rfl (by kernel_rfl) (by kernel_rfl) (by kernel_rfl) (fun _ _ _ h => h) (Or.inl ⟨by kernel_rfl, ?_⟩) hHeld ?_
          rotate_left
          · intro w0 hSw; (try dsimp only at hSw); go_simp; (try with_reducible rfl)
          (try dsimp only [Act.put, List.setIfInBounds_toArray, List.set_cons_zero, List.set_cons_succ])
          refine wpAnyH_take (i := 6) (oi := _) (v := ?_) rfl (by kernel_rfl) (by kernel_rfl) (by kernel_rfl) (fun _ _ _ h => h) (Or.inl ⟨by kernel_rfl, ?_⟩) hHeld ?_
          rotate_left
          · intro w0 hSw; (try dsimp only at hSw); have FF := L4.out.below hSw; have r0 := FF.c0; have r1 := FF.c1; have r2 := FF.c2; go_simp; (try with_reducible rfl)
          (try dsimp only [Act.put, List.setIfInBounds_toArray, List.set_cons_zero, List.set_cons_succ])
          refine wpAnyH_take (i := 7) (oi := _) (v := ?_) rfl (by kernel_rfl) (by kernel_rfl) (by kernel_rfl) (fun _ _ _ h => h) (Or.inl ⟨by kernel_rfl, ?_⟩) hHeld ?_
          rotate_left
          · intro w0 hSw; (try dsimp only at hSw); go_simp; (try with_reducible rfl)
          (try dsimp only [Act.put, List.setIfInBounds_toArray, List.set_cons_zero, List.set_cons_succ])
          refine wpAnyH_take (i := 8) (oi := _) (v := ?_) rfl (by kernel_rfl) (by kernel_rfl) (by kernel_rfl) (fun _ _ _ h => h) (Or.inl ⟨by kernel_rfl, ?_⟩) hHeld ?_
          rotate_left
          · intro w0 hSw; (try dsimp only at hSw); go_simp; (try with_reducible rfl)
          (try dsimp only [Act.put, List.setIfInBounds_toArray, List.set_cons_zero, List.set_cons_succ])
          refine wpAnyH_take (i := 9) (oi := _) (v := ?_) rfl (by kernel_rfl) (by kernel_rfl) (by kernel_rfl) (fun _ _ _ h => h) (Or.inl ⟨by kernel_rfl, ?_⟩) hHeld ?_
          rotate_left
          · intro w0 hSw; (try dsimp only at hSw); have FF := HD.out.below hSw; have r0 := FF.c0; have r1 := FF.c1; have r2 := FF.c2; have r3 := FF.c3; have r4 := FF.c4; have r5 := FF.c5; have r6 := FF.c6; have r7 := FF.c7; have r8 := FF.c8; go_simp; (try with_reducible rfl)
          (try dsimp only [Act.put, List.setIfInBounds_toArray, List.set_cons_zero, List.set_cons_succ])
          refine wpAnyH_ready (rs := [10, 11]) (by kernel_rfl) (by simp) ?_
          refine AllReadyH.cons (o := _) rfl (fun K hK => ?_) (AllReadyH.cons (o := _) rfl (fun K hK => ?_) AllReadyH.nil)
          · go_simp
            refine hK.out _ _ ?_ (fun hHeld => ?_)
            · first | (exact hHeld.trans ((below1 _ _).mono hHeld.size)) | ((try dsimp only); exact hHeld.trans ((below1 _ _).mono hHeld.size))
            clear hK K
            (try dsimp only [Act.put, List.setIfInBounds_toArray, List.set_cons_zero, List.set_cons_succ])
            refine wpAnyH_ready (rs := [11]) (by kernel_rfl) (by simp) ?_
            refine AllReadyH.cons (o := _) rfl (fun K hK => ?_) AllReadyH.nil
            go_simp
            refine hK.out _ _ ?_ (fun hHeld => ?_)
            · first | (exact hHeld.trans ((below1 _ _).mono hHeld.size)) | ((try dsimp only); exact hHeld.trans ((below1 _ _).mono hHeld.size))
            clear hK K
            (try dsimp only [Act.put, List.setIfInBounds_toArray, List.set_cons_zero, List.set_cons_succ])
            refine wpAnyH_ready (rs := [12]) (by kernel_rfl) (by simp) ?_
            refine AllReadyH.cons (o := _) rfl (fun K hK => ?_) AllReadyH.nil
            go_simp
            refine hK.out _ _ ?_ (fun hHeld => ?_)
            · first | (exact (((below1 wr _).trans ((below1 (wr.alloc _) _).mono (by simp))).drew)) | ((try dsimp only); exact (((below1 wr _).trans ((below1 (wr.alloc _) _).mono (by simp))).drew))
            clear hK K
            (try dsimp only [Act.put, List.setIfInBounds_toArray, List.set_cons_zero, List.set_cons_succ])
            refine wpAnyH_ready (rs := [13]) (by kernel_rfl) (by simp) ?_
            refine AllReadyH.cons (o := _) rfl (fun K hK => ?_) AllReadyH.nil
            go_simp
            refine hK.out _ _ ?_ (fun hHeld => ?_)
            · first | (exact (((below1 wr _).trans ((below1 (wr.alloc _) _).mono (by simp))).drew)) | ((try dsimp only); exact (((below1 wr _).trans ((below1 (wr.alloc _) _).mono (by simp))).drew))
            clear hK K
            (try dsimp only [Act.put, List.setIfInBounds_toArray, List.set_cons_zero, List.set_cons_succ])
            refine wpAnyH_done (by kernel_rfl) ?_ _
            have bb := ((below1 wr (.cells (itL x).toArray ITy)).trans ((below1 (wr.alloc (.cells (itL x).toArray ITy)) (.cells (itL y).toArray ITy)).mono (by simp))).drew
            have JA := Lib.hid ((Tf.drew ((ItB.new wr x ITy).below (below1 (wr.alloc (.cells (itL x).toArray ITy)) (.cells (itL y).toArray ITy)))))
            have JB := Lib.hid (Tf.drew (ItB.new (wr.alloc (.cells (itL x).toArray ITy)) y ITy))
            rw [show (wr.alloc (.cells (itL x).toArray ITy)).heap.size = wr.heap.size + 1 by simp] at JB
            obtain ⟨W, hW⟩ : ∃ W, ((wr.alloc (.cells (itL x).toArray ITy)).alloc (.cells (itL y).toArray ITy)).drew = W := ⟨_, rfl⟩
            rw [hW] at bb JA JB
            rw [show ((wr.alloc (.cells #[.int .i64 x.kd, .int .i64 x.rw, .int .i64 x.cl, .int .i64 x.sc, .int .i64 x.tl, .int .i64 x.wd, .string (str x.nm), .int .i64 x.lv, .string (str x.tx)] ITy)).alloc (.cells #[.int .i64 y.kd, .int .i64 y.rw, .int .i64 y.cl, .int .i64 y.sc, .int .i64 y.tl, .int .i64 y.wd, .string (str y.nm), .int .i64 y.lv, .string (str y.tx)] ITy)).drew = W from hW]
            clear hW hHeld
            have IX := Lib.hid (show ItB W (wr.heap.size) ITy x from JA.out)
            have IY := Lib.hid (show ItB W (wr.heap.size + 1) ITy y from JB.out)
            have D5 := Lib.hid (hB2.out.trans (bb.mono (by have := hB2.out.size; omega)))
            have O5 := Lib.hid (hO2.out.below bb)
            have L5 := Lib.hid (L2.out.below (by rw [hM]; exact D5.out))
            clear bb JA JB L4 hB2 hO2 l0 l1 l2 hX1 HC HD
            obtain ⟨P, hP⟩ : ∃ P, wr.heap.size = P := ⟨_, rfl⟩
            rw [hP] at IX IY
            go_simp
            (try rw [hP])
            clear hP
            have hXl := IX.out.lt
            have hYl := IY.out.lt
            have i0 := IX.out.c0
            have i1 := IX.out.c1
            have i2 := IX.out.c2
            have i3 := IX.out.c3
            have i4 := IX.out.c4
            have i5 := IX.out.c5
            have i6 := IX.out.c6
            have i7 := IX.out.c7
            have i8 := IX.out.c8
            go_wp2_with fail
            refine (HBX.out _).mono ?_
            rintro e w6 ⟨rfl, hb6⟩
            have IX6 := Lib.hid (IX.out.below hb6)
            have IY6 := Lib.hid (IY.out.below hb6)
            have D6 := Lib.hid (D5.out.trans (hb6.mono (by have := D5.out.size; omega)))
            have O6 := Lib.hid (O5.out.below hb6)
            clear hb6 IX IY D5 O5 L5 i0 i1 i2 i3 i4 i5 i6 i7 i8 hXl hYl
            have hYl := IY6.out.lt
            have j0 := IY6.out.c0
            have j1 := IY6.out.c1
            have j2 := IY6.out.c2
            have j3 := IY6.out.c3
            have j4 := IY6.out.c4
            have j5 := IY6.out.c5
            have j6 := IY6.out.c6
            have j7 := IY6.out.c7
            have j8 := IY6.out.c8
            go_wp2_with fail
            refine (HBY.out _).mono ?_
            rintro e w7 ⟨rfl, hb7⟩
            have IX7 := Lib.hid (IX6.out.below hb7)
            have IY7 := Lib.hid (IY6.out.below hb7)
            have D7 := Lib.hid (D6.out.trans (hb7.mono (by have := D6.out.size; omega)))
            have O7 := Lib.hid (O6.out.below hb7)
            clear hb7 IX6 IY6 D6 O6 j0 j1 j2 j3 j4 j5 j6 j7 j8 hYl
            have hXl := IX7.out.lt
            have hYl := IY7.out.lt
            have i1 := IX7.out.c1
            have i2 := IX7.out.c2
            have j1 := IY7.out.c1
            have j2 := IY7.out.c2
            generalize boxR x = xr at *
            generalize boxC x = xc at *
            generalize boxR y = yr at *
            generalize boxC y = yc at *
            have HSZ := Lib.hid (show (outL zs n i ++ innL zs i d).length ≤ 100000 from by rw [List.length_append]; omega)
            by_cases m0 : x.rw < y.rw + yr
            rotate_left
            · have q0 := decide_eq_false m0
              have hI := HST.out
              rw [HOV.out] at hI
              simp only [q0, Bool.false_and, Bool.and_false, Bool.true_and, Bool.and_true, if_false, if_true, Bool.false_eq_true, List.append_nil] at hI
              have HI2 := Lib.hid (show OwnQ w7 M _ (outL zs n i ++ innL zs i (d + 1)) from by rw [hI]; exact O7.out)
              clear hI
              go_wp2_with fail
              go_roundw
              case rel => exact ⟨d + 1, by omega, by rw [← hk]; go_num, D7, HI2⟩
              case measure => simp [intOf]; omega
            have q0 := decide_eq_true m0
            by_cases m1 : y.rw < x.rw + xr
            rotate_left
            · have q1 := decide_eq_false m1
              have hI := HST.out
              rw [HOV.out] at hI
              simp only [q0, q1, Bool.false_and, Bool.and_false, Bool.true_and, Bool.and_true, if_false, if_true, Bool.false_eq_true, List.append_nil] at hI
              have HI2 := Lib.hid (show OwnQ w7 M _ (outL zs n i ++ innL zs i (d + 1)) from by rw [hI]; exact O7.out)
              clear hI
              go_wp2_with fail
              go_roundw
              case rel => exact ⟨d + 1, by omega, by rw [← hk]; go_num, D7, HI2⟩
              case measure => simp [intOf]; omega
            have q1 := decide_eq_true m1
            by_cases m2 : x.cl < y.cl + yc
            rotate_left
            · have q2 := decide_eq_false m2
              have hI := HST.out
              rw [HOV.out] at hI
              simp only [q0, q1, q2, Bool.false_and, Bool.and_false, Bool.true_and, Bool.and_true, if_false, if_true, Bool.false_eq_true, List.append_nil] at hI
              have HI2 := Lib.hid (show OwnQ w7 M _ (outL zs n i ++ innL zs i (d + 1)) from by rw [hI]; exact O7.out)
              clear hI
              go_wp2_with fail
              go_roundw
              case rel => exact ⟨d + 1, by omega, by rw [← hk]; go_num, D7, HI2⟩
              case measure => simp [intOf]; omega
            have q2 := decide_eq_true m2
            by_cases m3 : y.cl < x.cl + xc
            rotate_left
            · have q3 := decide_eq_false m3
              have hI := HST.out
              rw [HOV.out] at hI
              simp only [q0, q1, q2, q3, Bool.false_and, Bool.and_false, Bool.true_and, Bool.and_true, if_false, if_true, Bool.false_eq_true, List.append_nil] at hI
              have HI2 := Lib.hid (show OwnQ w7 M _ (outL zs n i ++ innL zs i (d + 1)) from by rw [hI]; exact O7.out)
              clear hI
              go_wp2_with fail
              go_roundw
              case rel => exact ⟨d + 1, by omega, by rw [← hk]; go_num, D7, HI2⟩
              case measure => simp [intOf]; omega
            have q3 := decide_eq_true m3
            have hI := HST.out
            rw [HOV.out] at hI
            simp only [q0, q1, q2, q3, Bool.and_true, if_true] at hI
            have HI9 := Lib.hid hI
            have hsz := HSZ.out
            clear hI q0 q1 q2 q3
            go_wp2_with (at_builtin; refine appendQ_pair rfl _ _ _ rfl Tryz.underlying45 O7.out (i : Int) (k : Int) rfl _ _ rfl (by simp) rfl hsz ?_; intro v' w8 hown8 hb8)
            have O8 := Lib.hid (show OwnQ w8 M v' (outL zs n i ++ innL zs i (d + 1)) from by rw [HI9.out, ← List.append_assoc]; exact hown8)
            have D8 := Lib.hid (D7.out.trans hb8)
            clear hown8 hb8
            go_roundw
            case rel => exact ⟨d + 1, by omega, by rw [← hk]; go_num, D8, O8⟩
            case measure => simp [intOf]; omega
          · go_simp
            refine hK.out _ _ ?_ (fun hHeld => ?_)
            · first | (exact hHeld.trans ((below1 _ _).mono hHeld.size)) | ((try dsimp only); exact hHeld.trans ((below1 _ _).mono hHeld.size))
            clear hK K
            (try dsimp only [Act.put, List.setIfInBounds_toArray, List.set_cons_zero, List.set_cons_succ])
            refine wpAnyH_ready (rs := [10]) (by kernel_rfl) (by simp) ?_
            refine AllReadyH.cons (o := _) rfl (fun K hK => ?_) AllReadyH.nil
            go_simp
            refine hK.out _ _ ?_ (fun hHeld => ?_)
            · first | (exact hHeld.trans ((below1 _ _).mono hHeld.size)) | ((try dsimp only); exact hHeld.trans ((below1 _ _).mono hHeld.size))
            clear hK K
            (try dsimp only [Act.put, List.setIfInBounds_toArray, List.set_cons_zero, List.set_cons_succ])
            refine wpAnyH_ready (rs := [12]) (by kernel_rfl) (by simp) ?_
            refine AllReadyH.cons (o := _) rfl (fun K hK => ?_) AllReadyH.nil
            go_simp
            refine hK.out _ _ ?_ (fun hHeld => ?_)
            · first | (exact (((below1 wr _).trans ((below1 (wr.alloc _) _).mono (by simp))).drew)) | ((try dsimp only); exact (((below1 wr _).trans ((below1 (wr.alloc _) _).mono (by simp))).drew))
            clear hK K
            (try dsimp only [Act.put, List.setIfInBounds_toArray, List.set_cons_zero, List.set_cons_succ])
            refine wpAnyH_ready (rs := [13]) (by kernel_rfl) (by simp) ?_
            refine AllReadyH.cons (o := _) rfl (fun K hK => ?_) AllReadyH.nil
            go_simp
            refine hK.out _ _ ?_ (fun hHeld => ?_)
            · first | (exact (((below1 wr _).trans ((below1 (wr.alloc _) _).mono (by simp))).drew)) | ((try dsimp only); exact (((below1 wr _).trans ((below1 (wr.alloc _) _).mono (by simp))).drew))
            clear hK K
            (try dsimp only [Act.put, List.setIfInBounds_toArray, List.set_cons_zero, List.set_cons_succ])
            refine wpAnyH_done (by kernel_rfl) ?_ _
            have bb := ((below1 wr (.cells (itL y).toArray ITy)).trans ((below1 (wr.alloc (.cells (itL y).toArray ITy)) (.cells (itL x).toArray ITy)).mono (by simp))).drew
            have JA := Lib.hid ((Tf.drew ((ItB.new wr y ITy).below (below1 (wr.alloc (.cells (itL y).toArray ITy)) (.cells (itL x).toArray ITy)))))
            have JB := Lib.hid (Tf.drew (ItB.new (wr.alloc (.cells (itL y).toArray ITy)) x ITy))
            rw [show (wr.alloc (.cells (itL y).toArray ITy)).heap.size = wr.heap.size + 1 by simp] at JB
            obtain ⟨W, hW⟩ : ∃ W, ((wr.alloc (.cells (itL y).toArray ITy)).alloc (.cells (itL x).toArray ITy)).drew = W := ⟨_, rfl⟩
            rw [hW] at bb JA JB
            rw [show ((wr.alloc (.cells #[.int .i64 y.kd, .int .i64 y.rw, .int .i64 y.cl, .int .i64 y.sc, .int .i64 y.tl, .int .i64 y.wd, .string (str y.nm), .int .i64 y.lv, .string (str y.tx)] ITy)).alloc (.cells #[.int .i64 x.kd, .int .i64 x.rw, .int .i64 x.cl, .int .i64 x.sc, .int .i64 x.tl, .int .i64 x.wd, .string (str x.nm), .int .i64 x.lv, .string (str x.tx)] ITy)).drew = W from hW]
            clear hW hHeld
            have IX := Lib.hid (show ItB W (wr.heap.size + 1) ITy x from JB.out)
            have IY := Lib.hid (show ItB W (wr.heap.size) ITy y from JA.out)
            have D5 := Lib.hid (hB2.out.trans (bb.mono (by have := hB2.out.size; omega)))
            have O5 := Lib.hid (hO2.out.below bb)
            have L5 := Lib.hid (L2.out.below (by rw [hM]; exact D5.out))
            clear bb JA JB L4 hB2 hO2 l0 l1 l2 hX1 HC HD
            obtain ⟨P, hP⟩ : ∃ P, wr.heap.size = P := ⟨_, rfl⟩
            rw [hP] at IX IY
            go_simp
            (try rw [hP])
            clear hP
            have hXl := IX.out.lt
            have hYl := IY.out.lt
            have i0 := IX.out.c0
            have i1 := IX.out.c1
            have i2 := IX.out.c2
            have i3 := IX.out.c3
            have i4 := IX.out.c4
            have i5 := IX.out.c5
            have i6 := IX.out.c6
            have i7 := IX.out.c7
            have i8 := IX.out.c8
            go_wp2_with fail
            refine (HBX.out _).mono ?_
            rintro e w6 ⟨rfl, hb6⟩
            have IX6 := Lib.hid (IX.out.below hb6)
            have IY6 := Lib.hid (IY.out.below hb6)
            have D6 := Lib.hid (D5.out.trans (hb6.mono (by have := D5.out.size; omega)))
            have O6 := Lib.hid (O5.out.below hb6)
            clear hb6 IX IY D5 O5 L5 i0 i1 i2 i3 i4 i5 i6 i7 i8 hXl hYl
            have hYl := IY6.out.lt
            have j0 := IY6.out.c0
            have j1 := IY6.out.c1
            have j2 := IY6.out.c2
            have j3 := IY6.out.c3
            have j4 := IY6.out.c4
            have j5 := IY6.out.c5
            have j6 := IY6.out.c6
            have j7 := IY6.out.c7
            have j8 := IY6.out.c8
            go_wp2_with fail
            refine (HBY.out _).mono ?_
            rintro e w7 ⟨rfl, hb7⟩
            have IX7 := Lib.hid (IX6.out.below hb7)
            have IY7 := Lib.hid (IY6.out.below hb7)
            have D7 := Lib.hid (D6.out.trans (hb7.mono (by have := D6.out.size; omega)))
            have O7 := Lib.hid (O6.out.below hb7)
            clear hb7 IX6 IY6 D6 O6 j0 j1 j2 j3 j4 j5 j6 j7 j8 hYl
            have hXl := IX7.out.lt
            have hYl := IY7.out.lt
            have i1 := IX7.out.c1
            have i2 := IX7.out.c2
            have j1 := IY7.out.c1
            have j2 := IY7.out.c2
            generalize boxR x = xr at *
            generalize boxC x = xc at *
            generalize boxR y = yr at *
            generalize boxC y = yc at *
            have HSZ := Lib.hid (show (outL zs n i ++ innL zs i d).length ≤ 100000 from by rw [List.length_append]; omega)
            by_cases m0 : x.rw < y.rw + yr
            rotate_left
            · have q0 := decide_eq_false m0
              have hI := HST.out
              rw [HOV.out] at hI
              simp only [q0, Bool.false_and, Bool.and_false, Bool.true_and, Bool.and_true, if_false, if_true, Bool.false_eq_true, List.append_nil] at hI
              have HI2 := Lib.hid (show OwnQ w7 M _ (outL zs n i ++ innL zs i (d + 1)) from by rw [hI]; exact O7.out)
              clear hI
              go_wp2_with fail
              go_roundw
              case rel => exact ⟨d + 1, by omega, by rw [← hk]; go_num, D7, HI2⟩
              case measure => simp [intOf]; omega
            have q0 := decide_eq_true m0
            by_cases m1 : y.rw < x.rw + xr
            rotate_left
            · have q1 := decide_eq_false m1
              have hI := HST.out
              rw [HOV.out] at hI
              simp only [q0, q1, Bool.false_and, Bool.and_false, Bool.true_and, Bool.and_true, if_false, if_true, Bool.false_eq_true, List.append_nil] at hI
              have HI2 := Lib.hid (show OwnQ w7 M _ (outL zs n i ++ innL zs i (d + 1)) from by rw [hI]; exact O7.out)
              clear hI
              go_wp2_with fail
              go_roundw
              case rel => exact ⟨d + 1, by omega, by rw [← hk]; go_num, D7, HI2⟩
              case measure => simp [intOf]; omega
            have q1 := decide_eq_true m1
            by_cases m2 : x.cl < y.cl + yc
            rotate_left
            · have q2 := decide_eq_false m2
              have hI := HST.out
              rw [HOV.out] at hI
              simp only [q0, q1, q2, Bool.false_and, Bool.and_false, Bool.true_and, Bool.and_true, if_false, if_true, Bool.false_eq_true, List.append_nil] at hI
              have HI2 := Lib.hid (show OwnQ w7 M _ (outL zs n i ++ innL zs i (d + 1)) from by rw [hI]; exact O7.out)
              clear hI
              go_wp2_with fail
              go_roundw
              case rel => exact ⟨d + 1, by omega, by rw [← hk]; go_num, D7, HI2⟩
              case measure => simp [intOf]; omega
            have q2 := decide_eq_true m2
            by_cases m3 : y.cl < x.cl + xc
            rotate_left
            · have q3 := decide_eq_false m3
              have hI := HST.out
              rw [HOV.out] at hI
              simp only [q0, q1, q2, q3, Bool.false_and, Bool.and_false, Bool.true_and, Bool.and_true, if_false, if_true, Bool.false_eq_true, List.append_nil] at hI
              have HI2 := Lib.hid (show OwnQ w7 M _ (outL zs n i ++ innL zs i (d + 1)) from by rw [hI]; exact O7.out)
              clear hI
              go_wp2_with fail
              go_roundw
              case rel => exact ⟨d + 1, by omega, by rw [← hk]; go_num, D7, HI2⟩
              case measure => simp [intOf]; omega
            have q3 := decide_eq_true m3
            have hI := HST.out
            rw [HOV.out] at hI
            simp only [q0, q1, q2, q3, Bool.and_true, if_true] at hI
            have HI9 := Lib.hid hI
            have hsz := HSZ.out
            clear hI q0 q1 q2 q3
            go_wp2_with (at_builtin; refine appendQ_pair rfl _ _ _ rfl Tryz.underlying45 O7.out (i : Int) (k : Int) rfl _ _ rfl (by simp) rfl hsz ?_; intro v' w8 hown8 hb8)
            have O8 := Lib.hid (show OwnQ w8 M v' (outL zs n i ++ innL zs i (d + 1)) from by rw [HI9.out, ← List.append_assoc]; exact hown8)
            have D8 := Lib.hid (D7.out.trans hb8)
            clear hown8 hb8
            go_roundw
            case rel => exact ⟨d + 1, by omega, by rw [← hk]; go_num, D8, O8⟩
            case measure => simp [intOf]; omega
        · have hkn2 : k = n := by omega
          have hdn : d = n - (i + 1) := by omega
          have O9 := Lib.hid (show OwnQ wr M _ (outL zs n (i + 1)) from by rw [HOS.out, ← hdn]; exact hO2.out)
          have hki : ¬ (k : Int) < (n : Int) := by omega
          clear hdn hkn2
          go_wp2_with fail
          go_roundw
          case rel => exact ⟨i + 1, by omega, by go_num, hB2, O9⟩
          case measure => simp [intOf]; omega
    · obtain rfl : i = n := by omega
      have B9 := Lib.hid (B2.out.trans (hB.out.mono hMw))
      have O9 := Lib.hid (hO.out.lower hMw)
      go_wp2_with fail
      go_ret2
      exact ⟨⟨_, by rw [HV.out]; rfl, by rw [HU.out]; first | exact O9.out | (rw [hX]; exact O9.out)⟩, hX ▸ B9.out⟩
end Go.Proofs.YtdcmebegnekkcaaGreat
/-
  Items that overlap, in the program.
-/
namespace Go.Proofs.YtdcmebegnekkcaaGreat
open Go.RowKit
set_option linter.unusedVariables false

theorem bxC_at (zs : List It) : ∀ i j, i < zs.length → j < 4 → (bxC zs)[i * 4 + j]? = (bxl (giI zs i))[j]? := by
  induction zs with
  | nil => intro i j h; simp at h
  | cons x zs ih =>
    intro i j hi hj
    have e : bxC (x :: zs) = bxl x ++ bxC zs := rfl
    have hl : (bxl x).length = 4 := rfl
    rw [e]
    cases i with
    | zero =>
      rw [List.getElem?_append_left (by rw [hl]; omega), Nat.zero_mul, Nat.zero_add]
      rfl
    | succ i =>
      rw [List.getElem?_append_right (by rw [hl]; omega), hl, show (i + 1) * 4 + j - 4 = i * 4 + j by omega, ih i j (by simpa using hi) hj]
      rfl
/-- The cells of one box. -/
structure BxA (w : World) (g o : Nat) (x : It) : Prop where
  lt : g < w.heap.size
  c0 : w.cell? ⟨g, o, none⟩ = some (.int .i64 x.rw)
  c1 : w.cell? ⟨g, o + 1, none⟩ = some (.int .i64 x.cl)
  c2 : w.cell? ⟨g, o + 2, none⟩ = some (.int .i64 (boxR x))
  c3 : w.cell? ⟨g, o + 3, none⟩ = some (.int .i64 (boxC x))
theorem OwnX.one {w : World} {B n cap : Nat} {a : Option Addr} {zs : List It} (h : OwnX w B (.slice a n cap) zs) {i : Nat} (hi : i < zs.length) : ∃ g off, a = some ⟨g, off, none⟩ ∧ BxA w g (off + i * 4) (giI zs i) := by
  rcases h.2.2 with ⟨e, h0⟩ | ⟨g, cp, cur, e, hg, hh, hc, r⟩
  · omega
  · simp only [Value.slice.injEq] at e
    obtain ⟨rfl, rfl, rfl⟩ := e
    refine ⟨g, 0, rfl, ?_⟩
    have key : ∀ j, j < 4 → w.cell? ⟨g, i * 4 + j, none⟩ = (bxl (giI zs i))[j]? := fun j hj => by
      rw [h.2.cellAt (i * 4 + j) (by omega), bxC_at zs i j hi hj]
    rw [Nat.zero_add]
    exact ⟨lt_of_heap hh, key 0 (by omega), key 1 (by omega), key 2 (by omega), key 3 (by omega)⟩
/-- A box in a block of its own. -/
def BxB (w : World) (X : Nat) (r c p q : Int) : Prop := Tf w X 4 BxT (fun i => (#[Value.int .i64 r, .int .i64 c, .int .i64 p, .int .i64 q] : Array Value)[i]!)
section
variable {w w' : World} {X : Nat} {r c p q : Int}
theorem BxB.new (w : World) (r c p q : Int) : BxB (w.alloc (.cells #[.int .i64 r, .int .i64 c, .int .i64 p, .int .i64 q] BxT)) w.heap.size r c p q := Tf.mkd w #[.int .i64 r, .int .i64 c, .int .i64 p, .int .i64 q] BxT
theorem BxB.lt (h : BxB w X r c p q) : X < w.heap.size := Tf.lt h
theorem BxB.below (h : BxB w X r c p q) (hb : Below w.heap.size w w') : BxB w' X r c p q := Tf.below h hb (Tf.lt h)
theorem BxB.keep (h : BxB w X r c p q) (e : w'.heap[X]? = w.heap[X]?) : BxB w' X r c p q := by obtain ⟨cs, h1, h2⟩ := h; exact ⟨cs, e.trans h1, h2⟩
theorem BxB.c0 (h : BxB w X r c p q) : w.cell? ⟨X, 0, none⟩ = some (.int .i64 r) := Tf.cell h (i := 0) (by omega)
theorem BxB.c1 (h : BxB w X r c p q) : w.cell? ⟨X, 1, none⟩ = some (.int .i64 c) := Tf.cell h (i := 1) (by omega)
theorem BxB.c2 (h : BxB w X r c p q) : w.cell? ⟨X, 2, none⟩ = some (.int .i64 p) := Tf.cell h (i := 2) (by omega)
theorem BxB.c3 (h : BxB w X r c p q) : w.cell? ⟨X, 3, none⟩ = some (.int .i64 q) := Tf.cell h (i := 3) (by omega)
end
theorem OwnQ.vlt {w : World} {B : Nat} {v : Value} {LL : List (List Int)} (h : OwnQ w B v LL) {q : Nat} (e : v.ownBlock = some q) : q < w.heap.size := by
  obtain ⟨G, cp, h⟩ := h; exact (h.top.lt _ e).2
theorem appendQ_pair2 {wr : World} {ops : Array Oper} {rest : List Oper} {o : Oper} {a : Act} {Q : Exit → Act → World → Prop} (hgd : o.guard = none) (s x : Operand) (t : TypeId)
    (ho : o.op = .call { callee := .builtin .append, args := #[s, x], argTypes := #[t, t] }) (ht : Tryz.prog.underlying t = some (.slice 25))
    {B : Nat} {v : Value} {LL : List (List Int)} (h : OwnQ wr B v LL) (y z : Int) (hs : a.eval s = v) (b1 b : Nat) (hb1 : b1 = wr.heap.size) (hb : b = wr.heap.size + 1) (hx : a.eval x = .slice (some ⟨b, 0, none⟩) 1 1) (hn : LL.length ≤ 100000)
    (K : ∀ v' w', OwnQ w' B v' (LL ++ [[y, z]]) → Below B wr w' → (∀ q, q < wr.heap.size → v.ownBlock ≠ some q → w'.heap[q]? = wr.heap[q]? ∧ v'.ownBlock ≠ some q) → wpList Tryz.prog ops Q rest (a.put o.dst v') w') :
    wpList Tryz.prog ops Q (o :: rest) a ((wr.alloc (.cells #[.int .i64 y, .int .i64 z] 2)).alloc (.cells #[.slice (some ⟨b1, 0, none⟩) 2 2] 25)) := by
  obtain ⟨G, cp, h⟩ := h
  subst hb1 hb
  obtain ⟨W0, hW0⟩ : ∃ W0, wr.alloc (.cells #[.int .i64 y, .int .i64 z] 2) = W0 := ⟨_, rfl⟩
  have hrow : OwnL (wr.alloc (.cells #[.int .i64 y, .int .i64 z] 2)) B (.slice (some ⟨wr.heap.size, 0, none⟩) [y, z].length 2) [y, z] := OwnL.lit wr B h.size [y, z] (by simp)
  have hgv : v.ownBlock ≠ some wr.heap.size := fun e => by have := (h.top.lt _ e).2; omega
  have hgj : ∀ j, j < LL.length → G j ≠ wr.heap.size := fun j hj e => by have := (h.rlt hj).2; omega
  have hW : W0.heap.size = wr.heap.size + 1 := by rw [← hW0]; simp
  have h0 := h.below (below1 wr (.cells #[.int .i64 y, .int .i64 z] 2))
  have hbl := below1 wr (.cells #[.int .i64 y, .int .i64 z] 2)
  rw [hW0] at hrow h0 hbl ⊢
  rw [← hW] at hx
  obtain ⟨i0, hi, hz0, hz1, hz2⟩ := info_parts info_row
  refine wpList_append_own_at _ hgd s x t ho B 25 i0 (.slice none 0 0) 1 24 ht hi hz0 hz1 hz2 rfl (by decide) v LL.length (slots LL.length LL.length G cp (fun j => LL.getD j [])) hs (h0.top.alloc _) ⟨W0.heap.size, 0, none⟩ 1 1 [.slice (some ⟨wr.heap.size, 0, none⟩) [y, z].length 2] hx rfl ?_ ?_ (by unfold maxLen; omega) (by omega) (by have := h0.size; simp; omega) ?_
  · intro j u hj
    match j, hj with
    | 0, hj => simp at hj; subst hj; simp [Addr.add, go_sem]
  · intro u hu; simp at hu; subst hu; rfl
  · intro v' w' h1 hg _ hat
    obtain ⟨G', cp', hr⟩ : ∃ G' cp', Rag w' B v' (LL.length + 1) (LL.length + 1) G' cp' (fun t => if t = LL.length then [y, z] else LL.getD t []) := ⟨_, _, rag_push h0 hrow hgv hgj h1 hg hat⟩
    have hb2 := append_below h0.size hg (fun k hk => (h0.top.lt k hk).1)
    refine K v' w' ⟨G', cp', ?_⟩ (((Below.refl B wr).alloc h.size _).trans (by rw [hW0]; exact hb2)) (fun q hq hne => ⟨?_, fun e => ?_⟩)
    · have e : (LL ++ [[y, z]]).length = LL.length + 1 := by simp
      rw [e]
      refine hr.congr fun j hj => ?_
      by_cases hj2 : j = LL.length
      · subst hj2
        simp [List.getD_eq_getElem?_getD]
      · rw [if_neg hj2, List.getD_eq_getElem?_getD, List.getD_eq_getElem?_getD, List.getElem?_append_left (by omega)]
    · rw [hg.block q (by simp; omega) (fun e => hne e.symm)]
      exact ((below1 W0 _).block q (by omega)).trans (hbl.block q hq)
    · rcases hat with h2 | h2
      · exact hne (h2.symm.trans e)
      · rw [h2] at e; simp at e; omega
set_option maxHeartbeats 16000000 in
set_option maxRecDepth 100000 in
theorem implOverlap_any {w : World} {a : Option Addr} {n cap : Nat} {zs : List It} (R C : Int) (hr : ItsAt w a n zs) (htx : ∀ i, i < n → (giI zs i).tx.length ≤ 1048576) :
    Calls Tryz.prog 21 #[lbV R C (.slice a n cap)] w fun e w' => (∃ v, e = .returned (.tuple #[v, .int .i64 (ovC R C zs)]) ∧ OwnQ w' w.heap.size v (ovR R C zs)) ∧ Below w.heap.size w w' := by
  have L0 := Lib.hid (LbB.new w R C (.slice a n cap) LbT)
  have B0 := Lib.hid (below1 w (.cells #[.int .i64 R, .int .i64 C, .slice a n cap] LbT))
  have HR := Lib.hid (hr.below (below1 w (.cells #[.int .i64 R, .int .i64 C, .slice a n cap] LbT)))
  have HTX := Lib.hid htx
  have HLN := Lib.hid hr.len
  have hsm := hr.small
  have HU := Lib.hid (show ovR R C zs = if labB R C zs = true then outL zs zs.length zs.length else [] from rfl)
  have HV := Lib.hid (show ovC R C zs = if labB R C zs = true then 0 else 1 from rfl)
  have HLI := Lib.hid (fun h => lab_in (R := R) (C := C) (zs := zs) h)
  clear hr htx
  go_enter Tryz.func21, Tryz.ntmps21
  obtain ⟨X, hX⟩ : ∃ X, w.heap.size = X := ⟨_, rfl⟩
  obtain ⟨w1, hw1⟩ : ∃ w1, w.alloc (.cells #[.int .i64 R, .int .i64 C, .slice a n cap] LbT) = w1 := ⟨_, rfl⟩
  rw [hw1] at L0 B0 HR
  rw [hX] at L0
  have l0 := L0.out.c0
  have l1 := L0.out.c1
  have l2 := L0.out.c2
  have hX1 := L0.out.lt
  go_wp2_with fail
  (try rw [show w.alloc (.cells #[.int .i64 R, .int .i64 C, .slice a n cap] LbT) = w1 from hw1])
  clear hw1
  refine (boxes_any R C HR.out HTX.out).mono ?_
  rintro e w2 ⟨⟨v, rfl, hv⟩, hb2⟩
  have B2 := Lib.hid (B0.out.trans (hb2.mono B0.out.size))
  clear hb2 L0 HR l0 l1 l2 hX1
  have HV1 := Lib.hid hv
  clear hv
  cases hl : labB R C zs with
  | false =>
    rw [hl, if_neg (by simp)] at HU
    rw [hl, if_neg (by simp)] at HV
    clear hl HV1
    have HQ := Lib.hid (OwnQ.nil w2)
    go_wp2_with fail
    go_ret2
    exact ⟨⟨_, by rw [HV.out]; rfl, by rw [HU.out]; exact HQ.out.lower B2.out.size⟩, hX ▸ B2.out⟩
  | true =>
  obtain ⟨hn12, hin⟩ := HLI.out hl
  have HOX := Lib.hid (HV1.out hl)
  obtain ⟨ax, cx, rfl⟩ := HOX.out.slice
  clear HV1
  rw [hl, if_pos rfl] at HU
  rw [hl, if_pos rfl] at HV
  clear hl
  rw [HLN.out] at hn12 hin HU HOX
  rw [HLN.out]
  have HIN := Lib.hid hin
  clear hin
  have O2 := Lib.hid (OwnQ.empty w2)
  have C2 := Lib.hid (below1 w2 (.cells #[] 25))
  obtain ⟨M, hM⟩ : ∃ M, w2.heap.size = M := ⟨_, rfl⟩
  rw [hM] at O2 C2
  have hMw : w.heap.size ≤ M := by rw [← hM]; exact B2.out.size
  go_wp2_with fail
  go_loopw [6, 21] (fun tv ti wr => ∃ i : Nat, i ≤ n ∧ ti = .int .i64 (i : Int) ∧ Hid (Below M w2 wr) ∧ Hid (OwnQ wr M tv (outL zs n i))) (fun _ ti _ => n - (intOf ti).toNat)
  case atStart => exact ⟨0, by omega, rfl, C2, O2⟩
  case round =>
    obtain ⟨i, hi, rfl, hB, hO⟩ := hrel
    clear O2 C2
    by_cases hlt : i < n
    · have HOS := Lib.hid (show outL zs n (i + 1) = outL zs n i ++ innL zs i (n - (i + 1)) from rfl)
      have hol := outL_len zs n i
      have hol2 : (outL zs n i).length ≤ 144 := Nat.le_trans hol (Nat.mul_le_mul (show i ≤ 12 by omega) hn12)
      clear hol
      have hli : (i : Int) < (n : Int) := by omega
      obtain ⟨g, off, e1, hC⟩ := (HOX.out.below (by rw [hM]; exact hB.out)).one (i := i) (by rw [HLN.out]; exact hlt)
      subst e1
      obtain ⟨x1, x2, x3, x4, x5, x6, x7, x8⟩ := HIN.out i hlt
      obtain ⟨x, hx⟩ : ∃ x, giI zs i = x := ⟨_, rfl⟩
      rw [hx] at hC x1 x2 x3 x4 x5 x6 x7 x8
      obtain ⟨xr, hxr⟩ : ∃ xr, boxR x = xr := ⟨_, rfl⟩
      obtain ⟨xc, hxc⟩ : ∃ xc, boxC x = xc := ⟨_, rfl⟩
      have c0 := hC.c0
      have c1 := hC.c1
      have c2 := hC.c2
      have c3 := hC.c3
      have hg := hC.lt
      rw [hxr] at c2 x5 x6
      rw [hxc] at c3 x7 x8
      clear hC
      have HX3 := Lib.hid (show giI zs i = x ∧ boxR x = xr ∧ boxC x = xc from ⟨hx, hxr, hxc⟩)
      clear hx hxr hxc
      obtain ⟨xa, hxa⟩ : ∃ xa, x.rw = xa := ⟨_, rfl⟩
      obtain ⟨xb, hxb⟩ : ∃ xb, x.cl = xb := ⟨_, rfl⟩
      rw [hxa] at c0 x1 x2
      rw [hxb] at c1 x3 x4
      have HX4 := Lib.hid (show x.rw = xa ∧ x.cl = xb from ⟨hxa, hxb⟩)
      clear hxa hxb
      have b3 := below1 wr (.cells #[.int .i64 xa, .int .i64 xb, .int .i64 xr, .int .i64 xc] BxT)
      have J0 := Lib.hid (BxB.new wr xa xb xr xc)
      have HN0 := Lib.hid (show Value.ownBlock _ ≠ some wr.heap.size from fun e => by have := hO.out.vlt e; omega)
      have hB1 := Lib.hid (hB.out.trans (b3.mono (by rw [← hM]; exact hB.out.size)))
      have HO0 := Lib.hid (show OwnQ (wr.alloc (.cells #[.int .i64 xa, .int .i64 xb, .int .i64 xr, .int .i64 xc] BxT)) M _ (outL zs n i ++ innL zs i 0) from by
        have h := hO.out.below b3
        rwa [show outL zs n i ++ innL zs i 0 = outL zs n i from List.append_nil _])
      clear b3
      go_upto_region 8 with (fail)
      obtain ⟨wo, hwo⟩ : ∃ wo, wr.alloc (.cells #[.int .i64 xa, .int .i64 xb, .int .i64 xr, .int .i64 xc] BxT) = wo := ⟨_, rfl⟩
      rw [hwo] at hB1 HO0 J0
      (try rw [hwo])
      clear hwo hB hO c0 c1 c2 c3 hg
      obtain ⟨Q, hQ⟩ : ∃ Q, wr.heap.size = Q := ⟨_, rfl⟩
      rw [hQ] at J0 HN0
      (try rw [hQ])
      clear hQ wr
      go_wp2_with fail
      go_loopw [6, 9] (fun tv tk wr => ∃ d : Nat, i + 1 + d ≤ n ∧ tk = .int .i64 ((i + 1 + d : Nat) : Int) ∧ Hid (Below M w2 wr) ∧ Hid (OwnQ wr M tv (outL zs n i ++ innL zs i d)) ∧ Hid (BxB wr Q xa xb xr xc) ∧ Hid (tv.ownBlock ≠ some Q)) (fun _ tk _ => n - (intOf tk).toNat)
      case atStart => exact ⟨0, by omega, by simp, hB1, HO0, J0, HN0⟩
      case round =>
        obtain ⟨d, hd, rfl, hB2, hO2, hJ, hN⟩ := hrel
        clear hB1 HO0 J0 HN0
        have j0 := hJ.out.c0
        have j1 := hJ.out.c1
        have j2 := hJ.out.c2
        have j3 := hJ.out.c3
        have hQl := hJ.out.lt
        obtain ⟨k, hk⟩ : ∃ k, i + 1 + d = k := ⟨_, rfl⟩
        rw [hk]
        rw [hk] at hd
        by_cases hkn : k < n
        · obtain ⟨g2, off2, e2, hC⟩ := (HOX.out.below (by rw [hM]; exact hB2.out)).one (i := k) (by rw [HLN.out]; exact hkn)
          simp only [Option.some.injEq, Addr.mk.injEq, and_true] at e2
          obtain ⟨rfl, rfl⟩ := e2
          obtain ⟨y1, y2, y3, y4, y5, y6, y7, y8⟩ := HIN.out k hkn
          have HST := Lib.hid (show innL zs i (d + 1) = innL zs i d ++ (if ovB x (giI zs k) = true then [[(i : Int), (k : Int)]] else []) from by rw [← hk, ← HX3.out.1]; rfl)
          have HOV := Lib.hid (show ovB x (giI zs k) = (decide (xa < (giI zs k).rw + boxR (giI zs k)) && (decide ((giI zs k).rw < xa + xr) && (decide (xb < (giI zs k).cl + boxC (giI zs k)) && decide ((giI zs k).cl < xb + xc)))) from by
            rw [← HX3.out.2.1, ← HX3.out.2.2, ← HX4.out.1, ← HX4.out.2]; rfl)
          have hidl := innL_len zs i d
          have HSZ := Lib.hid (show (outL zs n i ++ innL zs i d).length ≤ 100000 from by rw [List.length_append]; omega)
          generalize giI zs k = y at *
          have hki : (k : Int) < (n : Int) := by omega
          have c0 := hC.c0
          have c1 := hC.c1
          have c2 := hC.c2
          have c3 := hC.c3
          have hg := hC.lt
          clear hC
          generalize boxR y = yr at *
          generalize boxC y = yc at *
          generalize ovB x y = ov at *
          generalize y.rw = ya at *
          generalize y.cl = yb at *
          have b3 := below1 wr (.cells #[.int .i64 ya, .int .i64 yb, .int .i64 yr, .int .i64 yc] BxT)
          have K3 := Lib.hid (BxB.new wr ya yb yr yc)
          have J3 := Lib.hid (hJ.out.below b3)
          have D3 := Lib.hid (hB2.out.trans (b3.mono (by rw [← hM]; exact hB2.out.size)))
          have O3 := Lib.hid (hO2.out.below b3)
          clear b3
          go_upto_region 12 with (fail)
          obtain ⟨W, hW⟩ : ∃ W, wr.alloc (.cells #[.int .i64 ya, .int .i64 yb, .int .i64 yr, .int .i64 yc] BxT) = W := ⟨_, rfl⟩
          rw [hW] at K3 J3 D3 O3
          (try rw [hW])
          clear hW hB2 hO2 hJ c0 c1 c2 c3 hg j0 j1 j2 j3 hQl
          obtain ⟨V, hV⟩ : ∃ V, wr.heap.size = V := ⟨_, rfl⟩
          rw [hV] at K3
          (try rw [hV])
          clear hV wr
          have i0 := J3.out.c0
          have i1 := J3.out.c1
          have i2 := J3.out.c2
          have i3 := J3.out.c3
          have hQl := J3.out.lt
          have k0 := K3.out.c0
          have k1 := K3.out.c1
          have k2 := K3.out.c2
          have k3 := K3.out.c3
          have hVl := K3.out.lt
          by_cases m0 : xa < ya + yr
          rotate_left
          · have q0 := decide_eq_false m0
            have hI := HST.out
            rw [HOV.out] at hI
            simp only [q0, Bool.false_and, Bool.and_false, Bool.true_and, Bool.and_true, if_false, if_true, Bool.false_eq_true, List.append_nil] at hI
            have HI2 := Lib.hid (show OwnQ W M _ (outL zs n i ++ innL zs i (d + 1)) from by rw [hI]; exact O3.out)
            clear hI
            go_wp2_with fail
            go_roundw
            case rel => exact ⟨d + 1, by omega, by rw [← hk]; go_num, D3, HI2, J3, hN⟩
            case measure => simp [intOf]; omega
          have q0 := decide_eq_true m0
          by_cases m1 : ya < xa + xr
          rotate_left
          · have q1 := decide_eq_false m1
            have hI := HST.out
            rw [HOV.out] at hI
            simp only [q0, q1, Bool.false_and, Bool.and_false, Bool.true_and, Bool.and_true, if_false, if_true, Bool.false_eq_true, List.append_nil] at hI
            have HI2 := Lib.hid (show OwnQ W M _ (outL zs n i ++ innL zs i (d + 1)) from by rw [hI]; exact O3.out)
            clear hI
            go_wp2_with fail
            go_roundw
            case rel => exact ⟨d + 1, by omega, by rw [← hk]; go_num, D3, HI2, J3, hN⟩
            case measure => simp [intOf]; omega
          have q1 := decide_eq_true m1
          by_cases m2 : xb < yb + yc
          rotate_left
          · have q2 := decide_eq_false m2
            have hI := HST.out
            rw [HOV.out] at hI
            simp only [q0, q1, q2, Bool.false_and, Bool.and_false, Bool.true_and, Bool.and_true, if_false, if_true, Bool.false_eq_true, List.append_nil] at hI
            have HI2 := Lib.hid (show OwnQ W M _ (outL zs n i ++ innL zs i (d + 1)) from by rw [hI]; exact O3.out)
            clear hI
            go_wp2_with fail
            go_roundw
            case rel => exact ⟨d + 1, by omega, by rw [← hk]; go_num, D3, HI2, J3, hN⟩
            case measure => simp [intOf]; omega
          have q2 := decide_eq_true m2
          by_cases m3 : yb < xb + xc
          rotate_left
          · have q3 := decide_eq_false m3
            have hI := HST.out
            rw [HOV.out] at hI
            simp only [q0, q1, q2, q3, Bool.false_and, Bool.and_false, Bool.true_and, Bool.and_true, if_false, if_true, Bool.false_eq_true, List.append_nil] at hI
            have HI2 := Lib.hid (show OwnQ W M _ (outL zs n i ++ innL zs i (d + 1)) from by rw [hI]; exact O3.out)
            clear hI
            go_wp2_with fail
            go_roundw
            case rel => exact ⟨d + 1, by omega, by rw [← hk]; go_num, D3, HI2, J3, hN⟩
            case measure => simp [intOf]; omega
          have q3 := decide_eq_true m3
          have hI := HST.out
          rw [HOV.out] at hI
          simp only [q0, q1, q2, q3, Bool.and_true, if_true] at hI
          have HI9 := Lib.hid hI
          have hsz := HSZ.out
          clear hI q0 q1 q2 q3
          go_wp2_with (at_builtin; refine appendQ_pair2 rfl _ _ _ rfl Tryz.underlying45 O3.out (i : Int) (k : Int) rfl _ _ rfl (by simp) rfl hsz ?_; intro v' w8 hown8 hb8 hq8)
          obtain ⟨hq1, hq2⟩ := hq8 Q hQl hN.out
          have O8 := Lib.hid (show OwnQ w8 M v' (outL zs n i ++ innL zs i (d + 1)) from by rw [HI9.out, ← List.append_assoc]; exact hown8)
          have D8 := Lib.hid (D3.out.trans hb8)
          have J8 := Lib.hid (J3.out.keep hq1)
          have N8 := Lib.hid hq2
          clear hown8 hb8 hq1 hq2 hq8
          go_roundw
          case rel => exact ⟨d + 1, by omega, by rw [← hk]; go_num, D8, O8, J8, N8⟩
          case measure => simp [intOf]; omega
        · have hkn2 : k = n := by omega
          have hdn : d = n - (i + 1) := by omega
          have O9 := Lib.hid (show OwnQ wr M _ (outL zs n (i + 1)) from by rw [HOS.out, ← hdn]; exact hO2.out)
          have hki : ¬ (k : Int) < (n : Int) := by omega
          clear hdn hkn2
          go_wp2_with fail
          go_roundw
          case rel => exact ⟨i + 1, by omega, by go_num, hB2, O9⟩
          case measure => simp [intOf]; omega
    · obtain rfl : i = n := by omega
      have B9 := Lib.hid (B2.out.trans (hB.out.mono hMw))
      have O9 := Lib.hid (hO.out.lower hMw)
      go_wp2_with fail
      go_ret2
      exact ⟨⟨_, by rw [HV.out]; rfl, by rw [HU.out]; first | exact O9.out | (rw [hX]; exact O9.out)⟩, hX ▸ B9.out⟩
end Go.Proofs.YtdcmebegnekkcaaGreat
/-
  Tables of rows of two: compared, marked, held.
-/
namespace Go.Proofs.YtdcmebegnekkcaaGreat
open Go.RowKit
set_option linter.unusedVariables false

/-- A table of rows of two, to be read. -/
structure Tq (w : World) (B : Nat) (a : Option Addr) (m : Nat) (G cp : Nat → Nat) (L : Nat → List Int) : Prop where
  slot : 0 < m → ∃ R, a = some ⟨R, 0, none⟩ ∧ B ≤ R ∧ R < w.heap.size ∧ (∀ j, j < m → w.cell? ⟨R, j, none⟩ = some (.slice (some ⟨G j, 0, none⟩) 2 (cp j))) ∧ ∀ j, j < m → G j ≠ R
  own : ∀ j, j < m → OwnAt w B (some ⟨G j, 0, none⟩) 2 (L j)
  inj : ∀ i j, i < m → j < m → G i = G j → i = j
section
variable {w w' : World} {B m : Nat} {a : Option Addr} {G cp : Nat → Nat} {L : Nat → List Int}
theorem Tq.below (h : Tq w B a m G cp L) (hb : Below w.heap.size w w') : Tq w' B a m G cp L :=
  ⟨fun hm => by
    obtain ⟨R, e, h1, h2, h3, h4⟩ := h.slot hm
    exact ⟨R, e, h1, Nat.lt_of_lt_of_le h2 hb.size, fun j hj => (hb.cell (p := ⟨R, j, none⟩) h2).trans (h3 j hj), h4⟩,
   fun j hj => (h.own j hj).below hb, h.inj⟩
theorem Tq.congr {L' : Nat → List Int} (h : Tq w B a m G cp L) (e : ∀ j, j < m → L j = L' j) : Tq w B a m G cp L' :=
  ⟨h.slot, fun j hj => by rw [← e j hj]; exact h.own j hj, h.inj⟩
theorem Tq.glt (h : Tq w B a m G cp L) {j : Nat} (hj : j < m) : B ≤ G j ∧ G j < w.heap.size := by
  obtain ⟨b, cur, e, h1, h2, _⟩ := (h.own j hj).at' (by omega)
  obtain rfl : G j = b := by simpa using e
  exact ⟨h1, lt_of_heap h2⟩
theorem Tq.mark {i : Nat} {zs : List Int} (h : Tq w B a m G cp L) (hi : i < m) (hg : w.grownBy w' (some (G i))) (ho : OwnAt w' B (some ⟨G i, 0, none⟩) 2 zs) : Tq w' B a m G cp (fun j => if j = i then zs else L j) := by
  refine ⟨fun hm => ?_, fun j hj => ?_, h.inj⟩
  · obtain ⟨R, e, h1, h2, h3, h4⟩ := h.slot hm
    refine ⟨R, e, h1, Nat.lt_of_lt_of_le h2 hg.size, fun j hj => ?_, h4⟩
    rw [← h3 j hj]
    have hb := hg.block R h2 (fun e => h4 i hi (by simpa using e.symm))
    unfold World.cell?
    rw [hb]
  · by_cases e : j = i
    · subst e
      simp only [if_pos]
      exact ho
    · simp only [if_neg e]
      have hj0 := h.own j hj
      refine ⟨hj0.len, hj0.small, fun hn => ?_⟩
      obtain ⟨b, cur, e2, h1, h2, h3⟩ := hj0.at' hn
      obtain rfl : G j = b := by simpa using e2
      exact ⟨_, cur, e2, h1, (hg.block _ (lt_of_heap h2) (fun e3 => e (h.inj j i hj hi (by simpa using e3)))).trans h2, h3⟩
end
theorem Tq.of {w : World} {B : Nat} {v : Value} {LL : List (List Int)} (h : OwnQ w B v LL) (h2 : ∀ j, j < LL.length → (LL.getD j []).length = 2) : ∃ a cap G cp, v = .slice a LL.length cap ∧ Tq w B a LL.length G cp (fun j => LL.getD j []) := by
  obtain ⟨G, cp, h⟩ := h
  obtain ⟨a, cap, rfl, -, -⟩ := h.shape
  refine ⟨a, cap, G, cp, rfl, fun hm => ?_, fun j hj => ?_, fun i j hi hj e => h.inj i j hi hj e⟩
  · obtain ⟨R, cap2, e, -, h3, h4⟩ := h.form hm
    simp only [Value.slice.injEq] at e
    obtain ⟨rfl, -, rfl⟩ := e
    refine ⟨R, rfl, h3, h4, fun j hj => ?_, fun j hj e => h.ne j hj (by rw [e]; rfl)⟩
    have h5 := h.slot hj
    rw [h2 j hj] at h5
    exact h5
  · obtain ⟨a2, c2, e, -, ho⟩ := (h.own j hj).shape
    simp only [Value.slice.injEq] at e
    obtain ⟨rfl, -, -⟩ := e
    rw [h2 j hj] at ho
    exact ho
theorem eqRow_same {w : World} {n cap cap' : Nat} {a b : Option Addr} {xs : List Int} (hx : RowAt w a n xs) (hy : RowAt w b n xs) :
    Calls Tryz.prog 42 #[.slice a n cap, .slice b n cap'] w fun e w' => e = .returned (.bool true) ∧ ∃ q, w' = w.drewN q :=
  (eqRow_any hx hy).mono fun e w' h => ⟨by rw [h.1]; simp, h.2⟩
set_option maxHeartbeats 4000000 in
set_option maxRecDepth 100000 in
theorem eqTab_same {w : World} {B B' m cap cap' : Nat} {a a' : Option Addr} {G cp G' cp' : Nat → Nat} {L : Nat → List Int} (h : Tq w B a m G cp L) (h' : Tq w B' a' m G' cp' L) (hm : m ≤ 100000) :
    Calls Tryz.prog 22 #[.slice a m cap, .slice a' m cap'] w fun e w' => e = .returned (.bool true) ∧ Below w.heap.size w w' := by
  have H := Lib.hid h
  have H' := Lib.hid h'
  clear h h'
  have hb : ((m : Int) != (m : Int)) = false := by simp
  go_enter Tryz.func22, Tryz.ntmps22
  go_wp2_with fail
  clear hb
  go_loopw [5] (fun t wr => ∃ k : Nat, k ≤ m ∧ t = .int .i64 k ∧ Hid (Below w.heap.size w wr)) (fun t _ => m - (intOf t).toNat)
  case atStart => exact ⟨0, by omega, rfl, Lib.hid (Below.refl _ _)⟩
  case round =>
    obtain ⟨k, hk, rfl, HB⟩ := hrel
    by_cases hlt : k < m
    · have HW := H.out.below HB.out
      have HW' := H'.out.below HB.out
      obtain ⟨R1, rfl, -, hR1, hs1, -⟩ := HW.slot (by omega)
      obtain ⟨R2, rfl, -, hR2, hs2, -⟩ := HW'.slot (by omega)
      have c1 := hs1 k hlt
      have c2 := hs2 k hlt
      have o1 := (HW.own k hlt).row
      have o2 := (HW'.own k hlt).row
      have hki : (k : Int) < (m : Int) := by omega
      clear HW HW' hs1 hs2
      generalize G k = g1 at *
      generalize G' k = g2 at *
      generalize cp k = p1 at *
      generalize cp' k = p2 at *
      generalize L k = l at *
      have HEQ := Lib.hid (fun p => eqRow_same (cap := p1) (cap' := p2) (o1.drewN p) (o2.drewN p))
      clear o1 o2
      go_wp2_with fail
      go_quiet ((go_at_call 42; exact Calls.quiet_of (HEQ.out _)))
      go_wp2_with fail
      go_roundw
      case rel => exact ⟨k + 1, by omega, by go_num, Lib.hid (HB.out.trans ⟨rfl, rfl, rfl, Nat.le_refl _, fun _ _ => rfl⟩)⟩
      case measure => simp [intOf]; omega
    · obtain rfl : k = m := by omega
      go_wp2_with fail
      go_ret
      exact ⟨rfl, HB.out⟩
set_option maxHeartbeats 4000000 in
set_option maxRecDepth 100000 in
theorem markTab {w : World} {B m cap : Nat} {a : Option Addr} {G cp : Nat → Nat} {L : Nat → List Int} (h : Tq w B a m G cp L) (hm : m ≤ 100000) (hB : B ≤ w.heap.size) :
    Calls Tryz.prog 24 #[.slice a m cap, .int .i64 1] w fun e w' => e = .returned (.int .i64 ((1 + 2 * m : Nat) : Int)) ∧ Below B w w' ∧ Tq w' B a m G cp (fun j => upFrom ((1 + 2 * j : Nat) : Int) 2) := by
  have H := Lib.hid (h.congr (L' := fun j => if j < 0 then upFrom ((1 + 2 * j : Nat) : Int) 2 else L j) (fun j hj => by simp))
  have hB0 := Lib.hid (Below.refl B w)
  clear h
  go_enter Tryz.func24, Tryz.ntmps24
  go_wp2_with fail
  go_loopw [1, 5] (fun kk t wr => ∃ i : Nat, i ≤ m ∧ t = .int .i64 (i : Int) ∧ kk = .int .i64 ((1 + 2 * i : Nat) : Int) ∧ Hid (Below B w wr) ∧ Hid (Tq wr B a m G cp (fun j => if j < i then upFrom ((1 + 2 * j : Nat) : Int) 2 else L j))) (fun _ t _ => m - (intOf t).toNat)
  case atStart => exact ⟨0, by omega, rfl, rfl, hB0, H⟩
  case round =>
    obtain ⟨i, hi, rfl, rfl, hb, hT⟩ := hrel
    clear H hB0
    by_cases hlt : i < m
    · obtain ⟨R1, rfl, -, hR1, hs1, -⟩ := hT.out.slot (by omega)
      have c1 := hs1 i hlt
      have ho := hT.out.own i hlt
      have HO := Lib.hid ho
      have HG := Lib.hid (hT.out.glt hlt)
      have hki : (i : Int) < (m : Int) := by omega
      have E1 := Lib.hid (show (((1 + 2 * i : Nat) : Int)) + ((2 : Nat) : Int) = ((1 + 2 * (i + 1) : Nat) : Int) by omega)
      have b1 := Lib.hid (show (0 : Int) ≤ ((1 + 2 * i : Nat) : Int) by omega)
      have b2 := Lib.hid (show ((1 + 2 * i : Nat) : Int) ≤ 4194304 by omega)
      clear hs1 ho
      obtain ⟨kk, hkk⟩ : ∃ kk : Int, ((1 + 2 * i : Nat) : Int) = kk := ⟨_, rfl⟩
      rw [hkk] at E1 b1 b2
      rw [hkk]
      have HKK := Lib.hid hkk
      clear hkk
      go_wp2_with fail
      refine (mark_any HO.out (by omega) kk b1.out b2.out).mono ?_
      rintro e w2 ⟨rfl, hg, ho2⟩
      have T2 := Lib.hid ((hT.out.mark hlt hg ho2).congr (L' := fun j => if j < i + 1 then upFrom ((1 + 2 * j : Nat) : Int) 2 else L j) (fun j hj => by
        by_cases e : j = i
        · subst e; simp [HKK.out]
        · by_cases e2 : j < i
          · rw [if_neg e, if_pos e2, if_pos (by omega)]
          · rw [if_neg e, if_neg e2, if_neg (by omega)]))
      have D2 := Lib.hid (hb.out.trans (below_of_grown (B := B) hg (Nat.le_trans hB hb.out.size) (fun b e => by
        obtain rfl : G i = b := by simpa [blk] using e
        exact HG.out.1)))
      clear hg ho2
      rw [E1.out]
      go_wp2_with fail
      go_roundw
      case rel => exact ⟨i + 1, by omega, by go_num, rfl, D2, T2⟩
      case measure => simp [intOf]; omega
    · obtain rfl : i = m := by omega
      go_wp2_with fail
      go_ret
      exact ⟨rfl, hb.out, hT.out.congr (fun j hj => by rw [if_pos hj])⟩
set_option maxHeartbeats 4000000 in
set_option maxRecDepth 100000 in
theorem heldTab {w : World} {B m cap : Nat} {a : Option Addr} {G cp : Nat → Nat} (h : Tq w B a m G cp (fun j => upFrom ((1 + 2 * j : Nat) : Int) 2)) (hm : m ≤ 100000) :
    Calls Tryz.prog 25 #[.slice a m cap, .int .i64 1] w fun e w' => e = .returned (.int .i64 ((1 + 2 * m : Nat) : Int)) ∧ w = w' := by
  have H := Lib.hid h
  clear h
  go_enter Tryz.func25, Tryz.ntmps25
  go_wp2_with fail
  go_loop [1, 5] (fun kk t => ∃ i : Nat, i ≤ m ∧ t = .int .i64 (i : Int) ∧ kk = .int .i64 ((1 + 2 * i : Nat) : Int)) (fun _ t => m - (intOf t).toNat)
  case atStart => exact ⟨0, by omega, rfl, rfl⟩
  case round =>
    obtain ⟨i, hi, rfl, rfl⟩ := hrel
    by_cases hlt : i < m
    · obtain ⟨R1, rfl, -, hR1, hs1, -⟩ := H.out.slot (by omega)
      have c1 := hs1 i hlt
      have HO := Lib.hid (H.out.own i hlt).row
      have hki : (i : Int) < (m : Int) := by omega
      have E1 := Lib.hid (show (((1 + 2 * i : Nat) : Int)) + ((2 : Nat) : Int) = ((1 + 2 * (i + 1) : Nat) : Int) by omega)
      have b1 := Lib.hid (show (0 : Int) ≤ ((1 + 2 * i : Nat) : Int) by omega)
      have b2 := Lib.hid (show ((1 + 2 * i : Nat) : Int) ≤ 4194304 by omega)
      have e0 : ¬ ((1 + 2 * (i + 1) : Nat) : Int) < 0 := by omega
      have E0 := Lib.hid e0
      clear hs1 e0
      obtain ⟨kk, hkk⟩ : ∃ kk : Int, ((1 + 2 * i : Nat) : Int) = kk := ⟨_, rfl⟩
      rw [hkk] at E1 b1 b2 HO
      rw [hkk]
      clear hkk
      go_wp2_with fail
      refine (held_any kk HO.out (by omega) b1.out b2.out).mono ?_
      rintro e w2 ⟨rfl, rfl⟩
      rw [E1.out]
      obtain ⟨kn, hkn⟩ : ∃ kn : Int, ((1 + 2 * (i + 1) : Nat) : Int) = kn := ⟨_, rfl⟩
      rw [hkn] at E0
      rw [hkn]
      have e0 := E0.out
      have HK := Lib.hid hkn
      clear hkn
      go_wp2_with fail
      go_round
      case rel => exact ⟨i + 1, by omega, by go_num, by rw [HK.out]⟩
      case measure => simp [intOf]; omega
    · obtain rfl : i = m := by omega
      go_wp2_with fail
      go_ret
      exact ⟨rfl, rfl⟩
end Go.Proofs.YtdcmebegnekkcaaGreat
/-
  A label's marks.
-/
namespace Go.Proofs.YtdcmebegnekkcaaGreat
open Go.RowKit
set_option linter.unusedVariables false

set_option maxHeartbeats 4000000 in
set_option maxRecDepth 100000 in
theorem markText_any (w : World) (k : Nat) (h1 : 1 ≤ k) (h2 : k < 100000000) :
    Calls Tryz.prog 56 #[.int .i64 (k : Int)] w fun e w' => (∃ s, e = .returned (.string s)) ∧ Below w.heap.size w w' := by
  have hk : ¬ (k : Int) ≤ 0 := by omega
  have B0 := Lib.hid (Below.refl w.heap.size w)
  go_enter Tryz.func56, Tryz.ntmps56
  go_wp2_with fail
  go_loopw [0, 3] (fun tk t wr => ∃ (z c : Nat) (s : ByteArray), z < 10 ^ (8 - c) ∧ c ≤ 8 ∧ tk = .int .i64 (z : Int) ∧ t = .string s ∧ s.size = c ∧ Hid (Below w.heap.size w wr)) (fun tk _ _ => (intOf tk).toNat)
  case atStart => exact ⟨k, 0, _, by omega, by omega, rfl, rfl, rfl, B0⟩
  case round =>
    obtain ⟨z, c, s, hz, hc, rfl, rfl, hs, hB⟩ := hrel
    by_cases hz0 : 0 < z
    · have hz1 : (0 : Int) < (z : Int) := by omega
      obtain ⟨d, hd⟩ : ∃ d : Nat, (z : Int) % 10 = (d : Int) := ⟨z % 10, by omega⟩
      have hd9 : d ≤ 9 := by omega
      have e0 : (z : Int).tmod 10 = (d : Int) := by rw [Int.tmod_eq_emod_of_nonneg (by omega)]; exact hd
      have e1 : (z : Int).tdiv 10 = ((z / 10 : Nat) : Int) := by rw [Int.tdiv_eq_ediv_of_nonneg (by omega)]; omega
      clear hd
      obtain ⟨q, hq⟩ : ∃ q : UInt8, (q.toNat : Int) = 48 + (d : Int) := ⟨UInt8.ofNat (48 + d), by rw [UInt8.toNat_ofNat']; omega⟩
      have hcv : (convert 22 9 (.slice (some ⟨wr.heap.size, 0, none⟩) 1 1)).run Tryz.prog (wr.alloc (.cells #[.int .u8 (48 + (d : Int))] 5)) = .ok (.string (str [q])) (wr.alloc (.cells #[.int .u8 (48 + (d : Int))] 5)) := by
        rw [← hq]
        refine run_convert_bytes_back _ _ _ _ ⟨wr.heap.size, 0, none⟩ 1 [q] Tryz.underlying22 Tryz.underlying5 Tryz.underlying9 ?_
        intro j hj
        have hj0 : j = 0 := by simpa using hj
        subst hj0
        simp [Addr.add, go_sem]
      have hcat : ¬ 9223372036854775807 < (str [q]).size + s.size := by rw [str_size]; simp; omega
      have hsz : (str [q] ++ s).size = c + 1 := by rw [ByteArray.size_append, str_size, hs]; simp; omega
      have D2 := Lib.hid (hB.out.trans ((below1 wr (.cells #[.int .u8 (48 + (d : Int))] 5)).mono hB.out.size))
      have hc8 : c < 8 := by
        rcases Nat.lt_or_ge c 8 with h | h
        · exact h
        · rw [show 8 - c = 0 by omega] at hz; omega
      have hz2 : z / 10 < 10 ^ (8 - (c + 1)) := by
        rw [show 8 - c = (8 - (c + 1)) + 1 by omega, Nat.pow_succ] at hz
        omega
      have hzb : z < 100000000 := Nat.lt_of_lt_of_le hz (Nat.pow_le_pow_right (by omega) (show 8 - c ≤ 8 by omega))
      have HS := Lib.hid hsz
      have HZ := Lib.hid hz2
      clear hsz hz2 hz hq
      go_wp2_with fail
      go_roundw
      case rel => exact ⟨z / 10, c + 1, _, HZ.out, by omega, by rw [show ((z : Int) / 10) = ((z / 10 : Nat) : Int) from by omega], rfl, HS.out, D2⟩
      case measure => simp [intOf]; omega
    · obtain rfl : z = 0 := by omega
      go_wp2_with fail
      go_ret
      exact ⟨⟨_, rfl⟩, hB.out⟩
theorem fz_at {w : World} {K m : Nat} {ty : TypeId} {f : Nat → Value} (h : Tf w K m ty f) {o : Nat} (ho : o < m) : w.cell? ⟨K, o, none⟩ = some (f o) ∧ w.frozen? ⟨K, o, none⟩ = false ∧ K < w.heap.size := ⟨h.cell ho, h.fz o, h.lt⟩
set_option maxHeartbeats 8000000 in
set_option maxRecDepth 100000 in
theorem markItemS_any {w : World} {K n cap : Nat} {f : Nat → Value} (h : Tf w K (n * 9) ITy f) (hn : n ≤ 1048576) :
    Calls Tryz.prog 43 #[.slice (some ⟨K, 0, none⟩) n cap, .int .i64 1] w fun e w' => e = .returned (.int .i64 ((1 + 9 * n : Nat) : Int)) ∧ Dr K w w' := by
  have H := Lib.hid (show ∃ f, Tf w K (n * 9) ITy f from ⟨f, h⟩)
  have D0 := Lib.hid (Dr.refl K w)
  clear h
  go_enter Tryz.func43, Tryz.ntmps43
  go_wp2_with fail
  go_loopw [1, 5] (fun kk t wr => ∃ i : Nat, i ≤ n ∧ t = .int .i64 (i : Int) ∧ kk = .int .i64 ((1 + 9 * i : Nat) : Int) ∧ Hid (∃ f, Tf wr K (n * 9) ITy f) ∧ Hid (Dr K w wr)) (fun _ t _ => n - (intOf t).toNat)
  case atStart => exact ⟨0, by omega, rfl, rfl, H, D0⟩
  case round =>
    obtain ⟨i, hi, rfl, rfl, hT, hD⟩ := hrel
    clear H D0
    by_cases hlt : i < n
    · have hki : (i : Int) < (n : Int) := by omega
      obtain ⟨q0, hq⟩ : ∃ q : Nat, 1 + 9 * i = q := ⟨_, rfl⟩
      rw [hq]
      have hqb : 1 ≤ q0 ∧ q0 ≤ 9437185 := by omega
      obtain ⟨W0, hW0⟩ : ∃ W0, wr = W0 := ⟨_, rfl⟩
      subst hW0
      have HQ0 := Lib.hid hq
      clear hq
      obtain ⟨hq1, hq2⟩ := hqb
      obtain ⟨f0, hf0⟩ := hT.out
      have T0 := Lib.hid hf0
      have D0 := Lib.hid hD.out
      clear hf0 hT hD
      obtain ⟨c0, hz0, hl0⟩ := fz_at T0.out (o := i * 9) (by omega)
      have T1 := Lib.hid (T0.out.set (i * 9) (.int .i64 (((q0 : Nat) : Int))))
      have D1 := Lib.hid (D0.out.trans (Dr.set K (i * 9) _ (.int .i64 (((q0 : Nat) : Int)))))
      go_upto_region 6 with (fail)
      obtain ⟨V0, hV0⟩ : ∃ V, (wr).setCell ⟨K, i * 9, none⟩ (.int .i64 (((q0 : Nat) : Int))) = V := ⟨_, rfl⟩
      rw [hV0] at T1 D1
      (try rw [hV0])
      clear hV0 c0 hz0 hl0 T0 D0
      obtain ⟨q1, hq1⟩ : ∃ z, q0 + 1 = z := ⟨_, rfl⟩
      rw [show ((q0 : Nat) : Int) + 1 = ((q1 : Nat) : Int) from by omega]
      have ha1 : 1 ≤ q1 ∧ q1 ≤ 9437186 + 0 := by omega
      obtain ⟨hu1, hv1⟩ := ha1
      have HQ1 := Lib.hid hq1
      clear hq1
      obtain ⟨c1, hz1, hl1⟩ := fz_at T1.out (o := i * 9 + 1) (by omega)
      have T2 := Lib.hid (T1.out.set (i * 9 + 1) (.int .i64 (((q1 : Nat) : Int))))
      have D2 := Lib.hid (D1.out.trans (Dr.set K (i * 9 + 1) _ (.int .i64 (((q1 : Nat) : Int)))))
      go_upto_region 8 with (fail)
      obtain ⟨V1, hV1⟩ : ∃ V, (V0).setCell ⟨K, i * 9 + 1, none⟩ (.int .i64 (((q1 : Nat) : Int))) = V := ⟨_, rfl⟩
      rw [hV1] at T2 D2
      (try rw [hV1])
      clear hV1 c1 hz1 hl1 T1 D1
      obtain ⟨q2, hq2⟩ : ∃ z, q1 + 1 = z := ⟨_, rfl⟩
      rw [show ((q1 : Nat) : Int) + 1 = ((q2 : Nat) : Int) from by omega]
      have ha2 : 1 ≤ q2 ∧ q2 ≤ 9437186 + 1 := by omega
      obtain ⟨hu2, hv2⟩ := ha2
      have HQ2 := Lib.hid hq2
      clear hq2
      obtain ⟨c2, hz2, hl2⟩ := fz_at T2.out (o := i * 9 + 2) (by omega)
      have T3 := Lib.hid (T2.out.set (i * 9 + 2) (.int .i64 (((q2 : Nat) : Int))))
      have D3 := Lib.hid (D2.out.trans (Dr.set K (i * 9 + 2) _ (.int .i64 (((q2 : Nat) : Int)))))
      go_upto_region 10 with (fail)
      obtain ⟨V2, hV2⟩ : ∃ V, (V1).setCell ⟨K, i * 9 + 2, none⟩ (.int .i64 (((q2 : Nat) : Int))) = V := ⟨_, rfl⟩
      rw [hV2] at T3 D3
      (try rw [hV2])
      clear hV2 c2 hz2 hl2 T2 D2
      obtain ⟨q3, hq3⟩ : ∃ z, q2 + 1 = z := ⟨_, rfl⟩
      rw [show ((q2 : Nat) : Int) + 1 = ((q3 : Nat) : Int) from by omega]
      have ha3 : 1 ≤ q3 ∧ q3 ≤ 9437186 + 2 := by omega
      obtain ⟨hu3, hv3⟩ := ha3
      have HQ3 := Lib.hid hq3
      clear hq3
      obtain ⟨c3, hz3, hl3⟩ := fz_at T3.out (o := i * 9 + 3) (by omega)
      have T4 := Lib.hid (T3.out.set (i * 9 + 3) (.int .i64 (((q3 : Nat) : Int))))
      have D4 := Lib.hid (D3.out.trans (Dr.set K (i * 9 + 3) _ (.int .i64 (((q3 : Nat) : Int)))))
      go_upto_region 12 with (fail)
      obtain ⟨V3, hV3⟩ : ∃ V, (V2).setCell ⟨K, i * 9 + 3, none⟩ (.int .i64 (((q3 : Nat) : Int))) = V := ⟨_, rfl⟩
      rw [hV3] at T4 D4
      (try rw [hV3])
      clear hV3 c3 hz3 hl3 T3 D3
      obtain ⟨q4, hq4⟩ : ∃ z, q3 + 1 = z := ⟨_, rfl⟩
      rw [show ((q3 : Nat) : Int) + 1 = ((q4 : Nat) : Int) from by omega]
      have ha4 : 1 ≤ q4 ∧ q4 ≤ 9437186 + 3 := by omega
      obtain ⟨hu4, hv4⟩ := ha4
      have HQ4 := Lib.hid hq4
      clear hq4
      obtain ⟨c4, hz4, hl4⟩ := fz_at T4.out (o := i * 9 + 4) (by omega)
      have T5 := Lib.hid (T4.out.set (i * 9 + 4) (.int .i64 (((q4 : Nat) : Int))))
      have D5 := Lib.hid (D4.out.trans (Dr.set K (i * 9 + 4) _ (.int .i64 (((q4 : Nat) : Int)))))
      go_upto_region 14 with (fail)
      obtain ⟨V4, hV4⟩ : ∃ V, (V3).setCell ⟨K, i * 9 + 4, none⟩ (.int .i64 (((q4 : Nat) : Int))) = V := ⟨_, rfl⟩
      rw [hV4] at T5 D5
      (try rw [hV4])
      clear hV4 c4 hz4 hl4 T4 D4
      obtain ⟨q5, hq5⟩ : ∃ z, q4 + 1 = z := ⟨_, rfl⟩
      rw [show ((q4 : Nat) : Int) + 1 = ((q5 : Nat) : Int) from by omega]
      have ha5 : 1 ≤ q5 ∧ q5 ≤ 9437186 + 4 := by omega
      obtain ⟨hu5, hv5⟩ := ha5
      have HQ5 := Lib.hid hq5
      clear hq5
      obtain ⟨c5, hz5, hl5⟩ := fz_at T5.out (o := i * 9 + 5) (by omega)
      have T6 := Lib.hid (T5.out.set (i * 9 + 5) (.int .i64 (((q5 : Nat) : Int))))
      have D6 := Lib.hid (D5.out.trans (Dr.set K (i * 9 + 5) _ (.int .i64 (((q5 : Nat) : Int)))))
      go_upto_region 16 with (fail)
      obtain ⟨V5, hV5⟩ : ∃ V, (V4).setCell ⟨K, i * 9 + 5, none⟩ (.int .i64 (((q5 : Nat) : Int))) = V := ⟨_, rfl⟩
      rw [hV5] at T6 D6
      (try rw [hV5])
      clear hV5 c5 hz5 hl5 T5 D5
      obtain ⟨q6, hq6⟩ : ∃ z, q5 + 1 = z := ⟨_, rfl⟩
      rw [show ((q5 : Nat) : Int) + 1 = ((q6 : Nat) : Int) from by omega]
      have ha6 : 1 ≤ q6 ∧ q6 ≤ 9437186 + 5 := by omega
      obtain ⟨hu6, hv6⟩ := ha6
      have HQ6 := Lib.hid hq6
      clear hq6
      obtain ⟨c6, hz6, hl6⟩ := fz_at T6.out (o := i * 9 + 6) (by omega)
      clear c6 hz6 hl6
      go_wp2_with fail
      refine (markText_any _ q6 (by omega) (by omega)).mono ?_
      rintro e w6 ⟨⟨s6, rfl⟩, hb6⟩
      have U6 := Lib.hid (T6.out.below hb6 T6.out.lt)
      have E6 := Lib.hid (D6.out.more hb6)
      clear hb6 T6 D6
      have T6 := U6
      have D6 := E6
      clear U6 E6
      obtain ⟨c6, hz6, hl6⟩ := fz_at T6.out (o := i * 9 + 6) (by omega)
      have T7 := Lib.hid (T6.out.set (i * 9 + 6) (.string s6))
      have D7 := Lib.hid (D6.out.trans (Dr.set K (i * 9 + 6) _ (.string s6)))
      go_upto_region 18 with (fail)
      obtain ⟨V6, hV6⟩ : ∃ V, (w6).setCell ⟨K, i * 9 + 6, none⟩ (.string s6) = V := ⟨_, rfl⟩
      rw [hV6] at T7 D7
      (try rw [hV6])
      clear hV6 c6 hz6 hl6 T6 D6
      obtain ⟨q7, hq7⟩ : ∃ z, q6 + 1 = z := ⟨_, rfl⟩
      rw [show ((q6 : Nat) : Int) + 1 = ((q7 : Nat) : Int) from by omega]
      have ha7 : 1 ≤ q7 ∧ q7 ≤ 9437186 + 6 := by omega
      obtain ⟨hu7, hv7⟩ := ha7
      have HQ7 := Lib.hid hq7
      clear hq7
      obtain ⟨c7, hz7, hl7⟩ := fz_at T7.out (o := i * 9 + 7) (by omega)
      have T8 := Lib.hid (T7.out.set (i * 9 + 7) (.int .i64 (((q7 : Nat) : Int))))
      have D8 := Lib.hid (D7.out.trans (Dr.set K (i * 9 + 7) _ (.int .i64 (((q7 : Nat) : Int)))))
      go_upto_region 20 with (fail)
      obtain ⟨V7, hV7⟩ : ∃ V, (V6).setCell ⟨K, i * 9 + 7, none⟩ (.int .i64 (((q7 : Nat) : Int))) = V := ⟨_, rfl⟩
      rw [hV7] at T8 D8
      (try rw [hV7])
      clear hV7 c7 hz7 hl7 T7 D7
      obtain ⟨q8, hq8⟩ : ∃ z, q7 + 1 = z := ⟨_, rfl⟩
      rw [show ((q7 : Nat) : Int) + 1 = ((q8 : Nat) : Int) from by omega]
      have ha8 : 1 ≤ q8 ∧ q8 ≤ 9437186 + 7 := by omega
      obtain ⟨hu8, hv8⟩ := ha8
      have HQ8 := Lib.hid hq8
      clear hq8
      obtain ⟨c8, hz8, hl8⟩ := fz_at T8.out (o := i * 9 + 8) (by omega)
      clear c8 hz8 hl8
      go_wp2_with fail
      refine (markText_any _ q8 (by omega) (by omega)).mono ?_
      rintro e w8 ⟨⟨s8, rfl⟩, hb8⟩
      have U8 := Lib.hid (T8.out.below hb8 T8.out.lt)
      have E8 := Lib.hid (D8.out.more hb8)
      clear hb8 T8 D8
      have T8 := U8
      have D8 := E8
      clear U8 E8
      obtain ⟨c8, hz8, hl8⟩ := fz_at T8.out (o := i * 9 + 8) (by omega)
      have T9 := Lib.hid (T8.out.set (i * 9 + 8) (.string s8))
      have D9 := Lib.hid (D8.out.trans (Dr.set K (i * 9 + 8) _ (.string s8)))
      go_upto_region 3 with (fail)
      obtain ⟨V8, hV8⟩ : ∃ V, (w8).setCell ⟨K, i * 9 + 8, none⟩ (.string s8) = V := ⟨_, rfl⟩
      rw [hV8] at T9 D9
      (try rw [hV8])
      clear hV8 c8 hz8 hl8 T8 D8
      obtain ⟨q9, hq9⟩ : ∃ z, q8 + 1 = z := ⟨_, rfl⟩
      rw [show ((q8 : Nat) : Int) + 1 = ((q9 : Nat) : Int) from by omega]
      have ha9 : 1 ≤ q9 ∧ q9 ≤ 9437186 + 8 := by omega
      obtain ⟨hu9, hv9⟩ := ha9
      have HQ9 := Lib.hid hq9
      clear hq9
      have E9 := Lib.hid (show 1 + 9 * (i + 1) = q9 from by have := HQ0.out; have := HQ1.out; have := HQ2.out; have := HQ3.out; have := HQ4.out; have := HQ5.out; have := HQ6.out; have := HQ7.out; have := HQ8.out; have := HQ9.out; omega)
      have T10 := Lib.hid (show ∃ f, Tf V8 K (n * 9) ITy f from ⟨_, T9.out⟩)
      go_wp2_with fail
      go_roundw
      case rel => exact ⟨i + 1, by omega, by go_num, by rw [E9.out], T10, D9⟩
      case measure => simp [intOf]; omega
    · obtain rfl : i = n := by omega
      go_wp2_with fail
      go_ret
      exact ⟨rfl, hD.out⟩
set_option maxHeartbeats 4000000 in
theorem markLabel_any {w : World} {K n cap : Nat} {f : Nat → Value} (R C : Int) (h : Tf w K (n * 9) ITy f) (hn : n ≤ 1048576) :
    Calls Tryz.prog 23 #[lbV R C (.slice (some ⟨K, 0, none⟩) n cap), .int .i64 1] w fun e w' => e = .returned (.int .i64 ((1 + 9 * n : Nat) : Int)) ∧ Dr K w w' := by
  have hb := below1 w (.cells #[.int .i64 R, .int .i64 C, .slice (some ⟨K, 0, none⟩) n cap] LbT)
  have H := Lib.hid (h.below hb h.lt)
  have D0 := Lib.hid (Dr.of (s := K) hb)
  clear hb h
  go_enter Tryz.func23, Tryz.ntmps23
  go_wp2_with fail
  refine (markItemS_any H.out hn).mono ?_
  rintro e w2 ⟨rfl, hd⟩
  have D2 := Lib.hid (D0.out.trans hd)
  clear hd
  go_wp2_with fail
  go_ret
  exact ⟨rfl, D2.out⟩
/-- A table beside a block that changes. -/
theorem Tq.dr {w w' : World} {B m K : Nat} {a : Option Addr} {G cp : Nat → Nat} {L : Nat → List Int} (h : Tq w B a m G cp L) (hd : Dr K w w') (hK : K < B) : Tq w' B a m G cp L :=
  ⟨fun hm => by
    obtain ⟨R, e, h1, h2, h3, h4⟩ := h.slot hm
    exact ⟨R, e, h1, Nat.lt_of_lt_of_le h2 hd.size, fun j hj => hd.cell (h3 j hj) (by omega), h4⟩,
   fun j hj => ⟨(h.own j hj).len, (h.own j hj).small, fun hn => by
    obtain ⟨b, cur, e2, h1, h2, h3⟩ := (h.own j hj).at' hn
    exact ⟨b, cur, e2, h1, (hd.block _ (lt_of_heap h2) (by omega)).trans h2, h3⟩⟩, h.inj⟩
theorem Tq.of' {w : World} {B m : Nat} {v : Value} {LL : List (List Int)} (h : OwnQ w B v LL) (h2 : ∀ j, j < LL.length → (LL.getD j []).length = 2) (hm : LL.length = m) : ∃ a cap G cp, v = .slice a m cap ∧ Tq w B a m G cp (fun j => LL.getD j []) := by
  subst hm; exact Tq.of h h2
theorem innL_two (zs : List It) (i d : Nat) : ∀ l ∈ innL zs i d, l.length = 2 := by
  induction d with
  | zero => intro l h; cases h
  | succ d ih =>
    intro l h
    unfold innL at h
    rcases List.mem_append.1 h with h | h
    · exact ih l h
    · split at h
      · rw [List.mem_singleton.1 h]; rfl
      · cases h
theorem outL_two (zs : List It) (n i : Nat) : ∀ l ∈ outL zs n i, l.length = 2 := by
  induction i with
  | zero => intro l h; cases h
  | succ i ih =>
    intro l h
    unfold outL at h
    rcases List.mem_append.1 h with h | h
    · exact ih l h
    · exact innL_two _ _ _ l h
theorem ovR_two (R C : Int) (zs : List It) : ∀ j, j < (ovR R C zs).length → ((ovR R C zs).getD j []).length = 2 := by
  have key : ∀ l ∈ ovR R C zs, l.length = 2 := by
    intro l h
    unfold ovR at h
    split at h
    · exact outL_two _ _ _ l h
    · cases h
  intro j hj
  rw [List.getD_eq_getElem?_getD, List.getElem?_eq_getElem hj]
  exact key _ (List.getElem_mem hj)
theorem ovR_small (R C : Int) (zs : List It) : (ovR R C zs).length ≤ 100000 := by
  unfold ovR
  split
  · rename_i h
    have h2 := (lab_in h).1
    have h1 := outL_len zs zs.length zs.length
    have h3 := Nat.mul_le_mul h2 h2
    omega
  · exact Nat.zero_le _
end Go.Proofs.YtdcmebegnekkcaaGreat
