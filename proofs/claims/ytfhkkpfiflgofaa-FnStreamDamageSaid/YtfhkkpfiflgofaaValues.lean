/-
  The walk of the program's values: Gauss' elimination in memory.
-/
import Derived.Test.YtfhkkpfiflgofaaMat
import Derived.Test.YtfhkkpfiflgofaaVals
import Derived.Test.YtfhkkpfiflgofaaPeel
namespace Go.Proofs.Ytfhkkpfiflgofaa
open Go.RowKit
open PS (Mx Sol NonS GI GS GE dot)
set_option linter.unusedVariables false

noncomputable def ofM (V : VF) (M : Nat → Nat → Int) : Mx (El V) := fun j m => VF.of V (M j m)
def MEl (V : VF) (M : Nat → Nat → Int) : Prop := ∀ j m, V.F.el (M j m)
theorem MEl.upd {V : VF} {M : Nat → Nat → Int} (h : MEl V M) (j m : Nat) {x : Int} (hx : V.F.el x) : MEl V (upd M j m x) := fun i t => by
  unfold Proofs.Ytfhkkpfiflgofaa.upd; split
  · exact hx
  · exact h i t
/-- The system's numbers. -/
def bld (F : FF) (L : Nat) (S idx : List Int) (i m : Nat) : Int := if m < idx.length then F.exp (((L : Int) - 1 - gi idx m) * ((i : Int) + 1)).toNat else if m = idx.length then gi S i else 0
theorem bld_el {V : VF} {L : Nat} {S idx : List Int} (hS : VF.els V S) : MEl V (bld V.F L S idx) := fun i m => by
  unfold bld; split
  · exact FF.exp_el V.ok _
  · split
    · exact hS.getD i
    · exact FF.zero_el V.ok
theorem bld_MX {V : VF} {L : Nat} {S idx : List Int} (hr : RisTo 0 ((L : Int) - 1) idx idx.length) (j m : Nat) (hm : m ≤ idx.length) : ofM V (bld V.F L S idx) j m = MX V L S idx j m := by
  unfold ofM bld MX
  by_cases h : m < idx.length
  · rw [if_pos h, if_pos h]
    obtain ⟨h0, h1, _⟩ := hr m h
    unfold locX locI
    rw [pow_swap]
    congr 2
    obtain ⟨a, ha⟩ : ∃ a : Nat, (L : Int) - 1 - gi idx m = (a : Int) := ⟨((L : Int) - 1 - gi idx m).toNat, by omega⟩
    rw [ha, Int.toNat_natCast, show ((a : Int) * ((j : Int) + 1)) = ((a * (j + 1) : Nat) : Int) by simp, Int.toNat_natCast]
  · rw [if_neg h, if_neg h, if_pos (by omega)]
theorem sol_congr {K : Type} [CR K] {n : Nat} {A B : Mx K} (h : ∀ j m, j < n → m ≤ n → A j m = B j m) (x : Nat → K) : Sol n A x ↔ Sol n B x := by
  have e : ∀ j, j < n → dot (A j) x n = dot (B j) x n := fun j hj => PS.dot_congr n fun m hm => ⟨h j m hj (by omega), rfl⟩
  exact ⟨fun hx j hj => by rw [← e j hj, hx j hj, h j n hj (Nat.le_refl _)], fun hx j hj => by rw [e j hj, hx j hj, h j n hj (Nat.le_refl _)]⟩
theorem nons_congr {K : Type} [CR K] {n : Nat} {A B : Mx K} (h : ∀ j m, j < n → m ≤ n → A j m = B j m) (hB : NonS n B) : NonS n A := fun x hx => hB x fun j hj => by
  rw [← PS.dot_congr n (f := A j) (x := x) fun m hm => ⟨h j m hj (by omega), rfl⟩]; exact hx j hj
/-- The matrix while it is laid: rows below j, and the first k numbers of row j. -/
def mBld (F : FF) (L : Nat) (S idx : List Int) (j k : Nat) : Nat → Nat → Int := fun i m => if i < j ∨ (i = j ∧ m < k) then bld F L S idx i m else 0
theorem mBld_next (F : FF) (L : Nat) (S idx : List Int) (j k : Nat) : upd (mBld F L S idx j k) j k (bld F L S idx j k) = mBld F L S idx j (k + 1) := by
  funext i m
  unfold upd mBld
  by_cases h : i = j ∧ m = k
  · obtain ⟨rfl, rfl⟩ := h
    rw [if_pos ⟨rfl, rfl⟩, if_pos (by omega)]
  · rw [if_neg h]
    by_cases h2 : i < j ∨ (i = j ∧ m < k)
    · rw [if_pos h2, if_pos (by omega)]
    · rw [if_neg h2, if_neg (by omega)]
theorem mBld_new (F : FF) (L : Nat) (S idx : List Int) (j : Nat) : (fun i m => if i = j then 0 else mBld F L S idx j 0 i m) = mBld F L S idx j 0 := by
  funext i m
  unfold mBld
  by_cases h : i = j
  · rw [if_pos h, if_neg (by omega)]
  · rw [if_neg h]
theorem mBld_row (F : FF) (L : Nat) (S idx : List Int) (j : Nat) : ∀ i m, m ≤ idx.length → mBld F L S idx j (idx.length + 1) i m = mBld F L S idx (j + 1) 0 i m := by
  intro i m hm
  unfold mBld
  by_cases h : i < j + 1
  · rw [if_pos (by omega), if_pos (.inl h)]
  · rw [if_neg (by omega), if_neg (by omega)]
theorem mBld_el {V : VF} {L : Nat} {S idx : List Int} (hS : VF.els V S) (j k : Nat) : MEl V (mBld V.F L S idx j k) := fun i m => by
  unfold mBld; split
  · exact bld_el hS i m
  · exact FF.zero_el V.ok
/-- Row k while it is scaled. -/
def mSc (F : FF) (M : Nat → Nat → Int) (k : Nat) (a : Int) (c : Nat) : Nat → Nat → Int := fun i t => if i = k ∧ k ≤ t ∧ t < c then F.mul (M i t) a else M i t
theorem mSc_start (F : FF) (M : Nat → Nat → Int) (k : Nat) (a : Int) : mSc F M k a k = M := by funext i t; unfold mSc; rw [if_neg (by omega)]
theorem mSc_at (F : FF) (M : Nat → Nat → Int) (k : Nat) (a : Int) (c : Nat) : mSc F M k a c k c = M k c := by unfold mSc; rw [if_neg (by omega)]
theorem mSc_next (F : FF) (M : Nat → Nat → Int) (k : Nat) (a : Int) (c : Nat) (hc : k ≤ c) : upd (mSc F M k a c) k c (F.mul (M k c) a) = mSc F M k a (c + 1) := by
  funext i t
  unfold upd mSc
  by_cases h : i = k ∧ t = c
  · obtain ⟨rfl, rfl⟩ := h
    rw [if_pos ⟨rfl, rfl⟩, if_pos ⟨rfl, hc, by omega⟩]
  · rw [if_neg h]
    by_cases h2 : i = k ∧ k ≤ t ∧ t < c
    · rw [if_pos h2, if_pos ⟨h2.1, h2.2.1, by omega⟩]
    · rw [if_neg h2, if_neg (by omega)]
theorem mSc_el {V : VF} {M : Nat → Nat → Int} (h : MEl V M) (k : Nat) (a : Int) (c : Nat) : MEl V (mSc V.F M k a c) := fun i t => by
  unfold mSc; split
  · exact FF.mul_el V.ok _ _
  · exact h i t
theorem mSc_done {V : VF} {M : Nat → Nat → Int} (h : MEl V M) (k n : Nat) {a : Int} (ha : V.F.el a) : ofM V (mSc V.F M k a (n + 1)) = PS.scaleR (ofM V M) k k n (VF.of V a) := by
  funext i t
  unfold ofM mSc PS.scaleR
  by_cases h2 : i = k ∧ k ≤ t ∧ t ≤ n
  · rw [if_pos h2, if_pos ⟨h2.1, h2.2.1, by omega⟩, VF.of_mul (h i t) ha]
  · rw [if_neg h2, if_neg (by omega)]
/-- Row j while the multiple of row k is taken off. -/
def mEl (F : FF) (M : Nat → Nat → Int) (j k : Nat) (f : Int) (c : Nat) : Nat → Nat → Int := fun i t => if i = j ∧ k ≤ t ∧ t < c then F.add (M i t) (F.neg (F.mul f (M k t))) else M i t
theorem mEl_start (F : FF) (M : Nat → Nat → Int) (j k : Nat) (f : Int) : mEl F M j k f k = M := by funext i t; unfold mEl; rw [if_neg (by omega)]
theorem mEl_at (F : FF) (M : Nat → Nat → Int) (j k : Nat) (f : Int) (c : Nat) : mEl F M j k f c j c = M j c := by unfold mEl; rw [if_neg (by omega)]
theorem mEl_row (F : FF) (M : Nat → Nat → Int) (j k : Nat) (f : Int) (c : Nat) (hne : j ≠ k) : mEl F M j k f c k c = M k c := by unfold mEl; rw [if_neg (by omega)]
theorem mEl_next (F : FF) (M : Nat → Nat → Int) (j k : Nat) (f : Int) (c : Nat) (hc : k ≤ c) : upd (mEl F M j k f c) j c (F.add (M j c) (F.neg (F.mul f (M k c)))) = mEl F M j k f (c + 1) := by
  funext i t
  unfold upd mEl
  by_cases h : i = j ∧ t = c
  · obtain ⟨rfl, rfl⟩ := h
    rw [if_pos ⟨rfl, rfl⟩, if_pos ⟨rfl, hc, by omega⟩]
  · rw [if_neg h]
    by_cases h2 : i = j ∧ k ≤ t ∧ t < c
    · rw [if_pos h2, if_pos ⟨h2.1, h2.2.1, by omega⟩]
    · rw [if_neg h2, if_neg (by omega)]
theorem mEl_el {V : VF} {M : Nat → Nat → Int} (h : MEl V M) (j k : Nat) (f : Int) (c : Nat) : MEl V (mEl V.F M j k f c) := fun i t => by
  unfold mEl; split
  · exact FF.add_el V.ok (h i t) (FF.neg_el (FF.mul_el V.ok _ _))
  · exact h i t
theorem mEl_done {V : VF} {M : Nat → Nat → Int} (h : MEl V M) (j k n : Nat) {f : Int} (hf : V.F.el f) : ofM V (mEl V.F M j k f (n + 1)) = PS.elimR (ofM V M) j k n (VF.of V f) := by
  funext i t
  unfold ofM mEl PS.elimR
  by_cases h2 : i = j ∧ k ≤ t ∧ t ≤ n
  · rw [if_pos h2, if_pos ⟨h2.1, h2.2.1, by omega⟩, VF.of_add (h i t) (FF.neg_el (FF.mul_el V.ok _ _)), VF.of_neg (FF.mul_el V.ok _ _), VF.of_mul hf (h k t)]
  · rw [if_neg h2, if_neg (by omega)]
theorem swap_of {V : VF} (M : Nat → Nat → Int) (k p : Nat) : ofM V (fun j => M (if j = k then p else if j = p then k else j)) = PS.swapR (ofM V M) k p := rfl
/-- The last column. -/
def colL (M : Nat → Nat → Int) (n k : Nat) : List Int := (List.range k).map fun j => M j n
theorem colL_length (M : Nat → Nat → Int) (n k : Nat) : (colL M n k).length = k := by unfold colL; simp
theorem colL_gi (M : Nat → Nat → Int) {n k m : Nat} (h : m < k) : gi (colL M n k) m = M m n := by
  unfold colL gi; rw [List.getD_eq_getElem?_getD, List.getElem?_map, List.getElem?_range h]; rfl
theorem colL_els {V : VF} {M : Nat → Nat → Int} (h : MEl V M) (n k : Nat) : VF.els V (colL M n k) := fun z hz => by
  obtain ⟨j, _, rfl⟩ := List.mem_map.1 hz
  exact h j n
theorem mBld_MX {V : VF} {L : Nat} {S idx : List Int} (hr : RisTo 0 ((L : Int) - 1) idx idx.length) (j m : Nat) (hj : j < idx.length) (hm : m ≤ idx.length) : ofM V (mBld V.F L S idx idx.length 0) j m = MX V L S idx j m := by
  rw [← bld_MX hr j m hm]
  unfold ofM mBld
  rw [if_pos (.inl hj)]
/-- The values, or none. -/
noncomputable def valR (V : VF) (l : Int) (c : Nat) (S idx : List Int) : List Int := if valB V l c S idx = true then valsL V l c S idx else []
theorem valR_yes {V : VF} {l : Int} {c : Nat} {S idx : List Int} (h : valB V l c S idx = true) : valR V l c S idx = valsL V l c S idx := by unfold valR; rw [if_pos h]
theorem valR_no {V : VF} {l : Int} {c : Nat} {S idx : List Int} (h : valB V l c S idx = false) : valR V l c S idx = [] := by unfold valR; rw [h]; rfl
set_option maxHeartbeats 16000000 in
set_option maxRecDepth 100000 in
theorem values_any {V : VF} {p pw g c : Int} {L : Nat} (hs : SC V p pw g L c) {w : World} {b : Nat} (hcod : Cod w b p pw g L c) {a : Option Addr} {n cap : Nat} {S : List Int} (hr : RowAt w a n S) (hz : VF.els V S) (hn : (n : Int) = c)
    {a' : Option Addr} {N cap' : Nat} {idx : List Int} (hr' : RowAt w a' N idx) (hris : RisTo 0 ((L : Int) - 1) idx N) (hN : N ≤ n) :
    Calls Try.prog 85 #[.pointer (some ⟨b, 0, none⟩), .slice a n cap, .slice a' N cap'] w fun e w' => ∃ v, e = .returned (.tuple #[v, .bool (valB V L n S idx)]) ∧ Below w.heap.size w w' ∧ OwnL w' w.heap.size v (valR V L n S idx) := by
  obtain ⟨hvB, hc1, hc2, hcl, hl1, hlz⟩ := validC_iff hs.valid
  obtain rfl : c = (n : Int) := hn.symm
  have hlV : (L : Int) < V.F.size := by rw [hs.sf.hV]; exact hlz
  have HCOD := Lib.hid hcod
  have HR := Lib.hid hr
  have HZ := Lib.hid hz
  have HR' := Lib.hid hr'
  have HRIS := Lib.hid hris
  have hlen := Lib.hid hr'.len
  have hSlen := Lib.hid hr.len
  have hmk := fun w => run_make_rows w N (by omega)
  have hN64 : N ≤ 64 := by omega
  clear hr hr' hris hz hcod
  go_enter Try.func85, Try.ntmps85
  go_wp2_with fail
  clear hmk
  have HM0 := Lib.hid (show MatAt (w.alloc (.cells (madeCells #[.slice none 0 0] N) 26)) w.heap.size w.heap.size N 0 (fun _ => 0) (mBld V.F L S idx 0 0) from (mat_start w w.heap.size N (Nat.le_refl _)).congr (fun j m hj => by omega))
  have HB0 := Lib.hid (below1 w (.cells (madeCells #[.slice none 0 0] N) 26))
  have hmk2 := fun w => run_make_ints w 26 Try.underlying26 ((N : Int) + 1) (by omega) (by omega)
  rw [show ((N : Int) + 1).toNat = N + 1 by omega] at hmk2
  go_loopw [32] (fun t wr => ∃ (j : Nat) (gg : Nat → Nat), j ≤ N ∧ t = .int .i64 j ∧ Hid (MatAt wr w.heap.size w.heap.size N j gg (mBld V.F L S idx j 0)) ∧ Hid (Below w.heap.size w wr)) (fun t _ => (N - intOf t).toNat)
  case atStart => exact ⟨0, fun _ => 0, by omega, rfl, HM0, HB0⟩
  case round =>
    obtain ⟨j, gg, hj, rfl, hmat, hbel⟩ := hrel
    clear HM0 HB0
    by_cases hlt : j < N
    · obtain ⟨sl0, sl1, sl2⟩ := (hmat.out.below (below1 wr (.cells (madeCells #[.int .i64 0] (N + 1)) 2))).slot (Nat.le_refl _) hlt
      have hnx := hmat.out.next hlt hbel.out.size
      rw [mBld_new] at hnx
      have HNX := Lib.hid hnx
      have HBX := Lib.hid ((hbel.out.alloc (by have := hbel.out.size; omega) (.cells (madeCells #[.int .i64 0] (N + 1)) 2)).setCell (p := ⟨w.heap.size, j, none⟩) (Nat.le_refl _) (.slice (some ⟨wr.heap.size, 0, none⟩) (N + 1) (N + 1)))
      clear hnx
      go_wp2_with fail
      obtain ⟨g1, hg1⟩ : ∃ g1 : Nat → Nat, (fun i => if i = j then wr.heap.size else gg i) = g1 := ⟨_, rfl⟩
      rw [hg1] at HNX
      clear hg1 sl0 sl1 sl2
      go_loopw [43] (fun t wr => ∃ (k : Nat), k ≤ N ∧ t = .int .i64 k ∧ Hid (MatAt wr w.heap.size w.heap.size N (j + 1) g1 (mBld V.F L S idx j k)) ∧ Hid (Below w.heap.size w wr)) (fun t _ => (N - intOf t).toNat)
      case atStart => exact ⟨0, by omega, rfl, HNX, HBX⟩
      case round =>
        obtain ⟨k, hk, rfl, hmat2, hbel2⟩ := hrel
        clear HNX HBX
        by_cases hlt2 : k < N
        · obtain ⟨b1, o1, rfl, _, hcs⟩ := (HR'.out.below' hbel2.out).at' (by omega)
          have hcell := hcs k hlt2
          obtain ⟨hi0, hi1, _⟩ := HRIS.out k hlt2
          obtain ⟨bc, hc0, hcal⟩ := (HCOD.out.below hbel2.out).calV hs.sf
          have hcl0 := (HCOD.out.below hbel2.out).len
          obtain ⟨r0, r1, r2⟩ := hmat2.out.row (j := j) (by omega)
          have hbe := bld_el (V := V) (L := L) (idx := idx) HZ.out j k
          have hbv : bld V.F L S idx j k = V.F.exp (((L : Int) - 1 - gi idx k) * ((j : Int) + 1)).toNat := by unfold bld; rw [if_pos (by rw [hlen.out]; exact hlt2)]
          have hm0 : 0 ≤ ((L : Int) - 1 - gi idx k) * ((j : Int) + 1) := Int.mul_nonneg (by omega) (by omega)
          have hm1 : ((L : Int) - 1 - gi idx k) * ((j : Int) + 1) ≤ 255 * 65 := Int.mul_le_mul (by omega) (by omega) (by omega) (by omega)
          have HP := Lib.hid (fun W (hd : Drew wr W) => power_any (hd.cal hcal) (((L : Int) - 1 - gi idx k) * ((j : Int) + 1)) hm0)
          rw [← hbv] at HP
          have q1 : IntKind.i64.wrap ((L : Int) - 1 - gi idx k) = (L : Int) - 1 - gi idx k := IntWalk.i64_in _ (by omega)
          have q2 : IntKind.i64.wrap (((L : Int) - 1 - gi idx k) * ((j : Int) + 1)) = ((L : Int) - 1 - gi idx k) * ((j : Int) + 1) := IntWalk.i64_in _ (by omega)
          have HPL := Lib.hid (show ∀ W, Drew wr W → W.cell? ⟨g1 j, k, none⟩ = some (.int .i64 (mBld V.F L S idx j k j k)) ∧ W.frozen? ⟨g1 j, k, none⟩ = false from fun W hd => by
            obtain ⟨x0, x1, _⟩ := (hmat2.out.below (hd.below _)).cell (j := j) (m := k) (by omega) (by omega)
            exact ⟨x0, x1⟩)
          have HST := Lib.hid (fun W (hd : Drew wr W) => (show MatAt (W.setCell ⟨g1 j, k, none⟩ (.int .i64 (bld V.F L S idx j k))) w.heap.size w.heap.size N (j + 1) g1 (mBld V.F L S idx j (k + 1)) by
            rw [← mBld_next]; exact (hmat2.out.below (hd.below _)).set (by omega) (by omega) _))
          have HBS := Lib.hid (fun W (hd : Drew wr W) => (hbel2.out.trans ((hd.below wr.heap.size).mono hbel2.out.size)).setCell (p := ⟨g1 j, k, none⟩) (hmat2.out.base.2 j (by omega)) (.int .i64 (bld V.F L S idx j k)))
          have hgl := (hmat2.out.base.2 j (by omega))
          clear hcs hcal hbv hbe
          generalize bld V.F L S idx j k = bv at *
          generalize gi idx k = z at *
          have hkN : (k : Int) < (N : Int) + 1 := by omega
          have qw : IntKind.i64.wrap (IntKind.i64.wrap (IntKind.i64.wrap ((L : Int) - 1) - z) * IntKind.i64.wrap ((j : Int) + 1)) = ((L : Int) - 1 - z) * ((j : Int) + 1) := by
            rw [IntWalk.i64_in ((L : Int) - 1) (by omega), IntWalk.i64_in ((j : Int) + 1) (by omega), q1, q2]
          have QW := Lib.hid qw
          clear qw q1 q2
          go_wp2_with fail
          refine wp_region_last (S := (fun w' => w'.cell? ⟨w.heap.size, j, none⟩ = some (.slice (some ⟨g1 j, 0, none⟩) (N + 1) (N + 1)) ∧ w'.cell? ⟨b, 0, none⟩ = some (.pointer (some ⟨bc, 0, none⟩)) ∧ w'.cell? ⟨b, 1, none⟩ = some (.int .i64 (L : Int)))) 21 (by kernel_rfl) rfl (by kernel_rfl) ?_ (fun hHeld => ?_)
          · (try dsimp only); exact ⟨r0, hc0, hcl0⟩
          simp only [List.take_succ_cons, List.take_zero]
          refine wpAnyH_take (i := 0) (oi := _) (v := ?_) rfl (by kernel_rfl) (by kernel_rfl) (by kernel_rfl) (fun _ _ _ h => h) (Or.inl ⟨by rfl, ?_⟩) hHeld ?_
          rotate_left
          · intro w0 hSw; (try dsimp only at hSw); go_simp; (try with_reducible rfl)
          (try dsimp only [Act.put, List.setIfInBounds_toArray, List.set_cons_zero, List.set_cons_succ])
          refine wpAnyH_take (i := 1) (oi := _) (v := ?_) rfl (by kernel_rfl) (by kernel_rfl) (by kernel_rfl) (fun _ _ _ h => h) (Or.inl ⟨by rfl, ?_⟩) hHeld ?_
          rotate_left
          · intro w0 hSw; (try dsimp only at hSw); go_simp; (try with_reducible rfl)
          (try dsimp only [Act.put, List.setIfInBounds_toArray, List.set_cons_zero, List.set_cons_succ])
          refine wpAnyH_take (i := 2) (oi := _) (v := ?_) rfl (by kernel_rfl) (by kernel_rfl) (by kernel_rfl) (fun _ _ _ h => h) (Or.inl ⟨by rfl, ?_⟩) hHeld ?_
          rotate_left
          · intro w0 hSw; (try dsimp only at hSw); go_simp; (try with_reducible rfl)
          (try dsimp only [Act.put, List.setIfInBounds_toArray, List.set_cons_zero, List.set_cons_succ])
          refine wpAnyH_take (i := 3) (oi := _) (v := ?_) rfl (by kernel_rfl) (by kernel_rfl) (by kernel_rfl) (fun _ _ _ h => h) (Or.inl ⟨by rfl, ?_⟩) hHeld ?_
          rotate_left
          · intro w0 hSw; (try dsimp only at hSw); go_simp; (try with_reducible rfl)
          (try dsimp only [Act.put, List.setIfInBounds_toArray, List.set_cons_zero, List.set_cons_succ])
          refine wpAnyH_take (i := 4) (oi := _) (v := ?_) rfl (by kernel_rfl) (by kernel_rfl) (by kernel_rfl) (fun _ _ _ h => h) (Or.inl ⟨by rfl, ?_⟩) hHeld ?_
          rotate_left
          · intro w0 hSw; (try dsimp only at hSw); go_simp; (try with_reducible rfl)
          (try dsimp only [Act.put, List.setIfInBounds_toArray, List.set_cons_zero, List.set_cons_succ])
          refine wpAnyH_take (i := 5) (oi := _) (v := ?_) rfl (by kernel_rfl) (by kernel_rfl) (by kernel_rfl) (fun _ _ _ h => h) (Or.inl ⟨by rfl, ?_⟩) hHeld ?_
          rotate_left
          · intro w0 hSw; (try dsimp only at hSw); go_simp; (try with_reducible rfl)
          (try dsimp only [Act.put, List.setIfInBounds_toArray, List.set_cons_zero, List.set_cons_succ])
          refine wpAnyH_take (i := 6) (oi := _) (v := ?_) rfl (by kernel_rfl) (by kernel_rfl) (by kernel_rfl) (fun _ _ _ h => h) (Or.inl ⟨by rfl, ?_⟩) hHeld ?_
          rotate_left
          · intro w0 hSw; (try dsimp only at hSw); go_simp; (try with_reducible rfl)
          (try dsimp only [Act.put, List.setIfInBounds_toArray, List.set_cons_zero, List.set_cons_succ])
          refine wpAnyH_take (i := 7) (oi := _) (v := ?_) rfl (by kernel_rfl) (by kernel_rfl) (by kernel_rfl) (fun _ _ _ h => h) (Or.inl ⟨by rfl, ?_⟩) hHeld ?_
          rotate_left
          · intro w0 hSw; (try dsimp only at hSw); go_simp; (try with_reducible rfl)
          (try dsimp only [Act.put, List.setIfInBounds_toArray, List.set_cons_zero, List.set_cons_succ])
          refine wpAnyH_take (i := 8) (oi := _) (v := ?_) rfl (by kernel_rfl) (by kernel_rfl) (by kernel_rfl) (fun _ _ _ h => h) (Or.inl ⟨by rfl, ?_⟩) hHeld ?_
          rotate_left
          · intro w0 hSw; (try dsimp only at hSw); go_simp; (try with_reducible rfl)
          (try dsimp only [Act.put, List.setIfInBounds_toArray, List.set_cons_zero, List.set_cons_succ])
          refine wpAnyH_take (i := 9) (oi := _) (v := ?_) rfl (by kernel_rfl) (by kernel_rfl) (by kernel_rfl) (fun _ _ _ h => h) (Or.inl ⟨by rfl, ?_⟩) hHeld ?_
          rotate_left
          · intro w0 hSw; (try dsimp only at hSw); go_simp; (try with_reducible rfl)
          (try dsimp only [Act.put, List.setIfInBounds_toArray, List.set_cons_zero, List.set_cons_succ])
          refine wpAnyH_take (i := 10) (oi := _) (v := ?_) rfl (by kernel_rfl) (by kernel_rfl) (by kernel_rfl) (fun _ _ _ h => h) (Or.inl ⟨by rfl, ?_⟩) hHeld ?_
          rotate_left
          · intro w0 hSw; (try dsimp only at hSw); go_simp; (try with_reducible rfl)
          (try dsimp only [Act.put, List.setIfInBounds_toArray, List.set_cons_zero, List.set_cons_succ])
          refine wpAnyH_take (i := 11) (oi := _) (v := ?_) rfl (by kernel_rfl) (by kernel_rfl) (by kernel_rfl) (fun _ _ _ h => h) (Or.inl ⟨by rfl, ?_⟩) hHeld ?_
          rotate_left
          · intro w0 hSw; (try dsimp only at hSw); go_simp; (try with_reducible rfl)
          (try dsimp only [Act.put, List.setIfInBounds_toArray, List.set_cons_zero, List.set_cons_succ])
          refine wpAnyH_take (i := 12) (oi := _) (v := ?_) rfl (by kernel_rfl) (by kernel_rfl) (by kernel_rfl) (fun _ _ _ h => h) (Or.inl ⟨by rfl, ?_⟩) hHeld ?_
          rotate_left
          · intro w0 hSw; (try dsimp only at hSw); go_simp; (try with_reducible rfl)
          (try dsimp only [Act.put, List.setIfInBounds_toArray, List.set_cons_zero, List.set_cons_succ])
          refine wpAnyH_take (i := 13) (oi := _) (v := ?_) rfl (by kernel_rfl) (by kernel_rfl) (by kernel_rfl) (fun _ _ _ h => h) (Or.inl ⟨by rfl, ?_⟩) hHeld ?_
          rotate_left
          · intro w0 hSw; (try dsimp only at hSw); go_simp; (try with_reducible rfl)
          (try dsimp only [Act.put, List.setIfInBounds_toArray, List.set_cons_zero, List.set_cons_succ])
          refine wpAnyH_take (i := 14) (oi := _) (v := ?_) rfl (by kernel_rfl) (by kernel_rfl) (by kernel_rfl) (fun _ _ _ h => h) (Or.inl ⟨by rfl, ?_⟩) hHeld ?_
          rotate_left
          · intro w0 hSw; (try dsimp only at hSw); go_simp; (try with_reducible rfl)
          (try dsimp only [Act.put, List.setIfInBounds_toArray, List.set_cons_zero, List.set_cons_succ])
          refine wpAnyH_take (i := 15) (oi := _) (v := ?_) rfl (by kernel_rfl) (by kernel_rfl) (by kernel_rfl) (fun _ _ _ h => h) (Or.inl ⟨by rfl, ?_⟩) hHeld ?_
          rotate_left
          · intro w0 hSw; (try dsimp only at hSw); go_simp; (try with_reducible rfl)
          (try dsimp only [Act.put, List.setIfInBounds_toArray, List.set_cons_zero, List.set_cons_succ])
          refine wpAnyH_take (i := 16) (oi := _) (v := ?_) rfl (by kernel_rfl) (by kernel_rfl) (by kernel_rfl) (fun _ _ _ h => h) (Or.inl ⟨by rfl, ?_⟩) hHeld ?_
          rotate_left
          · intro w0 hSw; (try dsimp only at hSw); go_simp; (try with_reducible rfl)
          (try dsimp only [Act.put, List.setIfInBounds_toArray, List.set_cons_zero, List.set_cons_succ])
          refine wpAnyH_take (i := 17) (oi := _) (v := ?_) rfl (by kernel_rfl) (by kernel_rfl) (by kernel_rfl) (fun _ _ _ h => h) (Or.inl ⟨by rfl, ?_⟩) hHeld ?_
          rotate_left
          · intro w0 hSw; (try dsimp only at hSw); go_simp; (try with_reducible rfl)
          (try dsimp only [Act.put, List.setIfInBounds_toArray, List.set_cons_zero, List.set_cons_succ])
          refine wpAnyH_take (i := 18) (oi := _) (v := ?_) rfl (by kernel_rfl) (by kernel_rfl) (by kernel_rfl) (fun _ _ _ h => h) (Or.inl ⟨by rfl, ?_⟩) hHeld ?_
          rotate_left
          · intro w0 hSw; (try dsimp only at hSw); go_simp; (try with_reducible rfl)
          (try dsimp only [Act.put, List.setIfInBounds_toArray, List.set_cons_zero, List.set_cons_succ])
          refine wpAnyH_ready (rs := [19]) (by kernel_rfl) (by simp) ?_
          refine AllReadyH.cons (o := _) rfl (fun K hK => ?_) AllReadyH.nil
          go_simp
          rw [QW.out]
          with_reducible refine (HP.out _ (drew1 wr)).mono ?_
          rintro e w5 ⟨rfl, hd5'⟩
          have hd5 : Drew wr w5 := Drew.trans (drew1 wr) hd5'
          obtain ⟨hp5, hf5⟩ := HPL.out w5 hd5
          go_wp2_with fail
          refine hK.out _ _ ?_ (fun hHeld => ?_)
          · (try dsimp only); have hbd : Below wr.drew.heap.size wr.drew w5 := Drew.below (show Drew wr.drew w5 from hd5') _; exact ⟨keep_cell hbd hHeld.1, keep_cell hbd hHeld.2.1, keep_cell hbd hHeld.2.2⟩
          clear hK K
          (try dsimp only [Act.put, List.setIfInBounds_toArray, List.set_cons_zero, List.set_cons_succ])
          refine wpAnyH_take (i := 20) (oi := _) (v := ?_) rfl (by kernel_rfl) (by kernel_rfl) (by kernel_rfl) (fun _ _ _ h => h) (Or.inl ⟨by rfl, ?_⟩) hHeld ?_
          rotate_left
          · intro w0 hSw; (try dsimp only at hSw); go_simp; (try with_reducible rfl)
          (try dsimp only [Act.put, List.setIfInBounds_toArray, List.set_cons_zero, List.set_cons_succ])
          refine wpAnyH_done (by kernel_rfl) (lastQ_normal ?_) _
          go_wp2_with fail
          go_roundw
          case rel => exact ⟨k + 1, by omega, by go_num, Lib.hid (HST.out _ hd5), Lib.hid (HBS.out _ hd5)⟩
          case measure => simp [intOf]; omega
        · obtain rfl : k = N := by omega
          obtain ⟨r0, r1, r2⟩ := hmat2.out.row (j := j) (by omega)
          obtain ⟨x0, x1, x2⟩ := hmat2.out.cell (j := j) (m := k) (by omega) (Nat.le_refl _)
          obtain ⟨b1, o1, rfl, _, hcs⟩ := (HR.out.below' hbel2.out).at' (by omega)
          have hcell := hcs j (by omega)
          have hbv : bld V.F L S idx j k = gi S j := by unfold bld; rw [if_neg (by rw [hlen.out]; omega), if_pos hlen.out.symm]
          have HST := Lib.hid (show MatAt (wr.setCell ⟨g1 j, k, none⟩ (.int .i64 (gi S j))) w.heap.size w.heap.size k (j + 1) g1 (mBld V.F L S idx (j + 1) 0) by
            have := hmat2.out.set (j := j) (m := k) (by omega) (Nat.le_refl _) (gi S j)
            rw [← hbv, mBld_next] at this
            rw [← hbv]
            exact this.congr (fun i m hi hm => by
              have := mBld_row V.F L S idx j i m (by rw [hlen.out]; exact hm)
              rw [hlen.out] at this; exact this))
          have HBS := Lib.hid (hbel2.out.setCell (p := ⟨g1 j, k, none⟩) (hmat2.out.base.2 j (by omega)) (.int .i64 (gi S j)))
          have hkN : (k : Int) < (k : Int) + 1 := by omega
          clear hcs hbv
          generalize gi S j = z at *
          go_wp2_with fail
          go_region
          go_wp2_with fail
          go_roundw
          case rel => exact ⟨j + 1, g1, by omega, by go_num, Lib.hid (HST.out.below (Drew.below (drew1 _) _)), Lib.hid (HBS.out.trans (Drew.below (drew1 _) _))⟩
          case measure => simp [intOf]; omega
    · obtain rfl : j = N := by omega
      have HE0 := Lib.hid (show MEl V (mBld V.F L S idx j 0) from mBld_el HZ.out j 0)
      have HG0 := Lib.hid (show GI j (ofM V (mBld V.F L S idx j 0)) 0 (ofM V (mBld V.F L S idx j 0)) by
        have := nons_congr (mBld_MX (V := V) (S := S) (by rw [hlen.out]; exact HRIS.out)) (MX_nons hlV S (by rw [hlen.out]; exact HRIS.out))
        rw [hlen.out] at this
        exact GI.start this)
      go_wp2_with fail
      go_loopw [13] (fun t wr => ∃ (k : Nat) (gg : Nat → Nat) (M : Nat → Nat → Int), k ≤ j ∧ t = .int .i64 k ∧ Hid (MatAt wr w.heap.size w.heap.size j j gg M) ∧ Hid (MEl V M) ∧ Hid (GI j (ofM V (mBld V.F L S idx j 0)) k (ofM V M)) ∧ Hid (Below w.heap.size w wr)) (fun t _ => (j - intOf t).toNat)
      case atStart => exact ⟨0, gg, _, by omega, rfl, hmat, HE0, HG0, hbel⟩
      case round =>
        clear hmat hbel HE0 HG0
        obtain ⟨k, gg, M, hk, rfl, hmat, hme, hgi, hbel⟩ := hrel
        by_cases hltk : k < j
        · obtain ⟨P, hP1, hP2, hP3⟩ := hgi.out.pivot hltk
          have hP3' : M P k ≠ 0 := fun e => hP3 (by show VF.of V (M P k) = 0; rw [e]; exact VF.of_zero)
          have HP := Lib.hid hP3'
          clear hP3 hP3'
          obtain ⟨wo, rfl⟩ : ∃ wo : World, wo = wr := ⟨_, rfl⟩
          go_wp2_with fail
          go_loopw [14] (fun t wr => ∃ (q : Nat), k ≤ q ∧ q ≤ P ∧ t = .int .i64 q ∧ wr = wo) (fun t _ => (P - intOf t).toNat)
          case atStart => exact ⟨k, by omega, hP1, rfl, rfl⟩
          case round =>
            obtain ⟨q, hq1, hq2, rfl, rfl⟩ := hrel
            obtain ⟨r0, r1, r2⟩ := hmat.out.row (j := q) (by omega)
            obtain ⟨x0, x1, x2⟩ := hmat.out.cell (j := q) (m := k) (by omega) (by omega)
            by_cases hz0 : M q k = 0
            · have hz0' : (M q k == 0) = true := by simp [hz0]
              have hqP : q ≠ P := fun e => HP.out (by rw [← e]; exact hz0)
              clear hz0
              go_wp2_with fail
              go_roundw
              case rel => exact ⟨q + 1, by omega, by omega, by go_num, by first | rfl | trivial⟩
              case measure => simp [intOf]; omega
            · have hz0' : (M q k == 0) = false := by simp [hz0]
              have hz1 : VF.of V (M q k) ≠ 0 := fun e => hz0 ((VF.of_eq_zero (hme.out q k)).1 e)
              have HSG := Lib.hid (hgi.out.swap hltk (show q < j by omega) hq1)
              rw [← swap_of] at HSG
              have HSM := Lib.hid (hmat.out.swap hltk (show q < j by omega))
              have HSE := Lib.hid (show MEl V (fun i => M (if i = k then q else if i = q then k else i)) from fun i m => hme.out _ m)
              have HSK := Lib.hid (show (if k = k then q else if k = q then k else k) = q by simp)
              have HZ0 := Lib.hid hz0
              obtain ⟨r3, r4, r5⟩ := hmat.out.row (j := k) hltk
              have hqj : q < j := by omega
              have hqj' : (q : Int) < (j : Int) := by omega
              have hkj' : (k : Int) < (j : Int) := by omega
              have r6 : (wr.setCell ⟨w.heap.size, k, none⟩ (.slice (some ⟨gg q, 0, none⟩) (j + 1) (j + 1))).cell? ⟨w.heap.size, q, none⟩ = some (.slice (some ⟨gg q, 0, none⟩) (j + 1) (j + 1)) := by
                by_cases e : q = k
                · subst e; apply World.cell?_setCell_same; exact r0
                · refine Eq.trans ?_ r0; apply World.cell?_setCell_other; intro x; exact e (by have := congrArg Addr.off x; exact this.symm)
              have r7 : (wr.setCell ⟨w.heap.size, k, none⟩ (.slice (some ⟨gg q, 0, none⟩) (j + 1) (j + 1))).frozen? ⟨w.heap.size, q, none⟩ = false := by
                rw [World.frozen?_setCell]; exact r1
              go_wp2_with fail
              clear hz0 x0 x1 x2
              go_region
              have HM2 := Lib.hid (HSM.out.below (Drew.below (drew1 _) _))
              have HB2 := Lib.hid (((hbel.out.setCell (p := ⟨w.heap.size, k, none⟩) (Nat.le_refl _) (.slice (some ⟨gg q, 0, none⟩) (j + 1) (j + 1))).setCell (p := ⟨w.heap.size, q, none⟩) (Nat.le_refl _) (.slice (some ⟨gg k, 0, none⟩) (j + 1) (j + 1))).trans (Drew.below (drew1 _) _))
              obtain ⟨w2, hw2⟩ : ∃ w2, ((wr.setCell ⟨w.heap.size, k, none⟩ (.slice (some ⟨gg q, 0, none⟩) (j + 1) (j + 1))).setCell ⟨w.heap.size, q, none⟩ (.slice (some ⟨gg k, 0, none⟩) (j + 1) (j + 1))).drew = w2 := ⟨_, rfl⟩
              rw [hw2] at HM2 HB2 ⊢
              have hkk : (fun i => M (if i = k then q else if i = q then k else i)) k k = M q k := by show M (if k = k then q else _) k = _; rw [if_pos rfl]
              have HKK := Lib.hid hkk
              obtain ⟨M2, hM2⟩ : ∃ M2 : Nat → Nat → Int, (fun i => M (if i = k then q else if i = q then k else i)) = M2 := ⟨_, rfl⟩
              obtain ⟨g2, hg2⟩ : ∃ g2 : Nat → Nat, (fun i => gg (if i = k then q else if i = q then k else i)) = g2 := ⟨_, rfl⟩
              rw [hM2] at HM2 HSG HSE HKK
              rw [hg2] at HM2
              clear hw2 hM2 hg2 hkk HSM HSK r0 r1 r2 r3 r4 r5 r6 r7 hmat hme hgi hbel
              have hd0 : M2 k k ≠ 0 := by rw [HKK.out]; exact HZ0.out
              obtain ⟨bc, hc0, hcal⟩ := (HCOD.out.below HB2.out).calV hs.sf
              obtain ⟨r0, r1, r2⟩ := HM2.out.row (j := k) hltk
              obtain ⟨x0, x1, x2⟩ := HM2.out.cell (j := k) (m := k) hltk (by omega)
              have hMe := HSE.out k k
              have hie := FF.inv_el V.ok (M2 k k)
              have HI := Lib.hid (fun m => inv_any (hcal.drewN m) (M2 k k) hMe hd0)
              have hof := VF.of_inv (V := V) hMe hd0
              have HGS := Lib.hid (HSG.out.scale hltk (a := VF.of V (V.F.inv (M2 k k))) hof)
              have HIE := Lib.hid hie
              have HBC := Lib.hid hc0
              clear hd0 hcal hMe hie hof HKK HZ0
              generalize V.F.inv (M2 k k) = iv at *
              have hkj2 : (k : Int) < (j : Int) + 1 := by omega
              go_wp2_with fail
              go_quiet (first | (go_at_call 121; exact Calls.quiet_of (HI.out _)))
              go_wp2_with fail
              have HMS := Lib.hid (fun q => (show MatAt (w2.drewN q) w.heap.size w.heap.size j j g2 (mSc V.F M2 k iv k) by rw [mSc_start]; exact HM2.out.below (Drew.below (drew4 _ _) _)))
              have HBS := Lib.hid (fun q => HB2.out.trans ((Drew.below (drew4 w2 q) w2.heap.size).mono HB2.out.size))
              clear r0 r1 r2 x0 x1 x2 hc0 HI hz0' hz1 hkj2 hkj' hqj'
              go_loopw [16] (fun t wr => ∃ (c : Nat), k ≤ c ∧ c ≤ j + 1 ∧ t = .int .i64 c ∧ Hid (MatAt wr w.heap.size w.heap.size j j g2 (mSc V.F M2 k iv c)) ∧ Hid (Below w.heap.size w wr)) (fun t _ => (j + 1 - intOf t).toNat)
              case atStart => exact ⟨k, by omega, by omega, rfl, Lib.hid (HMS.out _), Lib.hid (HBS.out _)⟩
              case round =>
                obtain ⟨c, hc1', hc2', rfl, hmat, hbel⟩ := hrel
                clear HMS HBS
                by_cases hltc : c < j + 1
                · obtain ⟨bc, hc0, hcal⟩ := (HCOD.out.below hbel.out).calV hs.sf
                  obtain ⟨r0, r1, r2⟩ := hmat.out.row (j := k) hltk
                  obtain ⟨x0, x1, x2⟩ := hmat.out.cell (j := k) (m := c) hltk (by omega)
                  rw [mSc_at] at x0
                  have hMe := HSE.out k c
                  have HM := Lib.hid (fun W (hd : Drew wr W) => mul_any (hd.cal hcal) (M2 k c) iv hMe HIE.out)
                  have HPL := Lib.hid (show ∀ W, Drew wr W → W.cell? ⟨g2 k, c, none⟩ = some (.int .i64 (M2 k c)) ∧ W.frozen? ⟨g2 k, c, none⟩ = false from fun W hd => by
                    obtain ⟨y0, y1, _⟩ := (hmat.out.below (hd.below _)).cell (j := k) (m := c) hltk (by omega)
                    rw [mSc_at] at y0
                    exact ⟨y0, y1⟩)
                  have HST := Lib.hid (fun W (hd : Drew wr W) => (show MatAt (W.setCell ⟨g2 k, c, none⟩ (.int .i64 (V.F.mul (M2 k c) iv))) w.heap.size w.heap.size j j g2 (mSc V.F M2 k iv (c + 1)) by
                    rw [← mSc_next _ _ _ _ _ hc1']; exact (hmat.out.below (hd.below _)).set hltk (by omega) _))
                  have HBS := Lib.hid (fun W (hd : Drew wr W) => (hbel.out.trans ((hd.below wr.heap.size).mono hbel.out.size)).setCell (p := ⟨g2 k, c, none⟩) (hmat.out.base.2 k hltk) (.int .i64 (V.F.mul (M2 k c) iv)))
                  have hcj : (c : Int) ≤ (j : Int) := by omega
                  have hcj2 : (c : Int) < (j : Int) + 1 := by omega
                  have hkj3 : (k : Int) < (j : Int) := by omega
                  clear hcal hMe
                  generalize V.F.mul (M2 k c) iv = y at *
                  generalize M2 k c = xx at *
                  go_wp2_with fail
                  refine wp_region_last (S := (fun w' => w'.cell? ⟨w.heap.size, k, none⟩ = some (.slice (some ⟨g2 k, 0, none⟩) (j + 1) (j + 1)) ∧ w'.cell? ⟨b, 0, none⟩ = some (.pointer (some ⟨bc, 0, none⟩)) ∧ w'.cell? ⟨g2 k, c, none⟩ = some (.int .i64 xx))) 19 (by kernel_rfl) rfl (by kernel_rfl) ?_ (fun hHeld => ?_)
                  · (try dsimp only); exact ⟨r0, hc0, x0⟩
                  simp only [List.take_succ_cons, List.take_zero]
                  refine wpAnyH_take (i := 0) (oi := _) (v := ?_) rfl (by kernel_rfl) (by kernel_rfl) (by kernel_rfl) (fun _ _ _ h => h) (Or.inl ⟨by rfl, ?_⟩) hHeld ?_
                  rotate_left
                  · intro w0 hSw; (try dsimp only at hSw); go_simp; (try with_reducible rfl)
                  (try dsimp only [Act.put, List.setIfInBounds_toArray, List.set_cons_zero, List.set_cons_succ])
                  refine wpAnyH_take (i := 1) (oi := _) (v := ?_) rfl (by kernel_rfl) (by kernel_rfl) (by kernel_rfl) (fun _ _ _ h => h) (Or.inl ⟨by rfl, ?_⟩) hHeld ?_
                  rotate_left
                  · intro w0 hSw; (try dsimp only at hSw); go_simp; (try with_reducible rfl)
                  (try dsimp only [Act.put, List.setIfInBounds_toArray, List.set_cons_zero, List.set_cons_succ])
                  refine wpAnyH_take (i := 2) (oi := _) (v := ?_) rfl (by kernel_rfl) (by kernel_rfl) (by kernel_rfl) (fun _ _ _ h => h) (Or.inl ⟨by rfl, ?_⟩) hHeld ?_
                  rotate_left
                  · intro w0 hSw; (try dsimp only at hSw); go_simp; (try with_reducible rfl)
                  (try dsimp only [Act.put, List.setIfInBounds_toArray, List.set_cons_zero, List.set_cons_succ])
                  refine wpAnyH_take (i := 3) (oi := _) (v := ?_) rfl (by kernel_rfl) (by kernel_rfl) (by kernel_rfl) (fun _ _ _ h => h) (Or.inl ⟨by rfl, ?_⟩) hHeld ?_
                  rotate_left
                  · intro w0 hSw; (try dsimp only at hSw); go_simp; (try with_reducible rfl)
                  (try dsimp only [Act.put, List.setIfInBounds_toArray, List.set_cons_zero, List.set_cons_succ])
                  refine wpAnyH_take (i := 4) (oi := _) (v := ?_) rfl (by kernel_rfl) (by kernel_rfl) (by kernel_rfl) (fun _ _ _ h => h) (Or.inl ⟨by rfl, ?_⟩) hHeld ?_
                  rotate_left
                  · intro w0 hSw; (try dsimp only at hSw); go_simp; (try with_reducible rfl)
                  (try dsimp only [Act.put, List.setIfInBounds_toArray, List.set_cons_zero, List.set_cons_succ])
                  refine wpAnyH_take (i := 5) (oi := _) (v := ?_) rfl (by kernel_rfl) (by kernel_rfl) (by kernel_rfl) (fun _ _ _ h => h) (Or.inl ⟨by rfl, ?_⟩) hHeld ?_
                  rotate_left
                  · intro w0 hSw; (try dsimp only at hSw); go_simp; (try with_reducible rfl)
                  (try dsimp only [Act.put, List.setIfInBounds_toArray, List.set_cons_zero, List.set_cons_succ])
                  refine wpAnyH_take (i := 6) (oi := _) (v := ?_) rfl (by kernel_rfl) (by kernel_rfl) (by kernel_rfl) (fun _ _ _ h => h) (Or.inl ⟨by rfl, ?_⟩) hHeld ?_
                  rotate_left
                  · intro w0 hSw; (try dsimp only at hSw); go_simp; (try with_reducible rfl)
                  (try dsimp only [Act.put, List.setIfInBounds_toArray, List.set_cons_zero, List.set_cons_succ])
                  refine wpAnyH_take (i := 7) (oi := _) (v := ?_) rfl (by kernel_rfl) (by kernel_rfl) (by kernel_rfl) (fun _ _ _ h => h) (Or.inl ⟨by rfl, ?_⟩) hHeld ?_
                  rotate_left
                  · intro w0 hSw; (try dsimp only at hSw); go_simp; (try with_reducible rfl)
                  (try dsimp only [Act.put, List.setIfInBounds_toArray, List.set_cons_zero, List.set_cons_succ])
                  refine wpAnyH_take (i := 8) (oi := _) (v := ?_) rfl (by kernel_rfl) (by kernel_rfl) (by kernel_rfl) (fun _ _ _ h => h) (Or.inl ⟨by rfl, ?_⟩) hHeld ?_
                  rotate_left
                  · intro w0 hSw; (try dsimp only at hSw); go_simp; (try with_reducible rfl)
                  (try dsimp only [Act.put, List.setIfInBounds_toArray, List.set_cons_zero, List.set_cons_succ])
                  refine wpAnyH_take (i := 9) (oi := _) (v := ?_) rfl (by kernel_rfl) (by kernel_rfl) (by kernel_rfl) (fun _ _ _ h => h) (Or.inl ⟨by rfl, ?_⟩) hHeld ?_
                  rotate_left
                  · intro w0 hSw; (try dsimp only at hSw); go_simp; (try with_reducible rfl)
                  (try dsimp only [Act.put, List.setIfInBounds_toArray, List.set_cons_zero, List.set_cons_succ])
                  refine wpAnyH_take (i := 10) (oi := _) (v := ?_) rfl (by kernel_rfl) (by kernel_rfl) (by kernel_rfl) (fun _ _ _ h => h) (Or.inl ⟨by rfl, ?_⟩) hHeld ?_
                  rotate_left
                  · intro w0 hSw; (try dsimp only at hSw); go_simp; (try with_reducible rfl)
                  (try dsimp only [Act.put, List.setIfInBounds_toArray, List.set_cons_zero, List.set_cons_succ])
                  refine wpAnyH_take (i := 11) (oi := _) (v := ?_) rfl (by kernel_rfl) (by kernel_rfl) (by kernel_rfl) (fun _ _ _ h => h) (Or.inl ⟨by rfl, ?_⟩) hHeld ?_
                  rotate_left
                  · intro w0 hSw; (try dsimp only at hSw); go_simp; (try with_reducible rfl)
                  (try dsimp only [Act.put, List.setIfInBounds_toArray, List.set_cons_zero, List.set_cons_succ])
                  refine wpAnyH_take (i := 12) (oi := _) (v := ?_) rfl (by kernel_rfl) (by kernel_rfl) (by kernel_rfl) (fun _ _ _ h => h) (Or.inl ⟨by rfl, ?_⟩) hHeld ?_
                  rotate_left
                  · intro w0 hSw; (try dsimp only at hSw); go_simp; (try with_reducible rfl)
                  (try dsimp only [Act.put, List.setIfInBounds_toArray, List.set_cons_zero, List.set_cons_succ])
                  refine wpAnyH_take (i := 13) (oi := _) (v := ?_) rfl (by kernel_rfl) (by kernel_rfl) (by kernel_rfl) (fun _ _ _ h => h) (Or.inl ⟨by rfl, ?_⟩) hHeld ?_
                  rotate_left
                  · intro w0 hSw; (try dsimp only at hSw); go_simp; (try with_reducible rfl)
                  (try dsimp only [Act.put, List.setIfInBounds_toArray, List.set_cons_zero, List.set_cons_succ])
                  refine wpAnyH_take (i := 14) (oi := _) (v := ?_) rfl (by kernel_rfl) (by kernel_rfl) (by kernel_rfl) (fun _ _ _ h => h) (Or.inl ⟨by rfl, ?_⟩) hHeld ?_
                  rotate_left
                  · intro w0 hSw; (try dsimp only at hSw); go_simp; (try with_reducible rfl)
                  (try dsimp only [Act.put, List.setIfInBounds_toArray, List.set_cons_zero, List.set_cons_succ])
                  refine wpAnyH_take (i := 15) (oi := _) (v := ?_) rfl (by kernel_rfl) (by kernel_rfl) (by kernel_rfl) (fun _ _ _ h => h) (Or.inl ⟨by rfl, ?_⟩) hHeld ?_
                  rotate_left
                  · intro w0 hSw; (try dsimp only at hSw); go_simp; (try with_reducible rfl)
                  (try dsimp only [Act.put, List.setIfInBounds_toArray, List.set_cons_zero, List.set_cons_succ])
                  refine wpAnyH_take (i := 16) (oi := _) (v := ?_) rfl (by kernel_rfl) (by kernel_rfl) (by kernel_rfl) (fun _ _ _ h => h) (Or.inl ⟨by rfl, ?_⟩) hHeld ?_
                  rotate_left
                  · intro w0 hSw; (try dsimp only at hSw); go_simp; (try with_reducible rfl)
                  (try dsimp only [Act.put, List.setIfInBounds_toArray, List.set_cons_zero, List.set_cons_succ])
                  refine wpAnyH_ready (rs := [17]) (by kernel_rfl) (by simp) ?_
                  refine AllReadyH.cons (o := _) rfl (fun K hK => ?_) AllReadyH.nil
                  go_simp
                  with_reducible refine (HM.out _ (drew1 wr)).mono ?_
                  rintro e w5 ⟨rfl, hd5'⟩
                  have hd5 : Drew wr w5 := Drew.trans (drew1 wr) hd5'
                  obtain ⟨hp5, hf5⟩ := HPL.out w5 hd5
                  go_wp2_with fail
                  refine hK.out _ _ ?_ (fun hHeld => ?_)
                  · (try dsimp only); have hbd : Below wr.drew.heap.size wr.drew w5 := Drew.below (show Drew wr.drew w5 from hd5') _; exact ⟨keep_cell hbd hHeld.1, keep_cell hbd hHeld.2.1, keep_cell hbd hHeld.2.2⟩
                  clear hK K
                  (try dsimp only [Act.put, List.setIfInBounds_toArray, List.set_cons_zero, List.set_cons_succ])
                  refine wpAnyH_take (i := 18) (oi := _) (v := ?_) rfl (by kernel_rfl) (by kernel_rfl) (by kernel_rfl) (fun _ _ _ h => h) (Or.inl ⟨by rfl, ?_⟩) hHeld ?_
                  rotate_left
                  · intro w0 hSw; (try dsimp only at hSw); go_simp; (try with_reducible rfl)
                  (try dsimp only [Act.put, List.setIfInBounds_toArray, List.set_cons_zero, List.set_cons_succ])
                  refine wpAnyH_done (by kernel_rfl) (lastQ_normal ?_) _
                  go_wp2_with fail
                  go_roundw
                  case rel => exact ⟨c + 1, by omega, by omega, by go_num, Lib.hid (HST.out _ hd5), Lib.hid (HBS.out _ hd5)⟩
                  case measure => simp [intOf]; omega
                · obtain rfl : c = j + 1 := by omega
                  have hcj : ¬ ((j + 1 : Nat) : Int) ≤ (j : Int) := by omega
                  have HE3 := Lib.hid (show MEl V (mSc V.F M2 k iv (j + 1)) from mSc_el HSE.out _ _ _)
                  have HG3 := Lib.hid (show GE j (ofM V (mBld V.F L S idx j 0)) k 0 (ofM V (mSc V.F M2 k iv (j + 1))) by
                    rw [mSc_done HSE.out k j HIE.out]; exact HGS.out.start)
                  go_wp2_with fail
                  clear hcj hc1' hc2' hltc
                  go_loopw [150] (fun t wr => ∃ (J : Nat) (M3 : Nat → Nat → Int), J ≤ j ∧ t = .int .i64 J ∧ Hid (MatAt wr w.heap.size w.heap.size j j g2 M3) ∧ Hid (MEl V M3) ∧ Hid (GE j (ofM V (mBld V.F L S idx j 0)) k J (ofM V M3)) ∧ Hid (Below w.heap.size w wr)) (fun t _ => (j - intOf t).toNat)
                  case atStart => exact ⟨0, _, by omega, rfl, hmat, HE3, HG3, hbel⟩
                  case round =>
                    clear hmat hbel HE3 HG3
                    obtain ⟨J, M3, hJ, rfl, hmat, hme, hge, hbel⟩ := hrel
                    by_cases hltJ : J < j
                    · obtain ⟨r0, r1, r2⟩ := hmat.out.row (j := J) hltJ
                      obtain ⟨x0, x1, x2⟩ := hmat.out.cell (j := J) (m := k) hltJ (by omega)
                      have hkj2 : (k : Int) < (j : Int) + 1 := by omega
                      by_cases hJk : J = k
                      · subst hJk
                        have HSKP := Lib.hid (hge.out.skip (.inl rfl))
                        go_wp2_with fail
                        go_roundw
                        case rel => exact ⟨J + 1, M3, by omega, by go_num, hmat, hme, HSKP, hbel⟩
                        case measure => simp [intOf]; omega
                      · have hJk' : ((J : Int) == (k : Int)) = false := by simp; omega
                        by_cases hf0 : M3 J k = 0
                        · have hf0' : (M3 J k == 0) = true := by simp [hf0]
                          have HSKP := Lib.hid (hge.out.skip (.inr (show VF.of V (M3 J k) = 0 by rw [hf0]; exact VF.of_zero)))
                          clear hf0
                          go_wp2_with fail
                          go_roundw
                          case rel => exact ⟨J + 1, M3, by omega, by go_num, hmat, hme, HSKP, hbel⟩
                          case measure => simp [intOf]; omega
                        · have hf0' : (M3 J k == 0) = false := by simp [hf0]
                          have hfe := hme.out J k
                          have HFE := Lib.hid hfe
                          have HSTEP := Lib.hid (hge.out.step hltk hltJ hJk)
                          have HFD := Lib.hid (show VF.of V (M3 J k) = ofM V M3 J k from rfl)
                          rw [← HFD.out] at HSTEP
                          have HMS := Lib.hid (show MatAt wr w.heap.size w.heap.size j j g2 (mEl V.F M3 J k (M3 J k) k) by rw [mEl_start]; exact hmat.out)
                          clear hf0 hfe HFD
                          obtain ⟨ff, hff⟩ : ∃ ff, M3 J k = ff := ⟨_, rfl⟩
                          rw [hff] at HFE HSTEP HMS x0 hf0'
                          clear hff
                          go_wp2_with fail
                          clear r0 r1 r2 x0 x1 x2
                          go_loopw [19] (fun t wr => ∃ (c : Nat), k ≤ c ∧ c ≤ j + 1 ∧ t = .int .i64 c ∧ Hid (MatAt wr w.heap.size w.heap.size j j g2 (mEl V.F M3 J k ff c)) ∧ Hid (Below w.heap.size w wr)) (fun t _ => (j + 1 - intOf t).toNat)
                          case atStart => exact ⟨k, by omega, by omega, rfl, HMS, hbel⟩
                          case round =>
                            clear hmat hbel HMS
                            obtain ⟨c, hc1', hc2', rfl, hmat, hbel⟩ := hrel
                            by_cases hltc : c < j + 1
                            · obtain ⟨bc, hc0, hcal⟩ := (HCOD.out.below hbel.out).calV hs.sf
                              obtain ⟨r0, r1, r2⟩ := hmat.out.row (j := k) hltk
                              obtain ⟨s0, s1, s2⟩ := hmat.out.row (j := J) hltJ
                              obtain ⟨x0, x1, x2⟩ := hmat.out.cell (j := k) (m := c) hltk (by omega)
                              obtain ⟨y0, y1, y2⟩ := hmat.out.cell (j := J) (m := c) hltJ (by omega)
                              rw [mEl_at] at y0
                              rw [mEl_row _ _ _ _ _ _ hJk] at x0
                              have hMk := hme.out k c
                              have hMJ := hme.out J c
                              have hmu := FF.mul_el V.ok ff (M3 k c)
                              have HM := Lib.hid (fun W (hd : Drew wr W) => mul_any (hd.cal hcal) ff (M3 k c) HFE.out hMk)
                              have HS := Lib.hid (fun W (hd : Drew wr W) => sub_any (hd.cal hcal) (M3 J c) (V.F.mul ff (M3 k c)) hMJ hmu)
                              have HPL := Lib.hid (show ∀ W, Drew wr W → W.cell? ⟨g2 J, c, none⟩ = some (.int .i64 (M3 J c)) ∧ W.frozen? ⟨g2 J, c, none⟩ = false from fun W hd => by
                                obtain ⟨z0, z1, _⟩ := (hmat.out.below (hd.below _)).cell (j := J) (m := c) hltJ (by omega)
                                rw [mEl_at] at z0
                                exact ⟨z0, z1⟩)
                              have HST := Lib.hid (fun W (hd : Drew wr W) => (show MatAt (W.setCell ⟨g2 J, c, none⟩ (.int .i64 (V.F.add (M3 J c) (V.F.neg (V.F.mul ff (M3 k c)))))) w.heap.size w.heap.size j j g2 (mEl V.F M3 J k ff (c + 1)) by
                                rw [← mEl_next _ _ _ _ _ _ hc1']; exact (hmat.out.below (hd.below _)).set hltJ (by omega) _))
                              have HBS := Lib.hid (fun W (hd : Drew wr W) => (hbel.out.trans ((hd.below wr.heap.size).mono hbel.out.size)).setCell (p := ⟨g2 J, c, none⟩) (hmat.out.base.2 J hltJ) (.int .i64 (V.F.add (M3 J c) (V.F.neg (V.F.mul ff (M3 k c))))))
                              have hcj : (c : Int) ≤ (j : Int) := by omega
                              have hcj2 : (c : Int) < (j : Int) + 1 := by omega
                              have hkj3 : (k : Int) < (j : Int) := by omega
                              have hJj3 : (J : Int) < (j : Int) := by omega
                              clear hcal hMk hMJ hmu
                              generalize V.F.add (M3 J c) (V.F.neg (V.F.mul ff (M3 k c))) = y at *
                              generalize V.F.mul ff (M3 k c) = mm at *
                              generalize M3 J c = zz at *
                              generalize M3 k c = xx at *
                              go_wp2_with fail
                              refine wp_region_last (S := (fun w' => w'.cell? ⟨w.heap.size, J, none⟩ = some (.slice (some ⟨g2 J, 0, none⟩) (j + 1) (j + 1)) ∧ w'.cell? ⟨w.heap.size, k, none⟩ = some (.slice (some ⟨g2 k, 0, none⟩) (j + 1) (j + 1)) ∧ w'.cell? ⟨b, 0, none⟩ = some (.pointer (some ⟨bc, 0, none⟩)) ∧ w'.cell? ⟨g2 J, c, none⟩ = some (.int .i64 zz) ∧ w'.cell? ⟨g2 k, c, none⟩ = some (.int .i64 xx))) 31 (by kernel_rfl) rfl (by kernel_rfl) ?_ (fun hHeld => ?_)
                              · (try dsimp only); exact ⟨s0, r0, hc0, y0, x0⟩
                              simp only [List.take_succ_cons, List.take_zero]
                              refine wpAnyH_take (i := 0) (oi := _) (v := ?_) rfl (by kernel_rfl) (by kernel_rfl) (by kernel_rfl) (fun _ _ _ h => h) (Or.inl ⟨by rfl, ?_⟩) hHeld ?_
                              rotate_left
                              · intro w0 hSw; (try dsimp only at hSw); go_simp; (try with_reducible rfl)
                              (try dsimp only [Act.put, List.setIfInBounds_toArray, List.set_cons_zero, List.set_cons_succ])
                              refine wpAnyH_take (i := 1) (oi := _) (v := ?_) rfl (by kernel_rfl) (by kernel_rfl) (by kernel_rfl) (fun _ _ _ h => h) (Or.inl ⟨by rfl, ?_⟩) hHeld ?_
                              rotate_left
                              · intro w0 hSw; (try dsimp only at hSw); go_simp; (try with_reducible rfl)
                              (try dsimp only [Act.put, List.setIfInBounds_toArray, List.set_cons_zero, List.set_cons_succ])
                              refine wpAnyH_take (i := 2) (oi := _) (v := ?_) rfl (by kernel_rfl) (by kernel_rfl) (by kernel_rfl) (fun _ _ _ h => h) (Or.inl ⟨by rfl, ?_⟩) hHeld ?_
                              rotate_left
                              · intro w0 hSw; (try dsimp only at hSw); go_simp; (try with_reducible rfl)
                              (try dsimp only [Act.put, List.setIfInBounds_toArray, List.set_cons_zero, List.set_cons_succ])
                              refine wpAnyH_take (i := 3) (oi := _) (v := ?_) rfl (by kernel_rfl) (by kernel_rfl) (by kernel_rfl) (fun _ _ _ h => h) (Or.inl ⟨by rfl, ?_⟩) hHeld ?_
                              rotate_left
                              · intro w0 hSw; (try dsimp only at hSw); go_simp; (try with_reducible rfl)
                              (try dsimp only [Act.put, List.setIfInBounds_toArray, List.set_cons_zero, List.set_cons_succ])
                              refine wpAnyH_take (i := 4) (oi := _) (v := ?_) rfl (by kernel_rfl) (by kernel_rfl) (by kernel_rfl) (fun _ _ _ h => h) (Or.inl ⟨by rfl, ?_⟩) hHeld ?_
                              rotate_left
                              · intro w0 hSw; (try dsimp only at hSw); go_simp; (try with_reducible rfl)
                              (try dsimp only [Act.put, List.setIfInBounds_toArray, List.set_cons_zero, List.set_cons_succ])
                              refine wpAnyH_take (i := 5) (oi := _) (v := ?_) rfl (by kernel_rfl) (by kernel_rfl) (by kernel_rfl) (fun _ _ _ h => h) (Or.inl ⟨by rfl, ?_⟩) hHeld ?_
                              rotate_left
                              · intro w0 hSw; (try dsimp only at hSw); go_simp; (try with_reducible rfl)
                              (try dsimp only [Act.put, List.setIfInBounds_toArray, List.set_cons_zero, List.set_cons_succ])
                              refine wpAnyH_take (i := 6) (oi := _) (v := ?_) rfl (by kernel_rfl) (by kernel_rfl) (by kernel_rfl) (fun _ _ _ h => h) (Or.inl ⟨by rfl, ?_⟩) hHeld ?_
                              rotate_left
                              · intro w0 hSw; (try dsimp only at hSw); go_simp; (try with_reducible rfl)
                              (try dsimp only [Act.put, List.setIfInBounds_toArray, List.set_cons_zero, List.set_cons_succ])
                              refine wpAnyH_take (i := 7) (oi := _) (v := ?_) rfl (by kernel_rfl) (by kernel_rfl) (by kernel_rfl) (fun _ _ _ h => h) (Or.inl ⟨by rfl, ?_⟩) hHeld ?_
                              rotate_left
                              · intro w0 hSw; (try dsimp only at hSw); go_simp; (try with_reducible rfl)
                              (try dsimp only [Act.put, List.setIfInBounds_toArray, List.set_cons_zero, List.set_cons_succ])
                              refine wpAnyH_take (i := 8) (oi := _) (v := ?_) rfl (by kernel_rfl) (by kernel_rfl) (by kernel_rfl) (fun _ _ _ h => h) (Or.inl ⟨by rfl, ?_⟩) hHeld ?_
                              rotate_left
                              · intro w0 hSw; (try dsimp only at hSw); go_simp; (try with_reducible rfl)
                              (try dsimp only [Act.put, List.setIfInBounds_toArray, List.set_cons_zero, List.set_cons_succ])
                              refine wpAnyH_take (i := 9) (oi := _) (v := ?_) rfl (by kernel_rfl) (by kernel_rfl) (by kernel_rfl) (fun _ _ _ h => h) (Or.inl ⟨by rfl, ?_⟩) hHeld ?_
                              rotate_left
                              · intro w0 hSw; (try dsimp only at hSw); go_simp; (try with_reducible rfl)
                              (try dsimp only [Act.put, List.setIfInBounds_toArray, List.set_cons_zero, List.set_cons_succ])
                              refine wpAnyH_take (i := 10) (oi := _) (v := ?_) rfl (by kernel_rfl) (by kernel_rfl) (by kernel_rfl) (fun _ _ _ h => h) (Or.inl ⟨by rfl, ?_⟩) hHeld ?_
                              rotate_left
                              · intro w0 hSw; (try dsimp only at hSw); go_simp; (try with_reducible rfl)
                              (try dsimp only [Act.put, List.setIfInBounds_toArray, List.set_cons_zero, List.set_cons_succ])
                              refine wpAnyH_take (i := 11) (oi := _) (v := ?_) rfl (by kernel_rfl) (by kernel_rfl) (by kernel_rfl) (fun _ _ _ h => h) (Or.inl ⟨by rfl, ?_⟩) hHeld ?_
                              rotate_left
                              · intro w0 hSw; (try dsimp only at hSw); go_simp; (try with_reducible rfl)
                              (try dsimp only [Act.put, List.setIfInBounds_toArray, List.set_cons_zero, List.set_cons_succ])
                              refine wpAnyH_take (i := 12) (oi := _) (v := ?_) rfl (by kernel_rfl) (by kernel_rfl) (by kernel_rfl) (fun _ _ _ h => h) (Or.inl ⟨by rfl, ?_⟩) hHeld ?_
                              rotate_left
                              · intro w0 hSw; (try dsimp only at hSw); go_simp; (try with_reducible rfl)
                              (try dsimp only [Act.put, List.setIfInBounds_toArray, List.set_cons_zero, List.set_cons_succ])
                              refine wpAnyH_take (i := 13) (oi := _) (v := ?_) rfl (by kernel_rfl) (by kernel_rfl) (by kernel_rfl) (fun _ _ _ h => h) (Or.inl ⟨by rfl, ?_⟩) hHeld ?_
                              rotate_left
                              · intro w0 hSw; (try dsimp only at hSw); go_simp; (try with_reducible rfl)
                              (try dsimp only [Act.put, List.setIfInBounds_toArray, List.set_cons_zero, List.set_cons_succ])
                              refine wpAnyH_take (i := 14) (oi := _) (v := ?_) rfl (by kernel_rfl) (by kernel_rfl) (by kernel_rfl) (fun _ _ _ h => h) (Or.inl ⟨by rfl, ?_⟩) hHeld ?_
                              rotate_left
                              · intro w0 hSw; (try dsimp only at hSw); go_simp; (try with_reducible rfl)
                              (try dsimp only [Act.put, List.setIfInBounds_toArray, List.set_cons_zero, List.set_cons_succ])
                              refine wpAnyH_take (i := 15) (oi := _) (v := ?_) rfl (by kernel_rfl) (by kernel_rfl) (by kernel_rfl) (fun _ _ _ h => h) (Or.inl ⟨by rfl, ?_⟩) hHeld ?_
                              rotate_left
                              · intro w0 hSw; (try dsimp only at hSw); go_simp; (try with_reducible rfl)
                              (try dsimp only [Act.put, List.setIfInBounds_toArray, List.set_cons_zero, List.set_cons_succ])
                              refine wpAnyH_take (i := 16) (oi := _) (v := ?_) rfl (by kernel_rfl) (by kernel_rfl) (by kernel_rfl) (fun _ _ _ h => h) (Or.inl ⟨by rfl, ?_⟩) hHeld ?_
                              rotate_left
                              · intro w0 hSw; (try dsimp only at hSw); go_simp; (try with_reducible rfl)
                              (try dsimp only [Act.put, List.setIfInBounds_toArray, List.set_cons_zero, List.set_cons_succ])
                              refine wpAnyH_take (i := 17) (oi := _) (v := ?_) rfl (by kernel_rfl) (by kernel_rfl) (by kernel_rfl) (fun _ _ _ h => h) (Or.inl ⟨by rfl, ?_⟩) hHeld ?_
                              rotate_left
                              · intro w0 hSw; (try dsimp only at hSw); go_simp; (try with_reducible rfl)
                              (try dsimp only [Act.put, List.setIfInBounds_toArray, List.set_cons_zero, List.set_cons_succ])
                              refine wpAnyH_take (i := 18) (oi := _) (v := ?_) rfl (by kernel_rfl) (by kernel_rfl) (by kernel_rfl) (fun _ _ _ h => h) (Or.inl ⟨by rfl, ?_⟩) hHeld ?_
                              rotate_left
                              · intro w0 hSw; (try dsimp only at hSw); go_simp; (try with_reducible rfl)
                              (try dsimp only [Act.put, List.setIfInBounds_toArray, List.set_cons_zero, List.set_cons_succ])
                              refine wpAnyH_take (i := 19) (oi := _) (v := ?_) rfl (by kernel_rfl) (by kernel_rfl) (by kernel_rfl) (fun _ _ _ h => h) (Or.inl ⟨by rfl, ?_⟩) hHeld ?_
                              rotate_left
                              · intro w0 hSw; (try dsimp only at hSw); go_simp; (try with_reducible rfl)
                              (try dsimp only [Act.put, List.setIfInBounds_toArray, List.set_cons_zero, List.set_cons_succ])
                              refine wpAnyH_take (i := 20) (oi := _) (v := ?_) rfl (by kernel_rfl) (by kernel_rfl) (by kernel_rfl) (fun _ _ _ h => h) (Or.inl ⟨by rfl, ?_⟩) hHeld ?_
                              rotate_left
                              · intro w0 hSw; (try dsimp only at hSw); go_simp; (try with_reducible rfl)
                              (try dsimp only [Act.put, List.setIfInBounds_toArray, List.set_cons_zero, List.set_cons_succ])
                              refine wpAnyH_take (i := 21) (oi := _) (v := ?_) rfl (by kernel_rfl) (by kernel_rfl) (by kernel_rfl) (fun _ _ _ h => h) (Or.inl ⟨by rfl, ?_⟩) hHeld ?_
                              rotate_left
                              · intro w0 hSw; (try dsimp only at hSw); go_simp; (try with_reducible rfl)
                              (try dsimp only [Act.put, List.setIfInBounds_toArray, List.set_cons_zero, List.set_cons_succ])
                              refine wpAnyH_take (i := 22) (oi := _) (v := ?_) rfl (by kernel_rfl) (by kernel_rfl) (by kernel_rfl) (fun _ _ _ h => h) (Or.inl ⟨by rfl, ?_⟩) hHeld ?_
                              rotate_left
                              · intro w0 hSw; (try dsimp only at hSw); go_simp; (try with_reducible rfl)
                              (try dsimp only [Act.put, List.setIfInBounds_toArray, List.set_cons_zero, List.set_cons_succ])
                              refine wpAnyH_take (i := 23) (oi := _) (v := ?_) rfl (by kernel_rfl) (by kernel_rfl) (by kernel_rfl) (fun _ _ _ h => h) (Or.inl ⟨by rfl, ?_⟩) hHeld ?_
                              rotate_left
                              · intro w0 hSw; (try dsimp only at hSw); go_simp; (try with_reducible rfl)
                              (try dsimp only [Act.put, List.setIfInBounds_toArray, List.set_cons_zero, List.set_cons_succ])
                              refine wpAnyH_take (i := 24) (oi := _) (v := ?_) rfl (by kernel_rfl) (by kernel_rfl) (by kernel_rfl) (fun _ _ _ h => h) (Or.inl ⟨by rfl, ?_⟩) hHeld ?_
                              rotate_left
                              · intro w0 hSw; (try dsimp only at hSw); go_simp; (try with_reducible rfl)
                              (try dsimp only [Act.put, List.setIfInBounds_toArray, List.set_cons_zero, List.set_cons_succ])
                              refine wpAnyH_take (i := 25) (oi := _) (v := ?_) rfl (by kernel_rfl) (by kernel_rfl) (by kernel_rfl) (fun _ _ _ h => h) (Or.inl ⟨by rfl, ?_⟩) hHeld ?_
                              rotate_left
                              · intro w0 hSw; (try dsimp only at hSw); go_simp; (try with_reducible rfl)
                              (try dsimp only [Act.put, List.setIfInBounds_toArray, List.set_cons_zero, List.set_cons_succ])
                              refine wpAnyH_take (i := 26) (oi := _) (v := ?_) rfl (by kernel_rfl) (by kernel_rfl) (by kernel_rfl) (fun _ _ _ h => h) (Or.inl ⟨by rfl, ?_⟩) hHeld ?_
                              rotate_left
                              · intro w0 hSw; (try dsimp only at hSw); go_simp; (try with_reducible rfl)
                              (try dsimp only [Act.put, List.setIfInBounds_toArray, List.set_cons_zero, List.set_cons_succ])
                              refine wpAnyH_take (i := 27) (oi := _) (v := ?_) rfl (by kernel_rfl) (by kernel_rfl) (by kernel_rfl) (fun _ _ _ h => h) (Or.inl ⟨by rfl, ?_⟩) hHeld ?_
                              rotate_left
                              · intro w0 hSw; (try dsimp only at hSw); go_simp; (try with_reducible rfl)
                              (try dsimp only [Act.put, List.setIfInBounds_toArray, List.set_cons_zero, List.set_cons_succ])
                              refine wpAnyH_ready (rs := [28]) (by kernel_rfl) (by simp) ?_
                              refine AllReadyH.cons (o := _) rfl (fun K hK => ?_) AllReadyH.nil
                              go_simp
                              with_reducible refine (HM.out _ (drew1 wr)).mono ?_
                              rintro e w5 ⟨rfl, hd5'⟩
                              have hd5 : Drew wr w5 := Drew.trans (drew1 wr) hd5'
                              go_wp2_with fail
                              refine hK.out _ _ ?_ (fun hHeld => ?_)
                              · (try dsimp only); have hbd : Below wr.drew.heap.size wr.drew w5 := Drew.below (show Drew wr.drew w5 from hd5') _; exact ⟨keep_cell hbd hHeld.1, keep_cell hbd hHeld.2.1, keep_cell hbd hHeld.2.2.1, keep_cell hbd hHeld.2.2.2.1, keep_cell hbd hHeld.2.2.2.2⟩
                              clear hK K
                              (try dsimp only [Act.put, List.setIfInBounds_toArray, List.set_cons_zero, List.set_cons_succ])
                              refine wpAnyH_ready (rs := [29]) (by kernel_rfl) (by simp) ?_
                              refine AllReadyH.cons (o := _) rfl (fun K hK => ?_) AllReadyH.nil
                              go_simp
                              with_reducible refine (HS.out _ hd5).mono ?_
                              rintro e w6 ⟨rfl, rfl⟩
                              have hd6 := hd5
                              obtain ⟨hp5, hf5⟩ := HPL.out _ hd6
                              go_wp2_with fail
                              refine hK.out _ _ ?_ (fun hHeld => ?_)
                              · (try dsimp only); exact hHeld
                              clear hK K
                              (try dsimp only [Act.put, List.setIfInBounds_toArray, List.set_cons_zero, List.set_cons_succ])
                              refine wpAnyH_take (i := 30) (oi := _) (v := ?_) rfl (by kernel_rfl) (by kernel_rfl) (by kernel_rfl) (fun _ _ _ h => h) (Or.inl ⟨by rfl, ?_⟩) hHeld ?_
                              rotate_left
                              · intro w0 hSw; (try dsimp only at hSw); go_simp; (try with_reducible rfl)
                              (try dsimp only [Act.put, List.setIfInBounds_toArray, List.set_cons_zero, List.set_cons_succ])
                              refine wpAnyH_done (by kernel_rfl) (lastQ_normal ?_) _
                              go_wp2_with fail
                              go_roundw
                              case rel => exact ⟨c + 1, by omega, by omega, by go_num, Lib.hid (HST.out _ hd6), Lib.hid (HBS.out _ hd6)⟩
                              case measure => simp [intOf]; omega
                            · obtain rfl : c = j + 1 := by omega
                              have hcj : ¬ ((j + 1 : Nat) : Int) ≤ (j : Int) := by omega
                              have HE4 := Lib.hid (show MEl V (mEl V.F M3 J k ff (j + 1)) from mEl_el hme.out _ _ _ _)
                              have HG4 := Lib.hid (show GE j (ofM V (mBld V.F L S idx j 0)) k (J + 1) (ofM V (mEl V.F M3 J k ff (j + 1))) by
                                rw [mEl_done hme.out J k j HFE.out]; exact HSTEP.out)
                              go_wp2_with fail
                              go_roundw
                              case rel => exact ⟨J + 1, _, by omega, by go_num, hmat, HE4, HG4, hbel⟩
                              case measure => simp [intOf]; omega
                    · obtain rfl : J = j := by omega
                      have HGD := Lib.hid (hge.out.done hltk)
                      go_wp2_with fail
                      go_roundw
                      case rel => exact ⟨k + 1, g2, M3, by omega, by go_num, hmat, hme, HGD, hbel⟩
                      case measure => simp [intOf]; omega
        · obtain rfl : k = j := by omega
          have hsol : PS.Sol idx.length (MX V L S idx) (fun m => VF.of V (gi (colL M k k) m)) := by
            have h1 := hgi.out.done
            have h0 := mBld_MX (V := V) (S := S) (show RisTo 0 ((L : Int) - 1) idx idx.length by rw [hlen.out]; exact HRIS.out)
            rw [hlen.out] at h0
            have h2 := (sol_congr (n := k) h0 _).1 h1
            rw [hlen.out]
            intro t ht
            refine Eq.trans ?_ (h2 t ht)
            exact PS.dot_congr _ fun m hm => ⟨rfl, by rw [colL_gi M hm]; rfl⟩
          have hvs := colL_els hme.out k k
          obtain ⟨hsv1, hsv2⟩ := sol_vals hlV (by rw [hlen.out]; exact HRIS.out) (by rw [hlen.out]; exact hN) HZ.out hSlen.out hvs (by rw [colL_length, hlen.out]) hsol
          have HV1 := Lib.hid hsv1
          have HV2 := Lib.hid hsv2
          have HVE := Lib.hid hvs
          have HVL := Lib.hid (colL_length M k k)
          have HVG := Lib.hid (fun m (hm : m < k) => colL_gi M (n := k) hm)
          clear hsol hsv1 hsv2 hvs hmk2
          generalize colL M k k = vs at *
          have hcl0 := (HCOD.out.below hbel.out).len
          have hmkL := fun w => run_make_ints w 26 Try.underlying26 (L : Int) (by omega) (by omega)
          have hmkN := fun w => run_make_ints w 26 Try.underlying26 (k : Int) (by omega) (by omega)
          simp only [Int.toNat_natCast] at hmkL hmkN
          obtain ⟨w3, rfl⟩ : ∃ w3 : World, w3 = wr := ⟨_, rfl⟩
          have HOW := Lib.hid (show OwnL ((w3.alloc (.cells (madeCells #[.int .i64 0] L) 2)).alloc (.cells (madeCells #[.int .i64 0] k) 2)) w3.heap.size (.slice (some ⟨w3.heap.size, 0, none⟩) L L) (spTo L idx vs 0) from
            (OwnL.zeros w3 w3.heap.size (Nat.le_refl _) L (by omega)).below (below1 _ _))
          have HOO := Lib.hid (show OwnL ((w3.alloc (.cells (madeCells #[.int .i64 0] L) 2)).alloc (.cells (madeCells #[.int .i64 0] k) 2)) w3.heap.size (.slice (some ⟨w3.heap.size + 1, 0, none⟩) k k) (copyTo vs 0) by
            have := OwnL.zeros (w3.alloc (.cells (madeCells #[.int .i64 0] L) 2)) w3.heap.size (by simp) k (by omega)
            rw [show (w3.alloc (.cells (madeCells #[.int .i64 0] L) 2)).heap.size = w3.heap.size + 1 by simp] at this
            unfold copyTo; rw [HVL.out]; exact this)
          have HOB := Lib.hid ((below1 w3 (.cells (madeCells #[.int .i64 0] L) 2)).alloc (by simp) (.cells (madeCells #[.int .i64 0] k) 2))
          go_wp2_with fail
          clear hmkL hmkN hcl0
          go_loopw [214] (fun t wr => ∃ (m : Nat), m ≤ k ∧ t = .int .i64 m ∧ Hid (OwnL wr w3.heap.size (.slice (some ⟨w3.heap.size, 0, none⟩) L L) (spTo L idx vs m)) ∧ Hid (OwnL wr w3.heap.size (.slice (some ⟨w3.heap.size + 1, 0, none⟩) k k) (copyTo vs m)) ∧ Hid (Below w3.heap.size w3 wr)) (fun t _ => (k - intOf t).toNat)
          case atStart => exact ⟨0, by omega, rfl, HOW, HOO, HOB⟩
          case round =>
            clear HOW HOO HOB
            obtain ⟨m, hm, rfl, how, hoo, hbw⟩ := hrel
            have HBW := Lib.hid (hbel.out.trans (hbw.out.mono hbel.out.size))
            by_cases hltm : m < k
            · obtain ⟨r0, r1, r2⟩ := (hmat.out.below hbw.out).row (j := m) hltm
              obtain ⟨x0, x1, x2⟩ := (hmat.out.below hbw.out).cell (j := m) (m := k) hltm (Nat.le_refl _)
              rw [← HVG.out m hltm] at x0
              obtain ⟨b1, o1, rfl, _, hcs⟩ := (HR'.out.below' HBW.out).at' (by omega)
              have hcell := hcs m hltm
              obtain ⟨hi0, hi1, _⟩ := HRIS.out m hltm
              obtain ⟨J, hJ⟩ : ∃ J : Nat, gi idx m = (J : Int) := ⟨(gi idx m).toNat, by omega⟩
              have hJL : J < L := by omega
              have hJL' : (J : Int) < (L : Int) := by omega
              have hcl := copyTo_length vs m (by rw [HVL.out]; exact hm)
              have hsl := spTo_length L idx vs m
              have hb1 : b1 < w3.heap.size := by obtain ⟨_, _, e, h, _⟩ := (HR'.out.below' hbel.out).at' (by omega); cases e; exact h
              -- the first store
              obtain ⟨_, _, ea, -, hra⟩ := hoo.out.shape
              simp only [Value.slice.injEq] at ea
              obtain ⟨rfl, -, -⟩ := ea
              obtain ⟨p0, p1, p2⟩ := hra.place (i := m) (by rw [hcl, HVL.out]; exact hltm)
              have HO2 := Lib.hid (show OwnL (wr.setCell ⟨w3.heap.size + 1, m, none⟩ (.int .i64 (gi vs m))) w3.heap.size (.slice (some ⟨w3.heap.size + 1, 0, none⟩) k k) (copyTo vs (m + 1)) by
                have := hoo.out.set (k := m) (by rw [hcl, HVL.out]; exact hltm) (gi vs m)
                rw [copyTo_set vs m (by rw [HVL.out]; exact hltm)]; exact this)
              have HW2 := Lib.hid (how.out.other (j := m) (x := .int .i64 (gi vs m)) (G := w3.heap.size + 1) (fun t ht => by simp [Value.ownBlock] at ht; omega))
              have hcl2 := copyTo_length vs (m + 1) (by rw [HVL.out]; omega)
              obtain ⟨_, _, ea, -, hra2⟩ := HO2.out.shape
              simp only [Value.slice.injEq] at ea
              obtain ⟨rfl, -, -⟩ := ea
              obtain ⟨q0, q1, q2⟩ := hra2.place (i := m) (by rw [hcl2, HVL.out]; exact hltm)
              have hgm : gi (copyTo vs (m + 1)) m = gi vs m := by rw [copyTo_set vs m (by rw [HVL.out]; exact hltm)]; exact gi_set_self _ _ _ (by rw [hcl, HVL.out]; exact hltm)
              rw [hgm] at q0
              obtain ⟨_, _, ea, -, hrw⟩ := HW2.out.shape
              simp only [Value.slice.injEq] at ea
              obtain ⟨rfl, -, -⟩ := ea
              obtain ⟨t0, t1, t2⟩ := hrw.place (i := J) (by rw [hsl]; exact hJL)
              have HW3 := Lib.hid (show OwnL ((wr.setCell ⟨w3.heap.size + 1, m, none⟩ (.int .i64 (gi vs m))).setCell ⟨w3.heap.size, J, none⟩ (.int .i64 (gi vs m))) w3.heap.size (.slice (some ⟨w3.heap.size, 0, none⟩) L L) (spTo L idx vs (m + 1)) by
                have := HW2.out.set (k := J) (by rw [hsl]; exact hJL) (gi vs m)
                show OwnL _ _ _ ((spTo L idx vs m).set (gi idx m).toNat (gi vs m))
                rw [hJ, Int.toNat_natCast]; exact this)
              have HO3 := Lib.hid (HO2.out.other (j := J) (x := .int .i64 (gi vs m)) (G := w3.heap.size) (fun t ht => by simp [Value.ownBlock] at ht; omega))
              have HB3 := Lib.hid ((hbw.out.setCell (p := ⟨w3.heap.size + 1, m, none⟩) (by simp) (.int .i64 (gi vs m))).setCell (p := ⟨w3.heap.size, J, none⟩) (Nat.le_refl _) (.int .i64 (gi vs m)))
              rw [hJ] at hcell
              have hmk' : (m : Int) < (k : Int) := by omega
              have hkk' : (k : Int) < (k : Int) + 1 := by omega
              clear hcs hra hra2 hrw hgm hcl hcl2 hsl hJ hi0 hi1
              generalize gi vs m = vm at *
              go_wp2_with fail
              go_roundw
              case rel => exact ⟨m + 1, by omega, by go_num, HW3, HO3, HB3⟩
              case measure => simp [intOf]; omega
            · obtain rfl : m = k := by omega
              have HSPR := Lib.hid (show spTo L idx vs m = spread L idx vs by unfold spread; rw [hlen.out])
              rw [HSPR.out] at how
              rw [copyTo_end _ _ (by rw [HVL.out]; exact Nat.le_refl _)] at hoo
              have hspl : (spread L idx vs).length = L := spTo_length L idx vs _
              obtain ⟨_, _, ea, -, hrw⟩ := how.out.shape
              simp only [Value.slice.injEq] at ea
              obtain ⟨rfl, -, -⟩ := ea
              rw [hspl] at hrw
              have HSY := Lib.hid (implSyndromes_any p pw g L n (by omega) (by omega) hvB (HCOD.out.below HBW.out) (cap := L) hrw.row (by rw [← hs.sf.hV]; exact spTo_els HVE.out _))
              rw [← hs.sf.hV] at HSY
              simp only [Int.toNat_natCast] at HSY
              clear hspl hrw
              go_wp2_with fail
              refine HSY.out.mono ?_
              rintro e w5 ⟨v5, rfl, hb5, ho5⟩
              obtain ⟨a5, c5, rfl, -, ho5⟩ := ho5
              have HR5 := Lib.hid ho5.row
              have HB5 := Lib.hid (HBW.out.trans (hb5.mono HBW.out.size))
              have HOO := Lib.hid (hoo.out.below hb5)
              have hsl5 := syn_length V.F (spread L idx vs) n
              rw [hsl5] at HR5 ⊢
              have HSL := Lib.hid hsl5
              clear hb5 ho5 hsl5
              generalize syn V.F (spread L idx vs) n = sy at *
              go_wp2_with fail
              go_loopw [241] (fun t wr => ∃ (q : Nat), q ≤ n ∧ t = .int .i64 q ∧ Hid (∀ i, i < q → gi sy i = gi S i) ∧ wr = w5) (fun t _ => (n - intOf t).toNat)
              case atStart => exact ⟨0, by omega, rfl, Lib.hid (fun i hi => by omega), rfl⟩
              case round =>
                obtain ⟨q, hq, rfl, hall, rfl⟩ := hrel
                by_cases hltq : q < n
                · obtain ⟨b1, o1, rfl, _, hcs⟩ := HR5.out.at' (by omega)
                  have hc1 := hcs q hltq
                  obtain ⟨b2, o2, rfl, _, hcs2⟩ := (HR.out.below' HB5.out).at' (by omega)
                  have hc2 := hcs2 q hltq
                  clear hcs hcs2
                  by_cases heq : gi sy q = gi S q
                  · have heq' : (gi sy q != gi S q) = false := by simp [heq]
                    have HALL := Lib.hid (show ∀ i, i < q + 1 → gi sy i = gi S i from fun i hi => by
                      rcases Nat.lt_or_ge i q with h | h
                      · exact hall.out i h
                      · obtain rfl : i = q := by omega
                        exact heq)
                    clear heq
                    go_wp2_with fail
                    go_roundw
                    case rel => exact ⟨q + 1, by omega, by go_num, HALL, by first | rfl | trivial⟩
                    case measure => simp [intOf]; omega
                  · have heq' : (gi sy q != gi S q) = true := by simp [heq]
                    have hvb : valB V L n S idx = false := by
                      cases hv : valB V L n S idx
                      · rfl
                      · exact absurd (by rw [HV1.out.2 hv]) heq
                    have HVB := Lib.hid hvb
                    clear heq hvb
                    go_wp2_with fail
                    go_ret2
                    exact ⟨_, by rw [HVB.out]; rfl, HB5.out, by rw [valR_no HVB.out]; exact OwnL.nil _ _ HB5.out.size⟩
                · obtain rfl : q = n := by omega
                  have hsame : sy = S := by
                    apply List.ext_getElem?
                    intro i
                    rcases Nat.lt_or_ge i q with h | h
                    · have := hall.out i h
                      unfold gi at this
                      rw [List.getD_eq_getElem?_getD, List.getD_eq_getElem?_getD, List.getElem?_eq_getElem (by rw [HSL.out]; exact h), List.getElem?_eq_getElem (by rw [hSlen.out]; exact h)] at this
                      rw [List.getElem?_eq_getElem (by rw [HSL.out]; exact h), List.getElem?_eq_getElem (by rw [hSlen.out]; exact h)]
                      simpa using this
                    · rw [List.getElem?_eq_none (by rw [HSL.out]; exact h), List.getElem?_eq_none (by rw [hSlen.out]; exact h)]
                  have hvb := HV1.out.1 hsame
                  have HVB := Lib.hid hvb
                  have HVS := Lib.hid (HV2.out hvb)
                  rw [HVS.out] at HOO
                  clear hsame hvb
                  go_wp2_with fail
                  go_ret2
                  exact ⟨_, by rw [HVB.out]; rfl, HB5.out, by rw [valR_yes HVB.out]; exact HOO.out.lower hbel.out.size⟩
end Go.Proofs.Ytfhkkpfiflgofaa
