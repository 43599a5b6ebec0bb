/-
  The parts Like, Dice, FrameB.
-/
import Derived.Test.YtmbphpmabopifaaDoorDraw
import Derived.Test.YtmbphpmabopifaaDoorFrames
/-
  The walk of likeInts.
-/
namespace Go.Proofs.YtmbphpmabopifaaDoor
open Go.RowKit
set_option linter.unusedVariables false

theorem bigL_any (w : World) (c : Option Addr) (n cap : Nat) : Calls Tryd.prog 25 #[.slice c n cap] w fun e w' => e = .returned (.bool (decide ((4096 : Int) < (n : Int)))) ∧ w = w' := by
  go_enter Tryd.func25, Tryd.ntmps25
  go_wp2_with fail
  go_ret
  exact ⟨rfl, rfl⟩
theorem eq_of_gi {xs ys : List Int} (h : xs.length = ys.length) (hh : ∀ k, k < xs.length → gi xs k = gi ys k) : xs = ys := by
  apply List.ext_getElem h
  intro k h1 h2
  have := hh k h1
  unfold gi at this
  simpa [List.getD_eq_getElem?_getD, h1, h2] using this
end Go.Proofs.YtmbphpmabopifaaDoor
/-
  The walks of the dice of the laws.
-/
namespace Go.Proofs.YtmbphpmabopifaaDoor
open Go.RowKit
set_option linter.unusedVariables false

abbrev DiceT : TypeId := 64
/-- Block d is a dice. -/
structure DiceAt (w : World) (d : Nat) (c : Option Addr) (n cap : Nat) (bs : List Int) (i : Nat) (h : Int) : Prop where
  row : RowB w c n bs
  ne : 0 < n → ∀ x, c = some x → x.block < d
  le : i ≤ n
  blk : w.heap[d]? = some (.cells #[.slice c n cap, .int .i64 i, .int .u64 h] DiceT (0, 0))
def Dice (w : World) (d : Nat) : Prop := ∃ c n cap bs i h, DiceAt w d c n cap bs i h
section
variable {w : World} {d : Nat} {c : Option Addr} {n cap : Nat} {bs : List Int} {i : Nat} {h : Int}
theorem DiceAt.lt (H : DiceAt w d c n cap bs i h) : d < w.heap.size := lt_of_heap H.blk
theorem DiceAt.below {w' : World} (H : DiceAt w d c n cap bs i h) (hb : Below w.heap.size w w') : DiceAt w' d c n cap bs i h :=
  ⟨H.row.below' hb, H.ne, H.le, (hb.block d H.lt).trans H.blk⟩
theorem DiceAt.c0 (H : DiceAt w d c n cap bs i h) : w.cell? ⟨d, 0, none⟩ = some (.slice c n cap) := by unfold World.cell?; rw [H.blk]; rfl
theorem DiceAt.c1 (H : DiceAt w d c n cap bs i h) : w.cell? ⟨d, 1, none⟩ = some (.int .i64 i) := by unfold World.cell?; rw [H.blk]; rfl
theorem DiceAt.c2 (H : DiceAt w d c n cap bs i h) : w.cell? ⟨d, 2, none⟩ = some (.int .u64 h) := by unfold World.cell?; rw [H.blk]; rfl
theorem DiceAt.fz (H : DiceAt w d c n cap bs i h) (o : Nat) : w.frozen? ⟨d, o, none⟩ = false := by unfold World.frozen?; rw [H.blk]; simp
theorem DiceAt.seed (H : DiceAt w d c n cap bs i h) (x : Int) : DiceAt (w.setCell ⟨d, 2, none⟩ (.int .u64 x)) d c n cap bs i x :=
  ⟨H.row.dr (.set d 2 w _) (fun h0 x hx => Nat.ne_of_lt (H.ne h0 x hx)), H.ne, H.le, by rw [heap_setCell_self _ _ _ _ _ _ _ H.blk]; rfl⟩
theorem DiceAt.step (H : DiceAt w d c n cap bs i h) (hi : i < n) : DiceAt (w.setCell ⟨d, 1, none⟩ (.int .i64 ((i : Int) + 1))) d c n cap bs (i + 1) h :=
  ⟨H.row.dr (.set d 1 w _) (fun h0 x hx => Nat.ne_of_lt (H.ne h0 x hx)), H.ne, hi, by rw [heap_setCell_self _ _ _ _ _ _ _ H.blk]; rfl⟩
end
theorem Dice.drawn {W W' : World} {d : Nat} (h : Dice W d) (hD : Drew W W') : Dice W' d := let ⟨_, _, _, _, _, _, h⟩ := h; ⟨_, _, _, _, _, _, h.below (Drew.below hD _)⟩
theorem and24 (a : Int) : 0 ≤ bits BinOp.and IntKind.u64 a 16777215 ∧ bits BinOp.and IntKind.u64 a 16777215 ≤ 16777215 := by
  have h : (BitVec.ofInt 64 a &&& BitVec.ofInt 64 16777215).toNat ≤ 16777215 := by
    rw [BitVec.toNat_and]; exact Nat.and_le_right
  show 0 ≤ IntKind.u64.wrap ((BitVec.ofInt 64 a &&& BitVec.ofInt 64 16777215).toNat : Int) ∧ IntKind.u64.wrap ((BitVec.ofInt 64 a &&& BitVec.ofInt 64 16777215).toNat : Int) ≤ 16777215
  generalize (BitVec.ofInt 64 a &&& BitVec.ofInt 64 16777215).toNat = m at *
  have e : IntKind.u64.wrap (m : Int) = (m : Int) := IntWalk.u64_in _ (by omega)
  rw [e]; omega
theorem rollC_any {w : World} {c : Option Addr} {n cap : Nat} {bs : List Int} (hr : RowB w c n bs) (sd : Int) :
    Calls Tryd.prog 27 #[.slice c n cap, .int .u64 sd] w fun e w' => ∃ d, e = .returned (.pointer (some ⟨d, 0, none⟩)) ∧ w.heap.size ≤ d ∧ Below w.heap.size w w' ∧ ∃ i h, DiceAt w' d c n cap bs i h := by
  have HR := Lib.hid hr
  have hsm := hr.small
  have H0 := Lib.hid (fun h => show DiceAt (w.alloc (.cells #[.slice c n cap, .int .i64 0, .int .u64 h] DiceT)) w.heap.size c n cap bs 0 h from
    ⟨hr.below' (below1 _ _), fun h0 x hx => by obtain ⟨b, off, e, hb, _⟩ := hr.at' h0; rw [hx] at e; cases e; show b < w.heap.size; omega, by omega, heap_new _ _⟩)
  have B0 := Lib.hid (fun h => below1 w (.cells #[.slice c n cap, .int .i64 0, .int .u64 h] DiceT))
  clear hr
  go_enter Tryd.func27, Tryd.ntmps27
  go_wp2_with fail
  go_loopw [6] (fun t wr => ∃ (k : Nat) (h : Int), k ≤ n ∧ t = .int .i64 k ∧ Hid (DiceAt wr w.heap.size c n cap bs 0 h) ∧ Hid (Below w.heap.size w wr)) (fun t _ => n - (intOf t).toNat)
  case atStart => exact ⟨0, _, by omega, rfl, H0.out _, B0.out _⟩
  case round =>
    obtain ⟨k, h, hk, rfl, hs, hb⟩ := hrel
    clear H0 B0
    by_cases h1 : k < n
    · obtain ⟨b, off, rfl, hbb, hcell⟩ := hs.out.row.at' (by omega)
      have hcb := hcell k h1
      have c2 := hs.out.c2
      have f2 := hs.out.fz 2
      have HN := Lib.hid (fun x => hs.out.seed x)
      have BN := Lib.hid (fun x => hb.out.setCell (p := ⟨w.heap.size, 2, none⟩) (Nat.le_refl _) (.int .u64 x))
      clear hcell
      generalize gi bs k = z at *
      go_wp2_with fail
      go_region
      go_wp2_with fail
      go_roundw
      case rel => exact ⟨k + 1, _, by omega, by go_num, Lib.hid ((HN.out _).below (Drew.below (drew1 _) _)), Lib.hid ((BN.out _).trans (Drew.below (drew1 _) _))⟩
      case measure => simp [intOf]; omega
    · go_wp2_with fail
      go_ret
      exact ⟨_, rfl, Nat.le_refl _, hb.out, _, _, hs.out⟩
theorem roll_any {w : World} {c : Option Addr} {n cap : Nat} {bs : List Int} (hr : RowB w c n bs) (sd : Int) :
    Calls Tryd.prog 27 #[.slice c n cap, .int .u64 sd] w fun e w' => ∃ d, e = .returned (.pointer (some ⟨d, 0, none⟩)) ∧ w.heap.size ≤ d ∧ Below w.heap.size w w' ∧ Dice w' d :=
  (rollC_any hr sd).mono fun e w' ⟨d, h1, h2, h3, i, h, h4⟩ => ⟨d, h1, h2, h3, c, n, cap, bs, i, h, h4⟩
theorem DiceAt.drawn {W W' : World} {d : Nat} {c : Option Addr} {n cap : Nat} {bs : List Int} {i : Nat} {h : Int} (H : DiceAt W d c n cap bs i h) (hD : Drew W W') : DiceAt W' d c n cap bs i h := H.below (Drew.below hD _)
theorem DiceAt.other {W : World} {d : Nat} {c : Option Addr} {n cap : Nat} {bs : List Int} {i : Nat} {h : Int} (H : DiceAt W d c n cap bs i h) {g o : Nat} (hg : d ≠ g) (hc : 0 < n → ∀ x, c = some x → x.block ≠ g) (v : Value) : DiceAt (W.setCell ⟨g, o, none⟩ v) d c n cap bs i h :=
  ⟨H.row.dr (.set g o W v) hc, H.ne, H.le, (Below.heap_setCell _ _ _ _ hg).trans H.blk⟩
theorem OwnL.drn {s : Nat} {w w' : World} {B : Nat} {v : Value} {zs : List Int} (h : OwnL w B v zs) (hd : Dr s w w') (hne : v.ownBlock ≠ some s) : OwnL w' B v zs := by
  refine ⟨Nat.le_trans h.1 hd.size, h.2.1, ?_⟩
  rcases h.2.2 with h2 | ⟨g, cap, cur, rfl, hg, hh, r⟩
  · exact .inl h2
  · exact .inr ⟨g, cap, cur, rfl, hg, (hd.block g (lt_of_heap hh) (fun e => hne (by subst e; rfl))).trans hh, r⟩
set_option maxHeartbeats 1000000 in
theorem belowC_any {w : World} {d : Nat} {c : Option Addr} {m cap : Nat} {bs : List Int} {i : Nat} {sd : Int} (h : DiceAt w d c m cap bs i sd) (n : Int) (hn1 : 1 ≤ n) (hn : n ≤ 1000000000) :
    Calls Tryd.prog 28 #[.pointer (some ⟨d, 0, none⟩), .int .i64 n] w fun e w' => ∃ r, e = .returned (.int .i64 r) ∧ 0 ≤ r ∧ r < n ∧ Dr d w w' ∧ ∃ i' sd', DiceAt w' d c m cap bs i' sd' := by
  have H := Lib.hid h
  have c2 := h.c2
  have f2 := h.fz 2
  clear h
  go_enter Tryd.func28, Tryd.ntmps28
  go_wp2_with fail
  have HN := H.out.seed (IntKind.u64.wrap (IntKind.u64.wrap (sd * 6364136223846793005) + 1442695040888963407))
  have DN := Lib.hid (Dr.set d 2 w (.int .u64 (IntKind.u64.wrap (IntKind.u64.wrap (sd * 6364136223846793005) + 1442695040888963407))))
  obtain ⟨y0, y1⟩ := and24 (IntKind.u64.wrap (IntKind.u64.wrap (sd * 6364136223846793005) + 1442695040888963407) / 8589934592)
  generalize IntKind.u64.wrap (IntKind.u64.wrap (sd * 6364136223846793005) + 1442695040888963407) / 8589934592 = v at *
  generalize bits BinOp.and IntKind.u64 v 16777215 = y at *
  have ey : wrap64 y = y := IntWalk.wrap64_in _ (by omega)
  rw [ey]
  clear ey c2 f2 H
  generalize w.setCell ⟨d, 2, none⟩ (.int .u64 (IntKind.u64.wrap (IntKind.u64.wrap (sd * 6364136223846793005) + 1442695040888963407))) = w1 at *
  have c0 := HN.c0
  have c1 := HN.c1
  have hle := HN.le
  have hsm := HN.row.small
  have HN := Lib.hid HN
  have hn0 : ¬ n = 0 := by omega
  by_cases hi : i < m
  · obtain ⟨b, off, rfl, hb, hcell⟩ := HN.out.row.at' (by omega)
    have hcb := hcell i hi
    have hel := HN.out.row.el i
    clear hcell
    generalize gi bs i = z at *
    have e5 : (y + z).tmod n = (y + z) % n := Int.tmod_eq_emod_of_nonneg (by omega)
    have hr0 := Int.emod_nonneg (y + z) (show n ≠ 0 by omega)
    have hr1 := Int.emod_lt_of_pos (y + z) (show 0 < n by omega)
    have f1 := HN.out.fz 1
    have HN2 := Lib.hid (HN.out.step hi)
    have DN2 := Lib.hid (DN.out.trans (Dr.set d 1 w1 (.int .i64 ((i : Int) + 1))))
    go_region
    go_wp2_with fail
    go_region
    go_wp2_with fail
    go_ret
    exact ⟨_, rfl, hr0, hr1, DN2.out.drew ((drew1 _).trans (drew1 _)), _, _, HN2.out.drawn ((drew1 _).trans (drew1 _))⟩
  · have e5 : y.tmod n = y % n := Int.tmod_eq_emod_of_nonneg (by omega)
    have hr0 := Int.emod_nonneg y (show n ≠ 0 by omega)
    have hr1 := Int.emod_lt_of_pos y (show 0 < n by omega)
    go_region
    go_wp2_with fail
    go_ret
    exact ⟨_, rfl, hr0, hr1, DN.out.drew (drew1 _), _, _, HN.out.drawn (drew1 _)⟩
theorem below_any {w : World} {d : Nat} (hs : Dice w d) (n : Int) (hn1 : 1 ≤ n) (hn : n ≤ 1000000000) :
    Calls Tryd.prog 28 #[.pointer (some ⟨d, 0, none⟩), .int .i64 n] w fun e w' => ∃ r, e = .returned (.int .i64 r) ∧ 0 ≤ r ∧ r < n ∧ Dr d w w' :=
  let ⟨_, _, _, _, _, _, h⟩ := hs
  (belowC_any h n hn1 hn).mono fun e w' ⟨r, h1, h2, h3, h4, _⟩ => ⟨r, h1, h2, h3, h4⟩
end Go.Proofs.YtmbphpmabopifaaDoor
/-
  What comes in as a slice of bytes can be read.
-/
namespace Go.Proofs.YtmbphpmabopifaaDoor
open Go.ChangeShapes Go.WideShapes Go.ChangeAt Go.RowKit Go.Joins
set_option linter.unusedVariables false

/-- A slice of bytes that came in. -/
theorem open_bytes {H : Type} {enc : TypeId × Value → H} {W : World} {a : Option Addr} {len cap : Nat} {d : DataW H} {p : List MemPlace}
    (h : DataW.Trod enc Tryd.prog W 0 (fun _ => true) true 42 (.slice a len cap) d p) : ∃ zs, RowB W a len zs := by
  obtain ⟨fuel, hf⟩ := h
  rcases open_ints Tryd.underlying42 Tryd.underlying5 (by kernel_rfl) hf with ⟨hcs, _⟩ | ⟨x, l, c, zs, hcs, _, hl, hm, hz, _, hcell, hwz⟩
  · simp [Value.cells] at hcs
    obtain ⟨rfl, rfl, rfl⟩ := hcs
    exact ⟨[], rfl, by omega, fun j => by unfold gi; simp, fun h => by omega⟩
  · simp [Value.cells] at hcs
    obtain ⟨rfl, rfl, rfl⟩ := hcs
    have hz' : zs.length = cap := by simpa using hz
    unfold maxLen at hm
    refine ⟨zs.take len, by rw [List.length_take]; omega, by omega, fun j => ?_, fun hn => ?_⟩
    · by_cases hj : j < len
      · rw [gi_take hj]
        have hjl : j < zs.length := by omega
        have := hwz (zs[j]) (List.getElem_mem hjl)
        have e : gi zs j = zs[j] := by unfold gi; simp [hjl]
        rw [e]
        unfold Lit.wf at this
        simp only [Bool.and_eq_true, IntKind.min, IntKind.max, IntKind.signed, IntKind.bits] at this
        simp at this
        omega
      · have e : gi (zs.take len) j = 0 := by unfold gi; rw [List.getD_eq_getElem?_getD, List.getElem?_eq_none (by rw [List.length_take]; omega)]; rfl
        rw [e]; omega
    · obtain ⟨b, off, spot⟩ := x
      have h0 := hcell 0 (by omega)
      have hspot : spot = none := by simpa [Addr.add] using World.cell?_spot h0
      subst hspot
      refine ⟨b, off, rfl, World.block_lt_of_cell? _ ⟨b, off, none⟩ (by simpa [Addr.add] using h0), fun j hj => ?_⟩
      have := hcell j (by omega)
      rw [addr_add] at this
      rw [gi_take hj]
      exact this
end Go.Proofs.YtmbphpmabopifaaDoor
