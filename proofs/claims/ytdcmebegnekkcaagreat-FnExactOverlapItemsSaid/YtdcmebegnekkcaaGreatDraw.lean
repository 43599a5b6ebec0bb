/-
  The parts Draw, Field2, Draw2, Draw3, Draw4, DrawC, DrawC2, DrawC3, DrawC4.
-/
import Derived.Test.YtdcmebegnekkcaaGreatProd
import Derived.Laws.Rows
import Derived.Test.YtdcmebegnekkcaaGreatSFs
import Derived.Test.YtdcmebegnekkcaaGreatPeel
/-
  The walks of the draws: numbers that follow from a code, fields, elements.
-/
namespace Go.Proofs.YtdcmebegnekkcaaGreat
open Go.RowKit
set_option linter.unusedVariables false

theorem heap_new (w : World) (o : Obj) : (w.alloc o).heap[w.heap.size]? = some o := by
  show (w.heap.push o)[w.heap.size]? = some o
  exact Array.getElem?_push_size
/-- Block B is a field that can be written. -/
structure FB (w : World) (B : Nat) (p pw g : Int) : Prop where
  blk : w.heap[B]? = some (.cells #[.int .i64 p, .int .i64 pw, .int .i64 g] FTa (0, 0))
theorem FB.new (w : World) (p pw g : Int) : FB (w.alloc (.cells #[.int .i64 p, .int .i64 pw, .int .i64 g] FTa)) w.heap.size p pw g := ⟨heap_new _ _⟩
theorem FB.lt {w : World} {B : Nat} {p pw g : Int} (h : FB w B p pw g) : B < w.heap.size := lt_of_heap h.blk
theorem FB.below {w w' : World} {B C : Nat} {p pw g : Int} (h : FB w B p pw g) (hb : Below C w w') (hC : B < C) : FB w' B p pw g := ⟨(hb.block B hC).trans h.blk⟩
theorem FB.c0 {w : World} {B : Nat} {p pw g : Int} (h : FB w B p pw g) : w.cell? ⟨B, 0, none⟩ = some (.int .i64 p) := by unfold World.cell?; rw [h.blk]; rfl
theorem FB.c1 {w : World} {B : Nat} {p pw g : Int} (h : FB w B p pw g) : w.cell? ⟨B, 1, none⟩ = some (.int .i64 pw) := by unfold World.cell?; rw [h.blk]; rfl
theorem FB.c2 {w : World} {B : Nat} {p pw g : Int} (h : FB w B p pw g) : w.cell? ⟨B, 2, none⟩ = some (.int .i64 g) := by unfold World.cell?; rw [h.blk]; rfl
theorem FB.fz {w : World} {B : Nat} {p pw g : Int} (h : FB w B p pw g) (o : Nat) : w.frozen? ⟨B, o, none⟩ = false := by unfold World.frozen?; rw [h.blk]; simp
theorem FB.set0 {w : World} {B : Nat} {p pw g : Int} (h : FB w B p pw g) (x : Int) : FB (w.setCell ⟨B, 0, none⟩ (.int .i64 x)) B x pw g := ⟨by rw [heap_setCell_self _ _ _ _ _ _ _ h.blk]; rfl⟩
theorem FB.set1 {w : World} {B : Nat} {p pw g : Int} (h : FB w B p pw g) (x : Int) : FB (w.setCell ⟨B, 1, none⟩ (.int .i64 x)) B p x g := ⟨by rw [heap_setCell_self _ _ _ _ _ _ _ h.blk]; rfl⟩
theorem FB.set2 {w : World} {B : Nat} {p pw g : Int} (h : FB w B p pw g) (x : Int) : FB (w.setCell ⟨B, 2, none⟩ (.int .i64 x)) B p pw x := ⟨by rw [heap_setCell_self _ _ _ _ _ _ _ h.blk]; rfl⟩
theorem FB.set {w : World} {B : Nat} {p pw g : Int} (h : FB w B p pw g) (x y z : Int) : FB (((w.setCell ⟨B, 0, none⟩ (.int .i64 x)).setCell ⟨B, 1, none⟩ (.int .i64 y)).setCell ⟨B, 2, none⟩ (.int .i64 z)) B x y z := ((h.set0 x).set1 y).set2 z
theorem FB.other {w : World} {B C o : Nat} {p pw g : Int} (h : FB w B p pw g) (hn : B ≠ C) (v : Value) : FB (w.setCell ⟨C, o, none⟩ v) B p pw g := ⟨(Below.heap_setCell _ _ _ _ hn).trans h.blk⟩
section
variable {P : Program} {fn : Func} {R : Ending → World → Prop} {a : Act} {w : World} {t u u2 u3 : Tmp} {ty t0 : TypeId} {B : Nat} {cs : Array Value} {fr : Nat × Nat} {d : TypeDesc}
theorem ret_cell1 (h : fn.results = #[.cell t ty]) (hu : P.underlying ty = some d) (hd : (match d with | .struct _ | .array _ _ => true | _ => false) = true) (hi : (P.info? ty).map (·.size) = some cs.size) (hp : a.tmps.getD t undef = .pointer (some ⟨B, 0, none⟩)) (hdef : a.defers = [])
    (hg : w.heap[B]? = some (.cells cs t0 fr)) (hR : R (.returned (.agg cs)) w) : bodyPost P fn R .ret a w := by
  have hp' : a.tmps[t]?.getD undef = .pointer (some ⟨B, 0, none⟩) := by simpa using hp
  exact bodyPost_ret (by simp [results, h, hp', asAddr, run_loadVar_row w B t0 ty cs fr d hg hu hd hi]) hdef hR
theorem ret_cell2 (h : fn.results = #[.cell t ty, .tmp u]) (hu : P.underlying ty = some d) (hd : (match d with | .struct _ | .array _ _ => true | _ => false) = true) (hi : (P.info? ty).map (·.size) = some cs.size) (hp : a.tmps.getD t undef = .pointer (some ⟨B, 0, none⟩)) (hdef : a.defers = [])
    (hg : w.heap[B]? = some (.cells cs t0 fr)) (hR : R (.returned (.tuple #[.agg cs, a.tmps.getD u undef])) w) : bodyPost P fn R .ret a w := by
  have hp' : a.tmps[t]?.getD undef = .pointer (some ⟨B, 0, none⟩) := by simpa using hp
  exact bodyPost_ret (by simp [results, h, hp', asAddr, run_loadVar_row w B t0 ty cs fr d hg hu hd hi, Result.andThen]) hdef hR
end
/-- Of the old blocks, s alone has been written. -/
structure Dr (s : Nat) (w w' : World) : Prop where
  os : w'.os = w.os
  tape : w'.tape = w.tape
  output : w'.output = w.output
  size : w.heap.size ≤ w'.heap.size
  block : ∀ k, k < w.heap.size → k ≠ s → w'.heap[k]? = w.heap[k]?
theorem Dr.refl (s : Nat) (w : World) : Dr s w w := ⟨rfl, rfl, rfl, Nat.le_refl _, fun _ _ _ => rfl⟩
theorem Dr.trans {s : Nat} {a b c : World} (h : Dr s a b) (k : Dr s b c) : Dr s a c :=
  ⟨k.os.trans h.os, k.tape.trans h.tape, k.output.trans h.output, Nat.le_trans h.size k.size, fun i hi hn => (k.block i (Nat.lt_of_lt_of_le hi h.size) hn).trans (h.block i hi hn)⟩
theorem Dr.of {s : Nat} {w w' : World} (h : Below w.heap.size w w') : Dr s w w' := ⟨h.os, h.tape, h.output, h.size, fun k hk _ => h.block k hk⟩
theorem Dr.below {s B : Nat} {w w' : World} (h : Dr s w w') (hB : B ≤ s) (hw : B ≤ w.heap.size) : Below B w w' :=
  ⟨h.os, h.tape, h.output, h.size, fun k hk => h.block k (by omega) (by omega)⟩
theorem Dr.set (s o : Nat) (w : World) (v : Value) : Dr s w (w.setCell ⟨s, o, none⟩ v) :=
  ⟨rfl, rfl, rfl, by simp [World.setCell], fun k _ hn => Below.heap_setCell _ _ _ _ hn⟩
theorem Dr.more {s : Nat} {a b c : World} (h : Dr s a b) (k : Below b.heap.size b c) : Dr s a c := h.trans (.of k)
theorem Dr.cell {s : Nat} {w w' : World} (h : Dr s w w') {b o : Nat} {v : Value} (hc : w.cell? ⟨b, o, none⟩ = some v) (hn : b ≠ s) : w'.cell? ⟨b, o, none⟩ = some v := by
  have hb := World.block_lt_of_cell? _ _ hc
  have e := h.block b hb hn
  unfold World.cell? at hc ⊢
  rw [e]; exact hc
theorem RowAt.dr {s : Nat} {w w' : World} {a : Option Addr} {n : Nat} {zs : List Int} (h : RowAt w a n zs) (hd : Dr s w w') (hn : ∀ x, a = some x → x.block ≠ s) : RowAt w' a n zs :=
  ⟨h.len, h.small, fun h0 => by
    obtain ⟨b, off, rfl, hlt, hc⟩ := h.at' h0
    exact ⟨b, off, rfl, Nat.lt_of_lt_of_le hlt hd.size, fun j hj => hd.cell (hc j hj) (hn _ rfl)⟩⟩
theorem Box.dr {s : Nat} {w w' : World} {B : Nat} {p pw g : Int} (h : Box w B p pw g) (hd : Dr s w w') (hn : B ≠ s) : Box w' B p pw g :=
  ⟨Nat.lt_of_lt_of_le h.lt hd.size, hd.cell h.c0 hn, hd.cell h.c1 hn, hd.cell h.c2 hn⟩
/-- A readable slice of bytes. -/
structure RowB (w : World) (a : Option Addr) (n : Nat) (zs : List Int) : Prop where
  len : zs.length = n
  small : n ≤ 9223372036854775807
  el : ∀ j, 0 ≤ gi zs j ∧ gi zs j < 256
  at' : 0 < n → ∃ b off, a = some ⟨b, off, none⟩ ∧ b < w.heap.size ∧ ∀ j, j < n → w.cell? ⟨b, off + j, none⟩ = some (.int .u8 (gi zs j))
theorem RowB.below' {w w' : World} {a : Option Addr} {n : Nat} {zs : List Int} (h : RowB w a n zs) (hb : Below w.heap.size w w') : RowB w' a n zs :=
  ⟨h.len, h.small, h.el, fun hn => by
    obtain ⟨b, off, rfl, hlt, hc⟩ := h.at' hn
    exact ⟨b, off, rfl, by have := hb.size; omega, fun j hj => (hb.cell (p := ⟨b, off + j, none⟩) hlt).trans (hc j hj)⟩⟩
theorem RowB.dr {s : Nat} {w w' : World} {a : Option Addr} {n : Nat} {zs : List Int} (h : RowB w a n zs) (hd : Dr s w w') (hn : 0 < n → ∀ x, a = some x → x.block ≠ s) : RowB w' a n zs :=
  ⟨h.len, h.small, h.el, fun h0 => by
    obtain ⟨b, off, rfl, hlt, hc⟩ := h.at' h0
    exact ⟨b, off, rfl, Nat.lt_of_lt_of_le hlt hd.size, fun j hj => hd.cell (hc j hj) (hn h0 _ rfl)⟩⟩
abbrev SrcT : TypeId := 80
/-- Block s is a source of numbers, with the place and the seed. -/
structure SrcAt (w : World) (s : Nat) (c : Option Addr) (n cap : Nat) (bs : List Int) (i : Nat) (sd : Int) : Prop where
  row : RowB w c n bs
  ne : 0 < n → ∀ x, c = some x → x.block < s
  le : i ≤ n
  sd0 : 0 ≤ sd
  sd1 : sd < 2147483647
  blk : w.heap[s]? = some (.cells #[.slice c n cap, .int .i64 i, .int .i64 sd] SrcT (0, 0))
def Src (w : World) (s : Nat) : Prop := ∃ c n cap bs i sd, SrcAt w s c n cap bs i sd
theorem SrcAt.lt {w : World} {s : Nat} {c : Option Addr} {n cap : Nat} {bs : List Int} {i : Nat} {sd : Int} (h : SrcAt w s c n cap bs i sd) : s < w.heap.size := lt_of_heap h.blk
theorem Src.lt {w : World} {s : Nat} (h : Src w s) : s < w.heap.size := by obtain ⟨c, n, cap, bs, i, sd, h⟩ := h; exact h.lt
theorem SrcAt.below {w w' : World} {s : Nat} {c : Option Addr} {n cap : Nat} {bs : List Int} {i : Nat} {sd : Int} (h : SrcAt w s c n cap bs i sd) (hb : Below w.heap.size w w') : SrcAt w' s c n cap bs i sd :=
  ⟨h.row.below' hb, h.ne, h.le, h.sd0, h.sd1, (hb.block s h.lt).trans h.blk⟩
theorem Src.below {w w' : World} {s : Nat} (h : Src w s) (hb : Below w.heap.size w w') : Src w' s := by
  obtain ⟨c, n, cap, bs, i, sd, h⟩ := h; exact ⟨c, n, cap, bs, i, sd, h.below hb⟩
theorem SrcAt.c0 {w : World} {s : Nat} {c : Option Addr} {n cap : Nat} {bs : List Int} {i : Nat} {sd : Int} (h : SrcAt w s c n cap bs i sd) : w.cell? ⟨s, 0, none⟩ = some (.slice c n cap) := by
  unfold World.cell?; rw [h.blk]; rfl
theorem SrcAt.c1 {w : World} {s : Nat} {c : Option Addr} {n cap : Nat} {bs : List Int} {i : Nat} {sd : Int} (h : SrcAt w s c n cap bs i sd) : w.cell? ⟨s, 1, none⟩ = some (.int .i64 i) := by
  unfold World.cell?; rw [h.blk]; rfl
theorem SrcAt.c2 {w : World} {s : Nat} {c : Option Addr} {n cap : Nat} {bs : List Int} {i : Nat} {sd : Int} (h : SrcAt w s c n cap bs i sd) : w.cell? ⟨s, 2, none⟩ = some (.int .i64 sd) := by
  unfold World.cell?; rw [h.blk]; rfl
theorem SrcAt.fz {w : World} {s : Nat} {c : Option Addr} {n cap : Nat} {bs : List Int} {i : Nat} {sd : Int} (h : SrcAt w s c n cap bs i sd) (o : Nat) : w.frozen? ⟨s, o, none⟩ = false := by
  unfold World.frozen?; rw [h.blk]; simp
theorem SrcAt.seed {w : World} {s : Nat} {c : Option Addr} {n cap : Nat} {bs : List Int} {i : Nat} {sd : Int} (h : SrcAt w s c n cap bs i sd) (x : Int) (h0 : 0 ≤ x) (h1 : x < 2147483647) : SrcAt (w.setCell ⟨s, 2, none⟩ (.int .i64 x)) s c n cap bs i x :=
  ⟨h.row.dr (.set s 2 w _) (fun h0 x hx => Nat.ne_of_lt (h.ne h0 x hx)), h.ne, h.le, h0, h1, by rw [heap_setCell_self _ _ _ _ _ _ _ h.blk]; rfl⟩
theorem SrcAt.step {w : World} {s : Nat} {c : Option Addr} {n cap : Nat} {bs : List Int} {i : Nat} {sd : Int} (h : SrcAt w s c n cap bs i sd) (hi : i < n) (x : Int) (hx : x = (i : Int) + 1) : SrcAt (w.setCell ⟨s, 1, none⟩ (.int .i64 x)) s c n cap bs (i + 1) sd :=
  ⟨h.row.dr (.set s 1 w _) (fun h0 x hx => Nat.ne_of_lt (h.ne h0 x hx)), h.ne, hi, h.sd0, h.sd1, by rw [heap_setCell_self _ _ _ _ _ _ _ h.blk, hx]; rfl⟩
theorem SrcAt.drew {w : World} {s : Nat} {c : Option Addr} {n cap : Nat} {bs : List Int} {i : Nat} {sd : Int} (h : SrcAt w s c n cap bs i sd) {w' : World} (hd : Drew w w') : SrcAt w' s c n cap bs i sd := h.below (hd.below _)
theorem SrcAt.other {w : World} {s : Nat} {c : Option Addr} {n cap : Nat} {bs : List Int} {i : Nat} {sd : Int} (h : SrcAt w s c n cap bs i sd) {B : Nat} (hB : s < B) (o : Nat) (v : Value) : SrcAt (w.setCell ⟨B, o, none⟩ v) s c n cap bs i sd :=
  ⟨h.row.dr (.set B o w _) (fun h0 x hx => by have := h.ne h0 x hx; omega), h.ne, h.le, h.sd0, h.sd1, (Below.heap_setCell _ _ _ _ (show s ≠ B by omega)).trans h.blk⟩
theorem Src.other {w : World} {s B : Nat} (h : Src w s) (hB : s < B) (o : Nat) (v : Value) : Src (w.setCell ⟨B, o, none⟩ v) s := by
  obtain ⟨c, n, cap, bs, i, sd, h⟩ := h; exact ⟨c, n, cap, bs, i, sd, h.other hB o v⟩
theorem Dr.setNew {s B : Nat} {w0 w : World} (h : Dr s w0 w) (hB : w0.heap.size ≤ B) (o : Nat) (v : Value) : Dr s w0 (w.setCell ⟨B, o, none⟩ v) :=
  ⟨h.os, h.tape, h.output, by simpa [World.setCell] using h.size, fun k hk hn => (Below.heap_setCell _ _ _ _ (show k ≠ B by omega)).trans (h.block k hk hn)⟩
theorem Dr.alloc {s : Nat} {w0 w : World} (h : Dr s w0 w) (o : Obj) : Dr s w0 (w.alloc o) := h.more ((Below.refl _ _).alloc (Nat.le_refl _) o)
theorem Dr.drew {s : Nat} {w0 w w' : World} (h : Dr s w0 w) (hd : Drew w w') : Dr s w0 w' := h.more (hd.below _)
theorem Src.alloc {w : World} {s : Nat} (h : Src w s) (o : Obj) : Src (w.alloc o) s := h.below ((Below.refl _ _).alloc (Nat.le_refl _) o)
theorem Src.drew {w w' : World} {s : Nat} (h : Src w s) (hd : Drew w w') : Src w' s := h.below (hd.below _)
/-- What a drawn number is like. -/
def Drawn (n r : Int) : Prop := (n ≤ 1 → r = 0) ∧ (1 < n → 0 ≤ r ∧ r < n)
theorem drawn_one {n : Int} (h : n ≤ 1) : Drawn n 0 := ⟨fun _ => rfl, fun h2 => by omega⟩
theorem drawn_mod {n : Int} (h : 1 < n) (x : Int) (h0 : 0 ≤ x) : Drawn n (x % n) := ⟨fun h2 => by omega, fun _ => ⟨Int.emod_nonneg _ (by omega), Int.emod_lt_of_pos _ (by omega)⟩⟩
set_option maxHeartbeats 1000000 in
theorem l01Next_any {w : World} {s : Nat} (hs : Src w s) (n : Int) (hn : n ≤ 1000000000) :
    Calls Tryz.prog 29 #[.pointer (some ⟨s, 0, none⟩), .int .i64 n] w fun e w' => ∃ r, e = .returned (.int .i64 r) ∧ Drawn n r ∧ Dr s w w' ∧ Src w' s := by
  obtain ⟨c, m, cap, bs, i, sd, h⟩ := hs
  have H := Lib.hid h
  have h0 := h.sd0
  have h1 := h.sd1
  have c2 := h.c2
  have h2 := h.fz 2
  clear h
  go_enter Tryz.func29, Tryz.ntmps29
  by_cases hn1 : n ≤ 1
  · have HD := Lib.hid (drawn_one hn1)
    go_wp2_with fail
    go_ret
    exact ⟨_, rfl, HD.out, .refl _ _, _, _, _, _, _, _, H.out⟩
  · have f2 := h2
    have e1 : (sd * 48271 + 11).tmod 2147483647 = (sd * 48271 + 11) % 2147483647 := Int.tmod_eq_emod_of_nonneg (by omega)
    obtain ⟨sd', hsd'⟩ : ∃ x, x = (sd * 48271 + 11) % 2147483647 := ⟨_, rfl⟩
    have hs0 : 0 ≤ sd' := by omega
    have hs1 : sd' < 2147483647 := by omega
    have H1 := Lib.hid (H.out.seed sd' hs0 hs1)
    have D1 := Lib.hid (Dr.set s 2 w (.int .i64 sd'))
    go_wp2_with fail
    rw [← hsd']
    clear hsd' c2 f2 h2 e1 h0 h1
    generalize w.setCell ⟨s, 2, none⟩ (.int .i64 sd') = w1 at *
    have c0 := H1.out.c0
    have c1 := H1.out.c1
    have c2 := H1.out.c2
    have hle := H1.out.le
    have hsm := H1.out.row.small
    by_cases hi : i < m
    · obtain ⟨b, off, rfl, hb, hcell⟩ := H1.out.row.at' (by omega)
      have hcb := hcell i hi
      have hel := H1.out.row.el i
      clear hcell
      generalize gi bs i = z at *
      have H2 := H1.out.step hi ((i : Int) + 1) rfl
      have D2 := Lib.hid (D1.out.trans (Dr.set s 1 w1 (.int .i64 ((i : Int) + 1))))
      have g0 := H2.c0
      have g1 := H2.c1
      have hbs : b ≠ s := Nat.ne_of_lt (H1.out.ne (by omega) _ rfl)
      have gcb := (Dr.set s 1 w1 (.int .i64 ((i : Int) + 1))).cell hcb hbs
      have G2 := Lib.hid H2
      clear H2
      simp only [Int.natCast_add, Int.cast_ofNat_Int] at g1
      have hn0 : ¬ n = 0 := by omega
      have e3 : sd'.tdiv 17 = sd' / 17 := Int.tdiv_eq_ediv_of_nonneg hs0
      have e4 : (sd' / 17 + z).tmod n = (sd' / 17 + z) % n := Int.tmod_eq_emod_of_nonneg (by omega)
      have e5 : z.tmod n = z % n := Int.tmod_eq_emod_of_nonneg (by omega)
      have e6 : ((i : Int) + 1).tmod 2 = ((i : Int) + 1) % 2 := Int.tmod_eq_emod_of_nonneg (by omega)
      have HD1 := Lib.hid (drawn_mod (show 1 < n by omega) (sd' / 17 + z) (by omega))
      have HD2 := Lib.hid (drawn_mod (show 1 < n by omega) z (by omega))
      have f1 := H1.out.fz 1
      go_region
      go_wp2_with fail
      go_region
      go_wp2_with fail
      · generalize w1.setCell ⟨s, 1, none⟩ (.int .i64 ((i : Int) + 1)) = w2 at *
        go_region
        go_wp2_with fail
        go_ret
        exact ⟨_, rfl, HD2.out, D2.out.more (Drew.below ((drew1 w2).trans ((drew1 _).trans (drew1 _))) _), _, _, _, _, _, _, G2.out.drew ((drew1 w2).trans ((drew1 _).trans (drew1 _)))⟩
      · go_ret
        exact ⟨_, rfl, HD1.out, D2.out.more (Drew.below ((drew1 _).trans (drew1 _)) _), _, _, _, _, _, _, G2.out.drew ((drew1 _).trans (drew1 _))⟩
      · go_ret
        exact ⟨_, rfl, HD1.out, D2.out.more (Drew.below ((drew1 _).trans (drew1 _)) _), _, _, _, _, _, _, G2.out.drew ((drew1 _).trans (drew1 _))⟩
    · have hn0 : ¬ n = 0 := by omega
      have e3 : sd'.tdiv 17 = sd' / 17 := Int.tdiv_eq_ediv_of_nonneg hs0
      have e4 : (sd' / 17).tmod n = (sd' / 17) % n := Int.tmod_eq_emod_of_nonneg (by omega)
      have HD := Lib.hid (drawn_mod (show 1 < n by omega) (sd' / 17) (by omega))
      go_region
      go_wp2_with fail
      go_ret
      exact ⟨_, rfl, HD.out, D1.out.more ((drew1 w1).below _), _, _, _, _, _, _, H1.out.drew (drew1 w1)⟩
set_option maxHeartbeats 1000000 in
theorem l01From_any {w : World} {c : Option Addr} {n cap : Nat} {bs : List Int} (hr : RowB w c n bs) :
    Calls Tryz.prog 28 #[.slice c n cap] w fun e w' => ∃ s, e = .returned (.pointer (some ⟨s, 0, none⟩)) ∧ w.heap.size ≤ s ∧ Below w.heap.size w w' ∧ Src w' s := by
  have HR := Lib.hid hr
  have hsm := hr.small
  have H0 := Lib.hid (show SrcAt (w.alloc (.cells #[.slice c n cap, .int .i64 0, .int .i64 60617] SrcT)) w.heap.size c n cap bs 0 60617 from
    ⟨hr.below' (below1 _ _), fun h0 x hx => by obtain ⟨b, off, e, hb, _⟩ := hr.at' h0; rw [hx] at e; cases e; show b < w.heap.size; omega, by omega, by omega, by omega, heap_new _ _⟩)
  have B0 := Lib.hid (below1 w (.cells #[.slice c n cap, .int .i64 0, .int .i64 60617] SrcT))
  clear hr
  go_enter Tryz.func28, Tryz.ntmps28
  go_wp2_with fail
  go_loopw [4] (fun t wr => ∃ (k : Nat) (sd : Int), k ≤ n ∧ k ≤ 64 ∧ t = .int .i64 k ∧ Hid (SrcAt wr w.heap.size c n cap bs 0 sd) ∧ Hid (Below w.heap.size w wr)) (fun t _ => n - (intOf t).toNat)
  case atStart => exact ⟨0, 60617, by omega, by omega, rfl, H0, B0⟩
  case round =>
    obtain ⟨k, sd, hk, hk2, rfl, hs, hb⟩ := hrel
    clear H0 B0
    by_cases hlt : k < n ∧ k < 64
    · obtain ⟨h1, h2⟩ := hlt
      obtain ⟨b, off, rfl, hbb, hcell⟩ := hs.out.row.at' (by omega)
      have hcb := hcell k h1
      have hel := hs.out.row.el k
      have c2 := hs.out.c2
      have f2 := hs.out.fz 2
      have hs0 := hs.out.sd0
      have hs1 := hs.out.sd1
      clear hcell
      generalize gi bs k = z at *
      have e1 : (sd * 43 + z).tmod 2147483647 = (sd * 43 + z) % 2147483647 := Int.tmod_eq_emod_of_nonneg (by omega)
      have HN := Lib.hid (hs.out.seed ((sd * 43 + z) % 2147483647) (by omega) (by omega))
      have BN := Lib.hid (hb.out.setCell (p := ⟨w.heap.size, 2, none⟩) (Nat.le_refl _) (.int .i64 ((sd * 43 + z) % 2147483647)))
      go_wp2_with fail
      go_region
      go_wp2_with fail
      go_roundw
      case rel => exact ⟨k + 1, _, by omega, by omega, by go_num, Lib.hid (HN.out.drew (drew1 _)), Lib.hid (BN.out.trans (Drew.below (drew1 _) _))⟩
      case measure => simp [intOf]; omega
    · by_cases h1 : k < n
      · have h2 : ¬ (k : Int) < 64 := by omega
        go_wp2_with fail
        go_ret
        exact ⟨_, rfl, Nat.le_refl _, hb.out, _, _, _, _, _, _, hs.out⟩
      · go_wp2_with fail
        go_ret
        exact ⟨_, rfl, Nat.le_refl _, hb.out, _, _, _, _, _, _, hs.out⟩
/-- What is drawn as a field. -/
def FldOk (p pw g : Int) : Prop := validB p pw g = true ∨ (p = 0 ∧ pw = 0 ∧ g = 0)
end Go.Proofs.YtdcmebegnekkcaaGreat
/-
  More functions of a field: products, negatives, inverses, sizes.
-/
namespace Go.Proofs.YtdcmebegnekkcaaGreat
open Go.RowKit
set_option linter.unusedVariables false

noncomputable def fmulR (p pw g x y : Int) : Int := if codeE p pw g [x, y] = 0 then (ffOf p pw g).mul x y else 0
noncomputable def fnegR (p pw g x : Int) : Int := if codeE p pw g [x] = 0 then (ffOf p pw g).neg x else 0
noncomputable def finvR (p pw g x : Int) : Int := if codeE p pw g [x] = 0 ∧ x ≠ 0 then (ffOf p pw g).inv x else 0
noncomputable def finvC (p pw g x : Int) : Int := if codeE p pw g [x] = 0 then (if x = 0 then 5 else 0) else codeE p pw g [x]
theorem implIsField_any (p pw g : Int) (w : World) :
    Calls Tryz.prog 136 #[fV p pw g] w fun e w' => e = .returned (.bool (validB p pw g)) ∧ Below w.heap.size w w' := by
  go_enter Tryz.func136, Tryz.ntmps136
  go_wp2_with fail
  refine (calc_any p pw g _).mono ?_
  rintro e w1 ⟨v, rfl, hb1, hcal⟩
  have HB := Lib.hid ((below1 w (.cells #[.int .i64 p, .int .i64 pw, .int .i64 g] 88)).trans (hb1.mono (by simp)))
  clear hb1 hcal
  go_wp2_with fail
  go_ret
  exact ⟨rfl, HB.out⟩
noncomputable def sizeR (p pw g : Int) : Int := if validB p pw g = true then (ffOf p pw g).size else 0
end Go.Proofs.YtdcmebegnekkcaaGreat
/-
  The walks of the draws of fields and elements.
-/
namespace Go.Proofs.YtdcmebegnekkcaaGreat
open Go.RowKit
set_option linter.unusedVariables false

theorem FB.dr {s : Nat} {w w' : World} {B : Nat} {p pw g : Int} (h : FB w B p pw g) (hd : Dr s w w') (hn : B ≠ s) : FB w' B p pw g := ⟨(hd.block B h.lt hn).trans h.blk⟩
/-- What is drawn is a list of numbers. -/
theorem row_new (W : World) (xs : List Int) (t : TypeId) (h : xs.length ≤ 1000) : RowAt (W.alloc (.cells (xs.map (Value.int .i64)).toArray t)) (some ⟨W.heap.size, 0, none⟩) xs.length xs :=
  ⟨rfl, by omega, fun _ => ⟨_, 0, rfl, by simp, fun j hj => by
    unfold World.cell?; rw [heap_new]
    simp only [Option.isSome_none, Bool.false_eq_true, if_false]
    unfold gi
    simp [List.getD_eq_getElem?_getD, hj]⟩⟩
/-- A number below n, behind a list that was just laid. -/
theorem pickN_any {W : World} {s : Nat} (hs : Src W s) (xs : List Int) (t : TypeId) (n : Nat) (h1 : 1 < n) (hn : n ≤ 1000) (h2 : xs.length ≤ 1000) :
    Calls Tryz.prog 29 #[.pointer (some ⟨s, 0, none⟩), .int .i64 (n : Int)] (W.alloc (.cells (xs.map (Value.int .i64)).toArray t)) fun e w' => ∃ k : Nat, e = .returned (.int .i64 (k : Int)) ∧ k < n ∧
      (∀ j, j < xs.length → w'.cell? ⟨W.heap.size, j, none⟩ = some (.int .i64 (gi xs j))) ∧ Dr s W w' ∧ Src w' s ∧ W.heap.size < w'.heap.size := by
  have hb := (Below.refl W.heap.size W).alloc (Nat.le_refl _) (.cells (xs.map (Value.int .i64)).toArray t)
  refine (l01Next_any (hs.below hb) _ (by omega)).mono ?_
  rintro e w2 ⟨r, rfl, hr, hd, hs2⟩
  obtain ⟨hr0, hr1⟩ := hr.2 (by omega)
  obtain ⟨k, rfl⟩ := Int.eq_ofNat_of_zero_le hr0
  have hlt := hs.lt
  have hrow := (row_new W xs t h2).dr hd (fun x hx => by cases hx; show W.heap.size ≠ s; omega)
  have := hd.size
  refine ⟨k, rfl, by omega, fun j hj => ?_, (Dr.of hb).trans hd, hs2, by simp at this; omega⟩
  obtain ⟨b, off, e, _, hcell⟩ := hrow.at' (by omega)
  cases e
  have hc := hcell j hj
  rw [Nat.zero_add] at hc
  exact hc
/-- A number below n. -/
theorem next_any {W : World} {s : Nat} (hs : Src W s) (n : Nat) (h1 : 1 < n) (hn : n ≤ 100000) :
    Calls Tryz.prog 29 #[.pointer (some ⟨s, 0, none⟩), .int .i64 (n : Int)] W fun e w' => ∃ k : Nat, e = .returned (.int .i64 (k : Int)) ∧ k < n ∧ Dr s W w' ∧ Src w' s := by
  refine (l01Next_any hs _ (by omega)).mono ?_
  rintro e w2 ⟨r, rfl, hr, hd, hs2⟩
  obtain ⟨hr0, hr1⟩ := hr.2 (by omega)
  obtain ⟨k, rfl⟩ := Int.eq_ofNat_of_zero_le hr0
  exact ⟨k, rfl, by omega, hd, hs2⟩
theorem FldOk.bd {p pw g : Int} (h : FldOk p pw g) : 0 ≤ g ∧ g ≤ 2000 := by
  rcases h with h | ⟨_, _, rfl⟩
  · have hr := ranged_of h
    unfold validB at h; simp only [decide_eq_true_eq] at h
    rcases h with ⟨h1, h2, h3, h4, h5, h6, h7, _⟩ | ⟨h1, h2, h3, h4, h5, h6⟩
    · omega
    · rcases hr with ⟨e, _⟩ | ⟨a1, a2, a3, a4⟩
      · omega
      · have hhi : 2 ^ pw.toNat ≤ 2 ^ 8 := Nat.pow_le_pow_right (by omega) (by omega)
        omega
  · omega
end Go.Proofs.YtdcmebegnekkcaaGreat
/-
  The walks of the draws of elements; what the laws of fields draw.
-/
namespace Go.Proofs.YtdcmebegnekkcaaGreat
open Go.RowKit
set_option linter.unusedVariables false

end Go.Proofs.YtdcmebegnekkcaaGreat
/-
  The walks of the draws of polynomials.
-/
namespace Go.Proofs.YtdcmebegnekkcaaGreat
open Go.RowKit
set_option linter.unusedVariables false

theorem OwnL.dr {s : Nat} {w w' : World} {B : Nat} {v : Value} {zs : List Int} (h : OwnL w B v zs) (hd : Dr s w w') (hs : s < B) : OwnL w' B v zs := by
  refine ⟨Nat.le_trans h.1 hd.size, h.2.1, ?_⟩
  rcases h.2.2 with h2 | ⟨g, cap, cur, rfl, hg, hh, r⟩
  · exact .inl h2
  · exact .inr ⟨g, cap, cur, rfl, hg, (hd.block g (Array.getElem?_eq_some_iff.1 hh).1 (by omega)).trans hh, r⟩
theorem OwnL.lit (w : World) (B : Nat) (hB : B ≤ w.heap.size) (xs : List Int) (h1 : xs.length ≤ 1000) : OwnL (w.alloc (.cells (xs.map (Value.int .i64)).toArray 2)) B (.slice (some ⟨w.heap.size, 0, none⟩) xs.length xs.length) xs :=
  ⟨by simp; omega, by simp, .inr ⟨w.heap.size, xs.length, _, rfl, hB, heap_new _ _, Nat.le_refl _, by unfold maxLen; omega, by simp, by simp; rw [← List.length_map (f := Value.int .i64), List.take_length]⟩⟩
theorem Src.lo {w w' : World} {s B : Nat} (h : Src w s) (hB : s < B) (hb : Below B w w') : Src w' s := by
  obtain ⟨c, n, cap, bs, i, sd, h⟩ := h
  refine ⟨c, n, cap, bs, i, sd, ⟨⟨h.row.len, h.row.small, h.row.el, fun hn => ?_⟩, h.ne, h.le, h.sd0, h.sd1, (hb.block s hB).trans h.blk⟩⟩
  obtain ⟨b, off, e, hlt, hc⟩ := h.row.at' hn
  have hbs : b < s := h.ne hn _ e
  exact ⟨b, off, e, Nat.lt_of_lt_of_le hlt hb.size, fun j hj => (hb.cell (p := ⟨b, off + j, none⟩) (show b < B by omega)).trans (hc j hj)⟩
end Go.Proofs.YtdcmebegnekkcaaGreat
/-
  The walks of the draws of codes.
-/
namespace Go.Proofs.YtdcmebegnekkcaaGreat
open Go.RowKit
set_option linter.unusedVariables false

/-- Block B is a code that can be written. -/
structure CB (w : World) (B : Nat) (p pw g l c : Int) : Prop where
  blk : w.heap[B]? = some (.cells #[.int .i64 p, .int .i64 pw, .int .i64 g, .int .i64 l, .int .i64 c] CT (0, 0))
section
variable {w w' : World} {B C : Nat} {p pw g l c : Int}
theorem CB.new (w : World) (p pw g l c : Int) : CB (w.alloc (.cells #[.int .i64 p, .int .i64 pw, .int .i64 g, .int .i64 l, .int .i64 c] CT)) w.heap.size p pw g l c := ⟨heap_new _ _⟩
theorem CB.lt (h : CB w B p pw g l c) : B < w.heap.size := lt_of_heap h.blk
theorem CB.below (h : CB w B p pw g l c) (hb : Below C w w') (hC : B < C) : CB w' B p pw g l c := ⟨(hb.block B hC).trans h.blk⟩
theorem CB.dr {s : Nat} (h : CB w B p pw g l c) (hd : Dr s w w') (hn : B ≠ s) : CB w' B p pw g l c := ⟨(hd.block B h.lt hn).trans h.blk⟩
theorem CB.c0 (h : CB w B p pw g l c) : w.cell? ⟨B, 0, none⟩ = some (.int .i64 p) := by unfold World.cell?; rw [h.blk]; rfl
theorem CB.c1 (h : CB w B p pw g l c) : w.cell? ⟨B, 1, none⟩ = some (.int .i64 pw) := by unfold World.cell?; rw [h.blk]; rfl
theorem CB.c2 (h : CB w B p pw g l c) : w.cell? ⟨B, 2, none⟩ = some (.int .i64 g) := by unfold World.cell?; rw [h.blk]; rfl
theorem CB.c3 (h : CB w B p pw g l c) : w.cell? ⟨B, 3, none⟩ = some (.int .i64 l) := by unfold World.cell?; rw [h.blk]; rfl
theorem CB.c4 (h : CB w B p pw g l c) : w.cell? ⟨B, 4, none⟩ = some (.int .i64 c) := by unfold World.cell?; rw [h.blk]; rfl
theorem CB.fz (h : CB w B p pw g l c) (o : Nat) : w.frozen? ⟨B, o, none⟩ = false := by unfold World.frozen?; rw [h.blk]; simp
theorem CB.set0 (h : CB w B p pw g l c) (x : Int) : CB (w.setCell ⟨B, 0, none⟩ (.int .i64 x)) B x pw g l c := ⟨by rw [heap_setCell_self _ _ _ _ _ _ _ h.blk]; rfl⟩
theorem CB.set1 (h : CB w B p pw g l c) (x : Int) : CB (w.setCell ⟨B, 1, none⟩ (.int .i64 x)) B p x g l c := ⟨by rw [heap_setCell_self _ _ _ _ _ _ _ h.blk]; rfl⟩
theorem CB.set2 (h : CB w B p pw g l c) (x : Int) : CB (w.setCell ⟨B, 2, none⟩ (.int .i64 x)) B p pw x l c := ⟨by rw [heap_setCell_self _ _ _ _ _ _ _ h.blk]; rfl⟩
theorem CB.set3 (h : CB w B p pw g l c) (x : Int) : CB (w.setCell ⟨B, 3, none⟩ (.int .i64 x)) B p pw g x c := ⟨by rw [heap_setCell_self _ _ _ _ _ _ _ h.blk]; rfl⟩
theorem CB.set4 (h : CB w B p pw g l c) (x : Int) : CB (w.setCell ⟨B, 4, none⟩ (.int .i64 x)) B p pw g l x := ⟨by rw [heap_setCell_self _ _ _ _ _ _ _ h.blk]; rfl⟩
abbrev setC (w : World) (B : Nat) (p pw g l c : Int) : World := ((((w.setCell ⟨B, 0, none⟩ (.int .i64 p)).setCell ⟨B, 1, none⟩ (.int .i64 pw)).setCell ⟨B, 2, none⟩ (.int .i64 g)).setCell ⟨B, 3, none⟩ (.int .i64 l)).setCell ⟨B, 4, none⟩ (.int .i64 c)
theorem CB.set (h : CB w B p pw g l c) (p' pw' g' l' c' : Int) : CB (setC w B p' pw' g' l' c') B p' pw' g' l' c' := ((((h.set0 p').set1 pw').set2 g').set3 l').set4 c'
theorem CB.other (h : CB w B p pw g l c) {o : Nat} (hn : B ≠ C) (v : Value) : CB (w.setCell ⟨C, o, none⟩ v) B p pw g l c := ⟨(Below.heap_setCell _ _ _ _ hn).trans h.blk⟩
theorem setC_below {A : Nat} {w0 : World} (h : Below A w0 w) (hB : A ≤ B) : Below A w0 (setC w B p pw g l c) :=
  ((((h.setCell (p := ⟨B, 0, none⟩) hB _).setCell (p := ⟨B, 1, none⟩) hB _).setCell (p := ⟨B, 2, none⟩) hB _).setCell (p := ⟨B, 3, none⟩) hB _).setCell (p := ⟨B, 4, none⟩) hB _
end
noncomputable def szF (p pw g : Int) : Int := if validB p pw g = true then (ffOf p pw g).size else 1
open Classical in
/-- What is left of the search for a field. -/
noncomputable def mzF (X : Nat) (wr : World) : Nat := if ∃ p pw g, FB wr X p pw g ∧ 5 ≤ szF p pw g then 0 else 1
theorem FB.uniq {w : World} {B : Nat} {p pw g p' pw' g' : Int} (h : FB w B p pw g) (h' : FB w B p' pw' g') : p = p' ∧ pw = pw' ∧ g = g' := by
  have e := h.blk.symm.trans h'.blk
  simpa using e
end Go.Proofs.YtdcmebegnekkcaaGreat
/-
  More walks of the draws of codes.
-/
namespace Go.Proofs.YtdcmebegnekkcaaGreat
open Go.RowKit
set_option linter.unusedVariables false

end Go.Proofs.YtdcmebegnekkcaaGreat
/-
  The walks of the draws of messages and words.
-/
namespace Go.Proofs.YtdcmebegnekkcaaGreat
open Go.RowKit
set_option linter.unusedVariables false

theorem OwnL.rowF {w : World} {B n cp : Nat} {a : Option Addr} {zs : List Int} (h : OwnL w B (.slice a n cp) zs) : RowAt w a n zs := by
  obtain ⟨a', c', e, _, ho⟩ := h.shape
  simp only [Value.slice.injEq] at e
  obtain ⟨rfl, rfl, rfl⟩ := e
  exact ho.row
end Go.Proofs.YtdcmebegnekkcaaGreat
/-
  What the laws of codes draw.
-/
namespace Go.Proofs.YtdcmebegnekkcaaGreat
open Go.RowKit
set_option linter.unusedVariables false

/-- A state of a draw: R the result's code, X the code, s the source. -/
structure CSt (w0 W : World) (R X s : Nat) (p pw g l c : Int) : Prop where
  res : CB W R 0 0 0 0 0
  fld : CB W X p pw g l c
  src : Src W s
  bel : Below w0.heap.size w0 W
  r0 : R = w0.heap.size
  rs : R < s
  sx : s < X
section
variable {w0 W W' : World} {R X s : Nat} {p pw g l c : Int}
theorem CSt.below (h : CSt w0 W R X s p pw g l c) (hb : Below W.heap.size W W') : CSt w0 W' R X s p pw g l c :=
  ⟨h.res.below hb h.res.lt, h.fld.below hb h.fld.lt, h.src.below hb, h.bel.trans (hb.mono h.bel.size), h.r0, h.rs, h.sx⟩
end
end Go.Proofs.YtdcmebegnekkcaaGreat
