/-
  The walks of the draws: numbers that follow from a code, fields, elements.
-/
import Derived.Test.YthbiieflmmnfcaaProd
import Derived.Laws.Rows
namespace Go.Proofs.Ythbiieflmmnfcaa
open Go.RowKit
set_option linter.unusedVariables false

theorem heap_new (w : World) (o : Obj) : (w.alloc o).heap[w.heap.size]? = some o := by
  show (w.heap.push o)[w.heap.size]? = some o
  exact Array.getElem?_push_size
/-- Block B is a field that can be written. -/
structure FB (w : World) (B : Nat) (p pw g : Int) : Prop where
  blk : w.heap[B]? = some (.cells #[.int .i64 p, .int .i64 pw, .int .i64 g] FTa (0, 0))
theorem FB.new (w : World) (p pw g : Int) : FB (w.alloc (.cells #[.int .i64 p, .int .i64 pw, .int .i64 g] FTa)) w.heap.size p pw g := ⟨heap_new _ _⟩
theorem FB.lt {w : World} {B : Nat} {p pw g : Int} (h : FB w B p pw g) : B < w.heap.size := lt_of_heap h.blk
theorem FB.below {w w' : World} {B C : Nat} {p pw g : Int} (h : FB w B p pw g) (hb : Below C w w') (hC : B < C) : FB w' B p pw g := ⟨(hb.block B hC).trans h.blk⟩
theorem FB.c0 {w : World} {B : Nat} {p pw g : Int} (h : FB w B p pw g) : w.cell? ⟨B, 0, none⟩ = some (.int .i64 p) := by unfold World.cell?; rw [h.blk]; rfl
theorem FB.c1 {w : World} {B : Nat} {p pw g : Int} (h : FB w B p pw g) : w.cell? ⟨B, 1, none⟩ = some (.int .i64 pw) := by unfold World.cell?; rw [h.blk]; rfl
theorem FB.c2 {w : World} {B : Nat} {p pw g : Int} (h : FB w B p pw g) : w.cell? ⟨B, 2, none⟩ = some (.int .i64 g) := by unfold World.cell?; rw [h.blk]; rfl
theorem FB.fz {w : World} {B : Nat} {p pw g : Int} (h : FB w B p pw g) (o : Nat) : w.frozen? ⟨B, o, none⟩ = false := by unfold World.frozen?; rw [h.blk]; simp
theorem FB.set0 {w : World} {B : Nat} {p pw g : Int} (h : FB w B p pw g) (x : Int) : FB (w.setCell ⟨B, 0, none⟩ (.int .i64 x)) B x pw g := ⟨by rw [heap_setCell_self _ _ _ _ _ _ _ h.blk]; rfl⟩
theorem FB.set1 {w : World} {B : Nat} {p pw g : Int} (h : FB w B p pw g) (x : Int) : FB (w.setCell ⟨B, 1, none⟩ (.int .i64 x)) B p x g := ⟨by rw [heap_setCell_self _ _ _ _ _ _ _ h.blk]; rfl⟩
theorem FB.set2 {w : World} {B : Nat} {p pw g : Int} (h : FB w B p pw g) (x : Int) : FB (w.setCell ⟨B, 2, none⟩ (.int .i64 x)) B p pw x := ⟨by rw [heap_setCell_self _ _ _ _ _ _ _ h.blk]; rfl⟩
theorem FB.set {w : World} {B : Nat} {p pw g : Int} (h : FB w B p pw g) (x y z : Int) : FB (((w.setCell ⟨B, 0, none⟩ (.int .i64 x)).setCell ⟨B, 1, none⟩ (.int .i64 y)).setCell ⟨B, 2, none⟩ (.int .i64 z)) B x y z := ((h.set0 x).set1 y).set2 z
theorem FB.other {w : World} {B C o : Nat} {p pw g : Int} (h : FB w B p pw g) (hn : B ≠ C) (v : Value) : FB (w.setCell ⟨C, o, none⟩ v) B p pw g := ⟨(Below.heap_setCell _ _ _ _ hn).trans h.blk⟩
section
variable {P : Program} {fn : Func} {R : Ending → World → Prop} {a : Act} {w : World} {t u u2 u3 : Tmp} {ty t0 : TypeId} {B : Nat} {cs : Array Value} {fr : Nat × Nat} {d : TypeDesc}
theorem ret_cell1 (h : fn.results = #[.cell t ty]) (hu : P.underlying ty = some d) (hd : (match d with | .struct _ | .array _ _ => true | _ => false) = true) (hi : (P.info? ty).map (·.size) = some cs.size) (hp : a.tmps.getD t undef = .pointer (some ⟨B, 0, none⟩)) (hdef : a.defers = [])
    (hg : w.heap[B]? = some (.cells cs t0 fr)) (hR : R (.returned (.agg cs)) w) : bodyPost P fn R .ret a w := by
  have hp' : a.tmps[t]?.getD undef = .pointer (some ⟨B, 0, none⟩) := by simpa using hp
  exact bodyPost_ret (by simp [results, h, hp', asAddr, run_loadVar_row w B t0 ty cs fr d hg hu hd hi]) hdef hR
theorem ret_cell2 (h : fn.results = #[.cell t ty, .tmp u]) (hu : P.underlying ty = some d) (hd : (match d with | .struct _ | .array _ _ => true | _ => false) = true) (hi : (P.info? ty).map (·.size) = some cs.size) (hp : a.tmps.getD t undef = .pointer (some ⟨B, 0, none⟩)) (hdef : a.defers = [])
    (hg : w.heap[B]? = some (.cells cs t0 fr)) (hR : R (.returned (.tuple #[.agg cs, a.tmps.getD u undef])) w) : bodyPost P fn R .ret a w := by
  have hp' : a.tmps[t]?.getD undef = .pointer (some ⟨B, 0, none⟩) := by simpa using hp
  exact bodyPost_ret (by simp [results, h, hp', asAddr, run_loadVar_row w B t0 ty cs fr d hg hu hd hi, Sem.run_bind, Result.andThen]) hdef hR
theorem ret_cell3 (h : fn.results = #[.cell t ty, .tmp u, .tmp u2]) (hu : P.underlying ty = some d) (hd : (match d with | .struct _ | .array _ _ => true | _ => false) = true) (hi : (P.info? ty).map (·.size) = some cs.size) (hp : a.tmps.getD t undef = .pointer (some ⟨B, 0, none⟩)) (hdef : a.defers = [])
    (hg : w.heap[B]? = some (.cells cs t0 fr)) (hR : R (.returned (.tuple #[.agg cs, a.tmps.getD u undef, a.tmps.getD u2 undef])) w) : bodyPost P fn R .ret a w := by
  have hp' : a.tmps[t]?.getD undef = .pointer (some ⟨B, 0, none⟩) := by simpa using hp
  exact bodyPost_ret (by simp [results, h, hp', asAddr, run_loadVar_row w B t0 ty cs fr d hg hu hd hi, Sem.run_bind, Result.andThen]) hdef hR
theorem ret_cell4 (h : fn.results = #[.cell t ty, .tmp u, .tmp u2, .tmp u3]) (hu : P.underlying ty = some d) (hd : (match d with | .struct _ | .array _ _ => true | _ => false) = true) (hi : (P.info? ty).map (·.size) = some cs.size) (hp : a.tmps.getD t undef = .pointer (some ⟨B, 0, none⟩)) (hdef : a.defers = [])
    (hg : w.heap[B]? = some (.cells cs t0 fr)) (hR : R (.returned (.tuple #[.agg cs, a.tmps.getD u undef, a.tmps.getD u2 undef, a.tmps.getD u3 undef])) w) : bodyPost P fn R .ret a w := by
  have hp' : a.tmps[t]?.getD undef = .pointer (some ⟨B, 0, none⟩) := by simpa using hp
  exact bodyPost_ret (by simp [results, h, hp', asAddr, run_loadVar_row w B t0 ty cs fr d hg hu hd hi, Sem.run_bind, Result.andThen]) hdef hR
end
/-- Of the old blocks, s alone has been written. -/
structure Dr (s : Nat) (w w' : World) : Prop where
  os : w'.os = w.os
  tape : w'.tape = w.tape
  output : w'.output = w.output
  size : w.heap.size ≤ w'.heap.size
  block : ∀ k, k < w.heap.size → k ≠ s → w'.heap[k]? = w.heap[k]?
theorem Dr.refl (s : Nat) (w : World) : Dr s w w := ⟨rfl, rfl, rfl, Nat.le_refl _, fun _ _ _ => rfl⟩
theorem Dr.trans {s : Nat} {a b c : World} (h : Dr s a b) (k : Dr s b c) : Dr s a c :=
  ⟨k.os.trans h.os, k.tape.trans h.tape, k.output.trans h.output, Nat.le_trans h.size k.size, fun i hi hn => (k.block i (Nat.lt_of_lt_of_le hi h.size) hn).trans (h.block i hi hn)⟩
theorem Dr.of {s : Nat} {w w' : World} (h : Below w.heap.size w w') : Dr s w w' := ⟨h.os, h.tape, h.output, h.size, fun k hk _ => h.block k hk⟩
theorem Dr.below {s B : Nat} {w w' : World} (h : Dr s w w') (hB : B ≤ s) (hw : B ≤ w.heap.size) : Below B w w' :=
  ⟨h.os, h.tape, h.output, h.size, fun k hk => h.block k (by omega) (by omega)⟩
theorem Dr.set (s o : Nat) (w : World) (v : Value) : Dr s w (w.setCell ⟨s, o, none⟩ v) :=
  ⟨rfl, rfl, rfl, by simp [World.setCell], fun k _ hn => Below.heap_setCell _ _ _ _ hn⟩
theorem Dr.more {s : Nat} {a b c : World} (h : Dr s a b) (k : Below b.heap.size b c) : Dr s a c := h.trans (.of k)
theorem Dr.cell {s : Nat} {w w' : World} (h : Dr s w w') {b o : Nat} {v : Value} (hc : w.cell? ⟨b, o, none⟩ = some v) (hn : b ≠ s) : w'.cell? ⟨b, o, none⟩ = some v := by
  have hb := World.block_lt_of_cell? _ _ hc
  have e := h.block b hb hn
  unfold World.cell? at hc ⊢
  rw [e]; exact hc
theorem RowAt.dr {s : Nat} {w w' : World} {a : Option Addr} {n : Nat} {zs : List Int} (h : RowAt w a n zs) (hd : Dr s w w') (hn : ∀ x, a = some x → x.block ≠ s) : RowAt w' a n zs :=
  ⟨h.len, h.small, fun h0 => by
    obtain ⟨b, off, rfl, hlt, hc⟩ := h.at' h0
    exact ⟨b, off, rfl, Nat.lt_of_lt_of_le hlt hd.size, fun j hj => hd.cell (hc j hj) (hn _ rfl)⟩⟩
theorem Box.dr {s : Nat} {w w' : World} {B : Nat} {p pw g : Int} (h : Box w B p pw g) (hd : Dr s w w') (hn : B ≠ s) : Box w' B p pw g :=
  ⟨Nat.lt_of_lt_of_le h.lt hd.size, hd.cell h.c0 hn, hd.cell h.c1 hn, hd.cell h.c2 hn⟩
/-- A readable slice of bytes. -/
structure RowB (w : World) (a : Option Addr) (n : Nat) (zs : List Int) : Prop where
  len : zs.length = n
  small : n ≤ 9223372036854775807
  el : ∀ j, 0 ≤ gi zs j ∧ gi zs j < 256
  at' : 0 < n → ∃ b off, a = some ⟨b, off, none⟩ ∧ b < w.heap.size ∧ ∀ j, j < n → w.cell? ⟨b, off + j, none⟩ = some (.int .u8 (gi zs j))
theorem RowB.below' {w w' : World} {a : Option Addr} {n : Nat} {zs : List Int} (h : RowB w a n zs) (hb : Below w.heap.size w w') : RowB w' a n zs :=
  ⟨h.len, h.small, h.el, fun hn => by
    obtain ⟨b, off, rfl, hlt, hc⟩ := h.at' hn
    exact ⟨b, off, rfl, by have := hb.size; omega, fun j hj => (hb.cell (p := ⟨b, off + j, none⟩) hlt).trans (hc j hj)⟩⟩
theorem RowB.dr {s : Nat} {w w' : World} {a : Option Addr} {n : Nat} {zs : List Int} (h : RowB w a n zs) (hd : Dr s w w') (hn : 0 < n → ∀ x, a = some x → x.block ≠ s) : RowB w' a n zs :=
  ⟨h.len, h.small, h.el, fun h0 => by
    obtain ⟨b, off, rfl, hlt, hc⟩ := h.at' h0
    exact ⟨b, off, rfl, Nat.lt_of_lt_of_le hlt hd.size, fun j hj => hd.cell (hc j hj) (hn h0 _ rfl)⟩⟩
abbrev SrcT : TypeId := 162
/-- Block s is a source of numbers, with the place and the seed. -/
structure SrcAt (w : World) (s : Nat) (c : Option Addr) (n cap : Nat) (bs : List Int) (i : Nat) (sd : Int) : Prop where
  row : RowB w c n bs
  ne : 0 < n → ∀ x, c = some x → x.block < s
  le : i ≤ n
  sd0 : 0 ≤ sd
  sd1 : sd < 2147483647
  blk : w.heap[s]? = some (.cells #[.slice c n cap, .int .i64 i, .int .i64 sd] SrcT (0, 0))
def Src (w : World) (s : Nat) : Prop := ∃ c n cap bs i sd, SrcAt w s c n cap bs i sd
theorem SrcAt.lt {w : World} {s : Nat} {c : Option Addr} {n cap : Nat} {bs : List Int} {i : Nat} {sd : Int} (h : SrcAt w s c n cap bs i sd) : s < w.heap.size := lt_of_heap h.blk
theorem Src.lt {w : World} {s : Nat} (h : Src w s) : s < w.heap.size := by obtain ⟨c, n, cap, bs, i, sd, h⟩ := h; exact h.lt
theorem SrcAt.below {w w' : World} {s : Nat} {c : Option Addr} {n cap : Nat} {bs : List Int} {i : Nat} {sd : Int} (h : SrcAt w s c n cap bs i sd) (hb : Below w.heap.size w w') : SrcAt w' s c n cap bs i sd :=
  ⟨h.row.below' hb, h.ne, h.le, h.sd0, h.sd1, (hb.block s h.lt).trans h.blk⟩
theorem Src.below {w w' : World} {s : Nat} (h : Src w s) (hb : Below w.heap.size w w') : Src w' s := by
  obtain ⟨c, n, cap, bs, i, sd, h⟩ := h; exact ⟨c, n, cap, bs, i, sd, h.below hb⟩
theorem SrcAt.c0 {w : World} {s : Nat} {c : Option Addr} {n cap : Nat} {bs : List Int} {i : Nat} {sd : Int} (h : SrcAt w s c n cap bs i sd) : w.cell? ⟨s, 0, none⟩ = some (.slice c n cap) := by
  unfold World.cell?; rw [h.blk]; rfl
theorem SrcAt.c1 {w : World} {s : Nat} {c : Option Addr} {n cap : Nat} {bs : List Int} {i : Nat} {sd : Int} (h : SrcAt w s c n cap bs i sd) : w.cell? ⟨s, 1, none⟩ = some (.int .i64 i) := by
  unfold World.cell?; rw [h.blk]; rfl
theorem SrcAt.c2 {w : World} {s : Nat} {c : Option Addr} {n cap : Nat} {bs : List Int} {i : Nat} {sd : Int} (h : SrcAt w s c n cap bs i sd) : w.cell? ⟨s, 2, none⟩ = some (.int .i64 sd) := by
  unfold World.cell?; rw [h.blk]; rfl
theorem SrcAt.fz {w : World} {s : Nat} {c : Option Addr} {n cap : Nat} {bs : List Int} {i : Nat} {sd : Int} (h : SrcAt w s c n cap bs i sd) (o : Nat) : w.frozen? ⟨s, o, none⟩ = false := by
  unfold World.frozen?; rw [h.blk]; simp
theorem SrcAt.seed {w : World} {s : Nat} {c : Option Addr} {n cap : Nat} {bs : List Int} {i : Nat} {sd : Int} (h : SrcAt w s c n cap bs i sd) (x : Int) (h0 : 0 ≤ x) (h1 : x < 2147483647) : SrcAt (w.setCell ⟨s, 2, none⟩ (.int .i64 x)) s c n cap bs i x :=
  ⟨h.row.dr (.set s 2 w _) (fun h0 x hx => Nat.ne_of_lt (h.ne h0 x hx)), h.ne, h.le, h0, h1, by rw [heap_setCell_self _ _ _ _ _ _ _ h.blk]; rfl⟩
theorem SrcAt.step {w : World} {s : Nat} {c : Option Addr} {n cap : Nat} {bs : List Int} {i : Nat} {sd : Int} (h : SrcAt w s c n cap bs i sd) (hi : i < n) (x : Int) (hx : x = (i : Int) + 1) : SrcAt (w.setCell ⟨s, 1, none⟩ (.int .i64 x)) s c n cap bs (i + 1) sd :=
  ⟨h.row.dr (.set s 1 w _) (fun h0 x hx => Nat.ne_of_lt (h.ne h0 x hx)), h.ne, hi, h.sd0, h.sd1, by rw [heap_setCell_self _ _ _ _ _ _ _ h.blk, hx]; rfl⟩
theorem SrcAt.drew {w : World} {s : Nat} {c : Option Addr} {n cap : Nat} {bs : List Int} {i : Nat} {sd : Int} (h : SrcAt w s c n cap bs i sd) {w' : World} (hd : Drew w w') : SrcAt w' s c n cap bs i sd := h.below (hd.below _)
theorem SrcAt.other {w : World} {s : Nat} {c : Option Addr} {n cap : Nat} {bs : List Int} {i : Nat} {sd : Int} (h : SrcAt w s c n cap bs i sd) {B : Nat} (hB : s < B) (o : Nat) (v : Value) : SrcAt (w.setCell ⟨B, o, none⟩ v) s c n cap bs i sd :=
  ⟨h.row.dr (.set B o w _) (fun h0 x hx => by have := h.ne h0 x hx; omega), h.ne, h.le, h.sd0, h.sd1, (Below.heap_setCell _ _ _ _ (show s ≠ B by omega)).trans h.blk⟩
theorem Src.other {w : World} {s B : Nat} (h : Src w s) (hB : s < B) (o : Nat) (v : Value) : Src (w.setCell ⟨B, o, none⟩ v) s := by
  obtain ⟨c, n, cap, bs, i, sd, h⟩ := h; exact ⟨c, n, cap, bs, i, sd, h.other hB o v⟩
theorem Dr.setNew {s B : Nat} {w0 w : World} (h : Dr s w0 w) (hB : w0.heap.size ≤ B) (o : Nat) (v : Value) : Dr s w0 (w.setCell ⟨B, o, none⟩ v) :=
  ⟨h.os, h.tape, h.output, by simpa [World.setCell] using h.size, fun k hk hn => (Below.heap_setCell _ _ _ _ (show k ≠ B by omega)).trans (h.block k hk hn)⟩
theorem Dr.alloc {s : Nat} {w0 w : World} (h : Dr s w0 w) (o : Obj) : Dr s w0 (w.alloc o) := h.more ((Below.refl _ _).alloc (Nat.le_refl _) o)
theorem Dr.drew {s : Nat} {w0 w w' : World} (h : Dr s w0 w) (hd : Drew w w') : Dr s w0 w' := h.more (hd.below _)
theorem Src.alloc {w : World} {s : Nat} (h : Src w s) (o : Obj) : Src (w.alloc o) s := h.below ((Below.refl _ _).alloc (Nat.le_refl _) o)
theorem Src.drew {w w' : World} {s : Nat} (h : Src w s) (hd : Drew w w') : Src w' s := h.below (hd.below _)
/-- What a drawn number is like. -/
def Drawn (n r : Int) : Prop := (n ≤ 1 → r = 0) ∧ (1 < n → 0 ≤ r ∧ r < n)
theorem drawn_one {n : Int} (h : n ≤ 1) : Drawn n 0 := ⟨fun _ => rfl, fun h2 => by omega⟩
theorem drawn_mod {n : Int} (h : 1 < n) (x : Int) (h0 : 0 ≤ x) : Drawn n (x % n) := ⟨fun h2 => by omega, fun _ => ⟨Int.emod_nonneg _ (by omega), Int.emod_lt_of_pos _ (by omega)⟩⟩
set_option maxHeartbeats 1000000 in
theorem l01Next_any {w : World} {s : Nat} (hs : Src w s) (n : Int) (hn : n ≤ 1000000000) :
    Calls Try.prog 94 #[.pointer (some ⟨s, 0, none⟩), .int .i64 n] w fun e w' => ∃ r, e = .returned (.int .i64 r) ∧ Drawn n r ∧ Dr s w w' ∧ Src w' s := by
  obtain ⟨c, m, cap, bs, i, sd, h⟩ := hs
  have H := Lib.hid h
  have h0 := h.sd0
  have h1 := h.sd1
  have c2 := h.c2
  have h2 := h.fz 2
  clear h
  go_enter Try.func94, Try.ntmps94
  by_cases hn1 : n ≤ 1
  · have HD := Lib.hid (drawn_one hn1)
    go_wp2_with fail
    go_ret
    exact ⟨_, rfl, HD.out, .refl _ _, _, _, _, _, _, _, H.out⟩
  · have f2 := h2
    have e1 : (sd * 48271 + 11).tmod 2147483647 = (sd * 48271 + 11) % 2147483647 := Int.tmod_eq_emod_of_nonneg (by omega)
    obtain ⟨sd', hsd'⟩ : ∃ x, x = (sd * 48271 + 11) % 2147483647 := ⟨_, rfl⟩
    have hs0 : 0 ≤ sd' := by omega
    have hs1 : sd' < 2147483647 := by omega
    have H1 := Lib.hid (H.out.seed sd' hs0 hs1)
    have D1 := Lib.hid (Dr.set s 2 w (.int .i64 sd'))
    go_wp2_with fail
    rw [← hsd']
    clear hsd' c2 f2 h2 e1 h0 h1
    generalize w.setCell ⟨s, 2, none⟩ (.int .i64 sd') = w1 at *
    have c0 := H1.out.c0
    have c1 := H1.out.c1
    have c2 := H1.out.c2
    have hle := H1.out.le
    have hsm := H1.out.row.small
    by_cases hi : i < m
    · obtain ⟨b, off, rfl, hb, hcell⟩ := H1.out.row.at' (by omega)
      have hcb := hcell i hi
      have hel := H1.out.row.el i
      clear hcell
      generalize gi bs i = z at *
      have H2 := H1.out.step hi ((i : Int) + 1) rfl
      have D2 := Lib.hid (D1.out.trans (Dr.set s 1 w1 (.int .i64 ((i : Int) + 1))))
      have g0 := H2.c0
      have g1 := H2.c1
      have hbs : b ≠ s := Nat.ne_of_lt (H1.out.ne (by omega) _ rfl)
      have gcb := (Dr.set s 1 w1 (.int .i64 ((i : Int) + 1))).cell hcb hbs
      have G2 := Lib.hid H2
      clear H2
      simp only [Int.natCast_add, Int.cast_ofNat_Int] at g1
      have hn0 : ¬ n = 0 := by omega
      have e3 : sd'.tdiv 17 = sd' / 17 := Int.tdiv_eq_ediv_of_nonneg hs0
      have e4 : (sd' / 17 + z).tmod n = (sd' / 17 + z) % n := Int.tmod_eq_emod_of_nonneg (by omega)
      have e5 : z.tmod n = z % n := Int.tmod_eq_emod_of_nonneg (by omega)
      have e6 : ((i : Int) + 1).tmod 2 = ((i : Int) + 1) % 2 := Int.tmod_eq_emod_of_nonneg (by omega)
      have HD1 := Lib.hid (drawn_mod (show 1 < n by omega) (sd' / 17 + z) (by omega))
      have HD2 := Lib.hid (drawn_mod (show 1 < n by omega) z (by omega))
      have f1 := H1.out.fz 1
      go_region
      go_wp2_with fail
      go_region
      go_wp2_with fail
      · generalize w1.setCell ⟨s, 1, none⟩ (.int .i64 ((i : Int) + 1)) = w2 at *
        go_region
        go_wp2_with fail
        go_ret
        exact ⟨_, rfl, HD2.out, D2.out.more (Drew.below ((drew1 w2).trans ((drew1 _).trans (drew1 _))) _), _, _, _, _, _, _, G2.out.drew ((drew1 w2).trans ((drew1 _).trans (drew1 _)))⟩
      · go_ret
        exact ⟨_, rfl, HD1.out, D2.out.more (Drew.below ((drew1 _).trans (drew1 _)) _), _, _, _, _, _, _, G2.out.drew ((drew1 _).trans (drew1 _))⟩
      · go_ret
        exact ⟨_, rfl, HD1.out, D2.out.more (Drew.below ((drew1 _).trans (drew1 _)) _), _, _, _, _, _, _, G2.out.drew ((drew1 _).trans (drew1 _))⟩
    · have hn0 : ¬ n = 0 := by omega
      have e3 : sd'.tdiv 17 = sd' / 17 := Int.tdiv_eq_ediv_of_nonneg hs0
      have e4 : (sd' / 17).tmod n = (sd' / 17) % n := Int.tmod_eq_emod_of_nonneg (by omega)
      have HD := Lib.hid (drawn_mod (show 1 < n by omega) (sd' / 17) (by omega))
      go_region
      go_wp2_with fail
      go_ret
      exact ⟨_, rfl, HD.out, D1.out.more ((drew1 w1).below _), _, _, _, _, _, _, H1.out.drew (drew1 w1)⟩
set_option maxHeartbeats 1000000 in
theorem l01From_any {w : World} {c : Option Addr} {n cap : Nat} {bs : List Int} (hr : RowB w c n bs) :
    Calls Try.prog 81 #[.slice c n cap] w fun e w' => ∃ s, e = .returned (.pointer (some ⟨s, 0, none⟩)) ∧ w.heap.size ≤ s ∧ Below w.heap.size w w' ∧ Src w' s := by
  have HR := Lib.hid hr
  have hsm := hr.small
  have H0 := Lib.hid (show SrcAt (w.alloc (.cells #[.slice c n cap, .int .i64 0, .int .i64 60617] SrcT)) w.heap.size c n cap bs 0 60617 from
    ⟨hr.below' (below1 _ _), fun h0 x hx => by obtain ⟨b, off, e, hb, _⟩ := hr.at' h0; rw [hx] at e; cases e; show b < w.heap.size; omega, by omega, by omega, by omega, heap_new _ _⟩)
  have B0 := Lib.hid (below1 w (.cells #[.slice c n cap, .int .i64 0, .int .i64 60617] SrcT))
  clear hr
  go_enter Try.func81, Try.ntmps81
  go_wp2_with fail
  go_loopw [4] (fun t wr => ∃ (k : Nat) (sd : Int), k ≤ n ∧ k ≤ 64 ∧ t = .int .i64 k ∧ Hid (SrcAt wr w.heap.size c n cap bs 0 sd) ∧ Hid (Below w.heap.size w wr)) (fun t _ => n - (intOf t).toNat)
  case atStart => exact ⟨0, 60617, by omega, by omega, rfl, H0, B0⟩
  case round =>
    obtain ⟨k, sd, hk, hk2, rfl, hs, hb⟩ := hrel
    clear H0 B0
    by_cases hlt : k < n ∧ k < 64
    · obtain ⟨h1, h2⟩ := hlt
      obtain ⟨b, off, rfl, hbb, hcell⟩ := hs.out.row.at' (by omega)
      have hcb := hcell k h1
      have hel := hs.out.row.el k
      have c2 := hs.out.c2
      have f2 := hs.out.fz 2
      have hs0 := hs.out.sd0
      have hs1 := hs.out.sd1
      clear hcell
      generalize gi bs k = z at *
      have e1 : (sd * 43 + z).tmod 2147483647 = (sd * 43 + z) % 2147483647 := Int.tmod_eq_emod_of_nonneg (by omega)
      have HN := Lib.hid (hs.out.seed ((sd * 43 + z) % 2147483647) (by omega) (by omega))
      have BN := Lib.hid (hb.out.setCell (p := ⟨w.heap.size, 2, none⟩) (Nat.le_refl _) (.int .i64 ((sd * 43 + z) % 2147483647)))
      go_wp2_with fail
      go_region
      go_wp2_with fail
      go_roundw
      case rel => exact ⟨k + 1, _, by omega, by omega, by go_num, Lib.hid (HN.out.drew (drew1 _)), Lib.hid (BN.out.trans (Drew.below (drew1 _) _))⟩
      case measure => simp [intOf]; omega
    · by_cases h1 : k < n
      · have h2 : ¬ (k : Int) < 64 := by omega
        go_wp2_with fail
        go_ret
        exact ⟨_, rfl, Nat.le_refl _, hb.out, _, _, _, _, _, _, hs.out⟩
      · go_wp2_with fail
        go_ret
        exact ⟨_, rfl, Nat.le_refl _, hb.out, _, _, _, _, _, _, hs.out⟩
/-- What is drawn as a field. -/
def FldOk (p pw g : Int) : Prop := validB p pw g = true ∨ (p = 0 ∧ pw = 0 ∧ g = 0)
theorem good37 : goodB (timesP 3 7) (nP 7) = true := by
  unfold goodB
  simp only [decide_eq_true_eq]
  refine ⟨fun n hn => ?_, by decide⟩
  have hn : n < 6 := hn
  rcases (show n = 0 ∨ n = 1 ∨ n = 2 ∨ n = 3 ∨ n = 4 ∨ n = 5 by omega) with rfl | rfl | rfl | rfl | rfl | rfl <;> decide
theorem prime7 : primeB 7 = true := by
  refine primeB_yes (d := 3) (by omega) (by omega) (by omega) fun d' h1 h2 h3 => ?_
  obtain rfl : d' = 2 := by omega
  decide
set_option maxHeartbeats 1000000 in
theorem FieldOf_any (n : Int) (h3 : 3 ≤ n) (hn : n ≤ 1021) (w : World) :
    Calls Try.prog 175 #[.int .i64 n] w fun e w' => ∃ p pw g cd, e = .returned (.tuple #[fV p pw g, .int .i64 cd]) ∧ Below w.heap.size w w' ∧ FldOk p pw g ∧ (n = 7 → validB p pw g = true ∧ p = 7 ∧ pw = 1) := by
  have HP := Lib.hid (fun W => l02Prime_any n (by omega) (by omega) W)
  have hin : inR n 3 1021 = true := inR_true h3 hn
  have HRES := Lib.hid (show Try.f175.results = #[.cell 2 FTa, .tmp 3] by kernel_rfl)
  go_enter Try.func175, Try.ntmps175
  go_wp2_with fail
  refine (l01In_any _ _ _ _).mono ?_
  rintro e w1 ⟨rfl, rfl⟩
  rw [hin]
  have F0 := Lib.hid (FB.new w 0 0 0)
  have B0 := Lib.hid (below1 w (.cells #[.int .i64 0, .int .i64 0, .int .i64 0] FTa))
  clear hin
  generalize w.alloc (.cells #[.int .i64 0, .int .i64 0, .int .i64 0] FTa) = w1 at *
  go_wp2_with fail
  refine (HP.out _).mono ?_
  rintro e w2 ⟨rfl, rfl⟩
  cases hpr : primeB n with
  | true =>
    have HPR := Lib.hid hpr
    clear hpr
    go_wp2_with fail
    go_loopw [4] (fun t wr => ∃ gg : Int, 1 ≤ gg ∧ gg ≤ n ∧ t = .int .i64 gg ∧ Hid (NoGen1 n gg) ∧ Hid (FB wr w.heap.size 0 0 0) ∧ Hid (Below w.heap.size w wr)) (fun t _ => (n - intOf t).toNat)
    case atStart => exact ⟨1, by omega, by omega, rfl, Lib.hid (fun x h1 h2 => by omega), F0, B0⟩
    case round =>
      obtain ⟨gg, h1, h2, rfl, hng, hfb, hb⟩ := hrel
      clear F0 B0
      by_cases hlt : gg < n
      · have HRU := Lib.hid (fun W => runs_prime n gg gg (by omega) (by omega) h1 hlt W)
        have hsz := hfb.out.lt
        have F1 := Lib.hid (hfb.out.below (below1 wr (.cells #[.int .i64 n, .int .i64 1, .int .i64 gg] FTa)) hfb.out.lt)
        have B1 := Lib.hid (hb.out.trans ((below1 wr (.cells #[.int .i64 n, .int .i64 1, .int .i64 gg] FTa)).mono hb.out.size))
        have X1 := Lib.hid (FB.new wr n 1 gg)
        go_wp2_with fail
        refine (HRU.out _).mono ?_
        rintro e w5 ⟨rfl, hb5⟩
        have F5 := Lib.hid (F1.out.below hb5 F1.out.lt)
        have B5 := Lib.hid (B1.out.trans (hb5.mono B1.out.size))
        have X5 := X1.out.below hb5 X1.out.lt
        have c0 := X5.c0
        have c1 := X5.c1
        have c2 := X5.c2
        clear X5 hb5
        cases hg : goodB (timesP gg n) (nP n) with
        | true =>
          have HV := Lib.hid (show validB n 1 gg = true by rw [valid_prime (by omega) (by omega) HPR.out h1 hlt hng.out, hg])
          clear hg
          have r0 := F5.out.c0
          have r1 := F5.out.c1
          have r2 := F5.out.c2
          have f0 := F5.out.fz 0
          have f1 := F5.out.fz 1
          have f2 := F5.out.fz 2
          have FS := Lib.hid (F5.out.set n 1 gg)
          have BS := Lib.hid (((B5.out.setCell (p := ⟨w.heap.size, 0, none⟩) (Nat.le_refl _) (.int .i64 n)).setCell (p := ⟨w.heap.size, 1, none⟩) (Nat.le_refl _) (.int .i64 1)).setCell (p := ⟨w.heap.size, 2, none⟩) (Nat.le_refl _) (.int .i64 gg))
          go_wp2_with fail
          (try simp only [Exit.inBlock, Exit.then])
          exact ret_cell2 HRES.out Try.underlying29 rfl (by kernel_rfl) rfl rfl FS.out.blk ⟨_, _, _, _, rfl, BS.out, .inl HV.out, fun h => ⟨HV.out, h, rfl⟩⟩
        | false =>
          have HN := Lib.hid (hng.out.next hg)
          clear hg
          go_wp2_with fail
          go_roundw
          case rel => exact ⟨gg + 1, by omega, by omega, by go_num, HN, F5, B5⟩
          case measure => simp [intOf]; omega
      · have HNG := Lib.hid (show NoGen1 n n by have e : gg = n := by omega
                                                rw [e] at hng; exact hng.out)
        have H7 := Lib.hid (show n ≠ 7 from fun h => by
          have h3 := HNG.out 3 (by omega) (by omega)
          rw [h, good37] at h3; cases h3)
        have F0 := hfb
        have B0 := hb
        clear hfb hb hng h1 h2 HNG
        go_wp2_with fail
        go_loopw [6] (fun t wr => ∃ q : Nat, 3 ≤ q ∧ q ≤ 9 ∧ t = .int .i64 q ∧ Hid (FB wr w.heap.size 0 0 0) ∧ Hid (Below w.heap.size w wr)) (fun t _ => 9 - (intOf t).toNat)
        case atStart => exact ⟨3, by omega, by omega, rfl, F0, B0⟩
        case round =>
          clear F0 B0
          obtain ⟨q, hq1, hq2, rfl, hfb, hb⟩ := hrel
          by_cases hlt : q ≤ 8
          · obtain ⟨m, hm⟩ : ∃ m : Nat, m = 2 ^ q := ⟨_, rfl⟩
            have hm8 : m ≤ 2 ^ 8 := by rw [hm]; exact Nat.pow_le_pow_right (by omega) hlt
            have hwm : wrap64 ((2 : Int) ^ q) = (m : Int) := by
              have e : ((2 ^ q : Nat) : Int) = (2 : Int) ^ q := by simp
              rw [← e, ← hm]; exact IntWalk.wrap64_in _ (by omega)
            clear hm
            by_cases hnm : n = (m : Int)
            · have hnm2 : (n != (m : Int)) = false := by simp [hnm]
              have hn8 : n ≤ 256 := by omega
              clear hnm hm8
              have hq8 : decide ((q : Int) ≤ 8) = true := by simp; omega
              go_wp2_with fail
              (try simp only [hwm, hq8])
              have HQ8 := Lib.hid hlt
              clear hwm hq8 hlt
              go_loopw [7] (fun t wr => ∃ y : Int, n ≤ y ∧ y ≤ 2 * n ∧ t = .int .i64 y ∧ Hid (FB wr w.heap.size 0 0 0) ∧ Hid (Below w.heap.size w wr)) (fun t _ => (2 * n - intOf t).toNat)
              case atStart => exact ⟨n, by omega, by omega, rfl, hfb, hb⟩
              case round =>
                clear hfb hb
                obtain ⟨y, hy1, hy2, rfl, hfb, hb⟩ := hrel
                by_cases hlt2 : y < 2 * n
                · have hsz := hfb.out.lt
                  have F1 := Lib.hid (hfb.out.below (below1 wr (.cells #[.int .i64 2, .int .i64 q, .int .i64 y] FTa)) hfb.out.lt)
                  have B1 := Lib.hid (hb.out.trans ((below1 wr (.cells #[.int .i64 2, .int .i64 q, .int .i64 y] FTa)).mono hb.out.size))
                  have X1 := Lib.hid (FB.new wr 2 q y)
                  go_wp2_with fail
                  refine (isField_any _ _ _ _).mono ?_
                  rintro e w5 ⟨rfl, hb5⟩
                  have F5 := Lib.hid (F1.out.below hb5 F1.out.lt)
                  have B5 := Lib.hid (B1.out.trans (hb5.mono B1.out.size))
                  have X5 := X1.out.below hb5 X1.out.lt
                  have c0 := X5.c0
                  have c1 := X5.c1
                  have c2 := X5.c2
                  clear X5 hb5
                  cases hg : validB 2 q y with
                  | true =>
                    have HV := Lib.hid hg
                    clear hg
                    have r0 := F5.out.c0
                    have r1 := F5.out.c1
                    have r2 := F5.out.c2
                    have f0 := F5.out.fz 0
                    have f1 := F5.out.fz 1
                    have f2 := F5.out.fz 2
                    have FS := Lib.hid (F5.out.set 2 q y)
                    have BS := Lib.hid (((B5.out.setCell (p := ⟨w.heap.size, 0, none⟩) (Nat.le_refl _) (.int .i64 2)).setCell (p := ⟨w.heap.size, 1, none⟩) (Nat.le_refl _) (.int .i64 q)).setCell (p := ⟨w.heap.size, 2, none⟩) (Nat.le_refl _) (.int .i64 y))
                    go_wp2_with fail
                    (try simp only [Exit.inBlock, Exit.then])
                    exact ret_cell2 HRES.out Try.underlying29 rfl (by kernel_rfl) rfl rfl FS.out.blk ⟨_, _, _, _, rfl, BS.out, .inl HV.out, fun h => (H7.out h).elim⟩
                  | false =>
                    clear hg
                    go_wp2_with fail
                    go_roundw
                    case rel => exact ⟨y + 1, by omega, by omega, rfl, F5, B5⟩
                    case measure => simp [intOf]; omega
                · go_wp2_with fail
                  go_roundw
                  case rel => exact ⟨q + 1, by omega, by have := HQ8.out; omega, by go_num, hfb, hb⟩
                  case measure => have := HQ8.out; simp [intOf]; omega
            · have hnm2 : (n != (m : Int)) = true := by simp [hnm]
              go_wp2_with fail
              go_roundw
              case rel => exact ⟨q + 1, by omega, by omega, by go_num, hfb, hb⟩
              case measure => simp [intOf]; omega
          · have r0 := hfb.out.c0
            have r1 := hfb.out.c1
            have r2 := hfb.out.c2
            have f0 := hfb.out.fz 0
            have f1 := hfb.out.fz 1
            have f2 := hfb.out.fz 2
            have FS := Lib.hid (hfb.out.set 0 0 0)
            have BS := Lib.hid (((hb.out.setCell (p := ⟨w.heap.size, 0, none⟩) (Nat.le_refl _) (.int .i64 0)).setCell (p := ⟨w.heap.size, 1, none⟩) (Nat.le_refl _) (.int .i64 0)).setCell (p := ⟨w.heap.size, 2, none⟩) (Nat.le_refl _) (.int .i64 0))
            go_wp2_with fail
            (try simp only [Exit.inBlock, Exit.then])
            exact ret_cell2 HRES.out Try.underlying29 rfl (by kernel_rfl) rfl rfl FS.out.blk ⟨_, _, _, _, rfl, BS.out, .inr ⟨rfl, rfl, rfl⟩, fun h => (H7.out h).elim⟩
  | false =>
    have H7 := Lib.hid (show n ≠ 7 from fun h => by rw [h, prime7] at hpr; cases hpr)
    clear hpr
    go_wp2_with fail
    go_loopw [6] (fun t wr => ∃ q : Nat, 3 ≤ q ∧ q ≤ 9 ∧ t = .int .i64 q ∧ Hid (FB wr w.heap.size 0 0 0) ∧ Hid (Below w.heap.size w wr)) (fun t _ => 9 - (intOf t).toNat)
    case atStart => exact ⟨3, by omega, by omega, rfl, F0, B0⟩
    case round =>
      clear F0 B0
      obtain ⟨q, hq1, hq2, rfl, hfb, hb⟩ := hrel
      by_cases hlt : q ≤ 8
      · obtain ⟨m, hm⟩ : ∃ m : Nat, m = 2 ^ q := ⟨_, rfl⟩
        have hm8 : m ≤ 2 ^ 8 := by rw [hm]; exact Nat.pow_le_pow_right (by omega) hlt
        have hwm : wrap64 ((2 : Int) ^ q) = (m : Int) := by
          have e : ((2 ^ q : Nat) : Int) = (2 : Int) ^ q := by simp
          rw [← e, ← hm]; exact IntWalk.wrap64_in _ (by omega)
        clear hm
        by_cases hnm : n = (m : Int)
        · have hnm2 : (n != (m : Int)) = false := by simp [hnm]
          have hn8 : n ≤ 256 := by omega
          clear hnm hm8
          have hq8 : decide ((q : Int) ≤ 8) = true := by simp; omega
          go_wp2_with fail
          (try simp only [hwm, hq8])
          have HQ8 := Lib.hid hlt
          clear hwm hq8 hlt
          go_loopw [7] (fun t wr => ∃ y : Int, n ≤ y ∧ y ≤ 2 * n ∧ t = .int .i64 y ∧ Hid (FB wr w.heap.size 0 0 0) ∧ Hid (Below w.heap.size w wr)) (fun t _ => (2 * n - intOf t).toNat)
          case atStart => exact ⟨n, by omega, by omega, rfl, hfb, hb⟩
          case round =>
            clear hfb hb
            obtain ⟨y, hy1, hy2, rfl, hfb, hb⟩ := hrel
            by_cases hlt2 : y < 2 * n
            · have hsz := hfb.out.lt
              have F1 := Lib.hid (hfb.out.below (below1 wr (.cells #[.int .i64 2, .int .i64 q, .int .i64 y] FTa)) hfb.out.lt)
              have B1 := Lib.hid (hb.out.trans ((below1 wr (.cells #[.int .i64 2, .int .i64 q, .int .i64 y] FTa)).mono hb.out.size))
              have X1 := Lib.hid (FB.new wr 2 q y)
              go_wp2_with fail
              refine (isField_any _ _ _ _).mono ?_
              rintro e w5 ⟨rfl, hb5⟩
              have F5 := Lib.hid (F1.out.below hb5 F1.out.lt)
              have B5 := Lib.hid (B1.out.trans (hb5.mono B1.out.size))
              have X5 := X1.out.below hb5 X1.out.lt
              have c0 := X5.c0
              have c1 := X5.c1
              have c2 := X5.c2
              clear X5 hb5
              cases hg : validB 2 q y with
              | true =>
                have HV := Lib.hid hg
                clear hg
                have r0 := F5.out.c0
                have r1 := F5.out.c1
                have r2 := F5.out.c2
                have f0 := F5.out.fz 0
                have f1 := F5.out.fz 1
                have f2 := F5.out.fz 2
                have FS := Lib.hid (F5.out.set 2 q y)
                have BS := Lib.hid (((B5.out.setCell (p := ⟨w.heap.size, 0, none⟩) (Nat.le_refl _) (.int .i64 2)).setCell (p := ⟨w.heap.size, 1, none⟩) (Nat.le_refl _) (.int .i64 q)).setCell (p := ⟨w.heap.size, 2, none⟩) (Nat.le_refl _) (.int .i64 y))
                go_wp2_with fail
                (try simp only [Exit.inBlock, Exit.then])
                exact ret_cell2 HRES.out Try.underlying29 rfl (by kernel_rfl) rfl rfl FS.out.blk ⟨_, _, _, _, rfl, BS.out, .inl HV.out, fun h => (H7.out h).elim⟩
              | false =>
                clear hg
                go_wp2_with fail
                go_roundw
                case rel => exact ⟨y + 1, by omega, by omega, rfl, F5, B5⟩
                case measure => simp [intOf]; omega
            · go_wp2_with fail
              go_roundw
              case rel => exact ⟨q + 1, by omega, by have := HQ8.out; omega, by go_num, hfb, hb⟩
              case measure => have := HQ8.out; simp [intOf]; omega
        · have hnm2 : (n != (m : Int)) = true := by simp [hnm]
          go_wp2_with fail
          go_roundw
          case rel => exact ⟨q + 1, by omega, by omega, by go_num, hfb, hb⟩
          case measure => simp [intOf]; omega
      · have r0 := hfb.out.c0
        have r1 := hfb.out.c1
        have r2 := hfb.out.c2
        have f0 := hfb.out.fz 0
        have f1 := hfb.out.fz 1
        have f2 := hfb.out.fz 2
        have FS := Lib.hid (hfb.out.set 0 0 0)
        have BS := Lib.hid (((hb.out.setCell (p := ⟨w.heap.size, 0, none⟩) (Nat.le_refl _) (.int .i64 0)).setCell (p := ⟨w.heap.size, 1, none⟩) (Nat.le_refl _) (.int .i64 0)).setCell (p := ⟨w.heap.size, 2, none⟩) (Nat.le_refl _) (.int .i64 0))
        go_wp2_with fail
        (try simp only [Exit.inBlock, Exit.then])
        exact ret_cell2 HRES.out Try.underlying29 rfl (by kernel_rfl) rfl rfl FS.out.blk ⟨_, _, _, _, rfl, BS.out, .inr ⟨rfl, rfl, rfl⟩, fun h => (H7.out h).elim⟩
end Go.Proofs.Ythbiieflmmnfcaa
