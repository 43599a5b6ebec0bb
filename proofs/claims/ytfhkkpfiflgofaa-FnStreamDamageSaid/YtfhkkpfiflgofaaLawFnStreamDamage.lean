/-
  The walk of the law FnStreamDamage.
-/
import Derived.Test.YtfhkkpfiflgofaaDrawSt
import Derived.Test.YtfhkkpfiflgofaaDrawK
import Derived.Test.YtfhkkpfiflgofaaEncI
import Derived.Test.YtfhkkpfiflgofaaSdm
import Derived.Test.YtfhkkpfiflgofaaDecI
import Derived.Test.YtfhkkpfiflgofaaDmgs
namespace Go.Proofs.Ytfhkkpfiflgofaa
open Go.RowKit
set_option linter.unusedVariables false

theorem DiceAt.lo {W W' : World} {d : Nat} {c : Option Addr} {n cap : Nat} {bs : List Int} {i : Nat} {h : Int} (H : DiceAt W d c n cap bs i h) {M : Nat} (hd : d < M) (hb : Below M W W') : DiceAt W' d c n cap bs i h :=
  ⟨⟨H.row.len, H.row.small, H.row.el, fun hn => by
    obtain ⟨b, off, e, hlt, hc⟩ := H.row.at' hn
    have hbd := H.ne hn _ e
    exact ⟨b, off, e, by have := hb.size; omega, fun j hj => (hb.cell (p := ⟨b, off + j, none⟩) (Nat.lt_trans hbd hd)).trans (hc j hj)⟩⟩, H.ne, H.le, (hb.block d hd).trans H.blk⟩
theorem es_all {p pw g D C N : Int} {zs : List Int} (h : layB p pw g D C N = true) (h2 : (zs.length : Int) = D) (h3 : VFels (ffOf p pw g) zs) : esC p pw g D C N zs = 0 := by
  unfold esC; rw [if_pos h, if_pos ⟨h2, allB_iff.2 h3⟩]
theorem sd_true {p pw g D C N : Int} {Dm E : List Int} (h : sdC p pw g D C N Dm E = 0) (hv : sdV p pw g D C N Dm E = true) {q r n c : Nat} (hl : LN D C N q r n c) :
    ∀ b, b < n → dmW (ordS q r n c) Dm E b (ordS q r n c).length ≤ c := by
  obtain ⟨h1, h2, h3⟩ := sd_zero h
  rw [(sd_ok h1 h2 h3 hl).2] at hv
  intro b hb
  have := List.all_eq_true.1 hv b (List.mem_range.2 hb)
  simpa using this
set_option maxHeartbeats 8000000 in
set_option maxRecDepth 100000 in
theorem lawFnStreamDamage (s0 : Option Addr) (n0 cap0 : Nat) (z0 : List Int) (w : World) (hr : RowB w s0 n0 z0) :
    Calls Try.prog 9 #[.slice s0 n0 cap0] w fun e w' => e = .returned (.bool true) ∧ Below w.heap.size w w' := by
  have HR := Lib.hid hr
  clear hr
  go_enter Try.func9, Try.ntmps9
  go_wp2_with fail
  refine (bigL_any _ _ _ _).mono ?_
  rintro e w1 ⟨rfl, rfl⟩
  by_cases hbig : (4096 : Int) < (n0 : Int)
  · go_wp2_with fail
    go_ret
    exact ⟨rfl, Below.refl _ _⟩
  go_wp2_with fail
  refine (DrawStreamDamage_any HR.out).mono ?_
  rintro e w1 ⟨p, pw, g, D, C, N, vW, vE, rfl, hb1, zW, zE, hoW, hoE, hlW, hlE⟩
  obtain ⟨aW, capW, rfl, hcpW, hcaW, hoaW⟩ := hoW.cap
  have CAW := Lib.hid hcaW
  have CPW := Lib.hid hcpW
  have RW := Lib.hid (hoaW.row.below' (below1 w1 (.cells #[.int .i64 p, .int .i64 pw, .int .i64 g, .int .i64 D, .int .i64 C, .int .i64 N] LT)))
  clear hcaW hoaW hoW hcpW
  obtain ⟨aE, capE, rfl, hcpE, hcaE, hoaE⟩ := hoE.cap
  have CAE := Lib.hid hcaE
  have CPE := Lib.hid hcpE
  have RE := Lib.hid (hoaE.row.below' (below1 w1 (.cells #[.int .i64 p, .int .i64 pw, .int .i64 g, .int .i64 D, .int .i64 C, .int .i64 N] LT)))
  clear hcaE hoaE hoE hcpE
  have B2 := Lib.hid (hb1.alloc hb1.size (.cells #[.int .i64 p, .int .i64 pw, .int .i64 g, .int .i64 D, .int .i64 C, .int .i64 N] LT))
  have X2 := Lib.hid (LB.new w1 p pw g D C N)
  obtain ⟨X, hX⟩ : ∃ X, X = w1.heap.size := ⟨_, rfl⟩
  rw [← hX] at X2
  clear hb1
  go_wp2_with fail
  rw [← hX]
  clear hX
  generalize w1.alloc (.cells #[.int .i64 p, .int .i64 pw, .int .i64 g, .int .i64 D, .int .i64 C, .int .i64 N] LT) = w2 at *
  have k0 := X2.out.c0
  have k1 := X2.out.c1
  have k2 := X2.out.c2
  have k3 := X2.out.c3
  have k4 := X2.out.c4
  have k5 := X2.out.c5
  have XA := Lib.hid X2.out
  have BA := Lib.hid B2.out
  have RWA := Lib.hid RW.out
  have REA := Lib.hid RE.out
  have W2 := Lib.hid (Below.refl w2.heap.size w2)
  go_wp2_with fail
  refine (implStreamDamage_any p pw g D C N _ RW.out RE.out).mono ?_
  rintro e w3 ⟨rfl, hb3⟩
  have BW3 := hb3
  have B3 := Lib.hid (B2.out.trans (hb3.mono B2.out.size))
  have X3 := Lib.hid (X2.out.below hb3 X2.out.lt)
  have RW' := Lib.hid (RW.out.below' hb3)
  have RE' := Lib.hid (RE.out.below' hb3)
  clear RW RE k0 k1 k2 k3 k4 k5 hb3 B2 X2
  have RW := RW'
  have RE := RE'
  clear RW' RE'
  have k0 := X3.out.c0
  have k1 := X3.out.c1
  have k2 := X3.out.c2
  have k3 := X3.out.c3
  have k4 := X3.out.c4
  have k5 := X3.out.c5
  have W3 := Lib.hid BW3
  go_wp2_with fail
  refine (specStreamDamage_any p pw g D C N _ RW.out RE.out).mono ?_
  rintro e w4 ⟨rfl, hb4⟩
  have BW4 := hb4
  have B4 := Lib.hid (B3.out.trans (hb4.mono B3.out.size))
  have X4 := Lib.hid (X3.out.below hb4 X3.out.lt)
  have RW' := Lib.hid (RW.out.below' hb4)
  have RE' := Lib.hid (RE.out.below' hb4)
  clear RW RE k0 k1 k2 k3 k4 k5 hb4 B3 X3
  have RW := RW'
  have RE := RE'
  clear RW' RE'
  have k0 := X4.out.c0
  have k1 := X4.out.c1
  have k2 := X4.out.c2
  have k3 := X4.out.c3
  have k4 := X4.out.c4
  have k5 := X4.out.c5
  have W4 := Lib.hid (W3.out.trans (BW4.mono W3.out.size))
  clear W3 BW3 BW4
  have HP := Lib.hid (fun (h : sdC p pw g D C N zW zE = 0) (hv : sdV p pw g D C N zW zE = true) => And.intro (sd_zero h) (fun q r n c (hl : LN D C N q r n c) => sd_true h hv hl))
  generalize sdC p pw g D C N zW zE = cd at *
  generalize sdV p pw g D C N zW zE = ok at *
  have hq : (cd != cd) = false := by simp
  have hq2 : (ok != ok) = false := by simp
  by_cases hcd : cd = 0 ∧ ok = true
  rotate_left
  · cases ok with
    | false =>
      by_cases h0 : cd = 0
      · have hne : (cd != 0) = false := by simp [h0]
        clear hcd h0
        go_wp2_with fail
        go_ret
        exact ⟨by first | rfl | simp, B4.out⟩
      · have hne : (cd != 0) = true := by simp [h0]
        clear hcd h0
        go_wp2_with fail
        go_ret
        exact ⟨by first | rfl | simp, B4.out⟩
    | true =>
      have h0 : ¬ cd = 0 := fun h => hcd ⟨h, rfl⟩
      have hne : (cd != 0) = true := by simp [h0]
      clear hcd h0
      go_wp2_with fail
      go_ret
      exact ⟨by first | rfl | simp, B4.out⟩
  obtain ⟨hc0, hok⟩ := hcd
  obtain ⟨⟨hlay, -, hrE⟩, hdm⟩ := HP.out hc0 hok
  subst hok
  have hne : (cd != 0) = false := by simp [hc0]
  by_cases hbg : (120 : Int) < D
  · clear hc0 hdm hlay hrE
    go_wp2_with fail
    go_ret
    exact ⟨by first | rfl | simp, B4.out⟩
  obtain ⟨q, r, n, c, hl, htot, -, hvB⟩ := lay_ok hlay
  have HDM := Lib.hid (hdm q r n c hl)
  have HL := Lib.hid hl
  have HRE := Lib.hid hrE
  have HLAY := Lib.hid hlay
  have hn16 := hl.n16
  have hc64 := hl.c64
  have hc1 := hl.c1
  have hn1 := hl.n1
  obtain rfl : N = (n : Int) := hl.hN
  obtain rfl : C = (c : Int) := hl.hC
  obtain ⟨dd, rfl⟩ : ∃ dd : Nat, D = (dd : Int) := ⟨D.toNat, by have h1 := hl.hD; have h2 := hl.nD; omega⟩
  have hd1 : 1 ≤ dd := by have h1 := hl.hD; have h2 := hl.nD; omega
  have hd120 : dd ≤ 120 := by omega
  have hsz : sizeR p pw g = (ffOf p pw g).size := by unfold sizeR; rw [if_pos hvB]
  have HSZ := Lib.hid hsz
  have hz1 : 1 ≤ sizeR p pw g := by rw [hsz]; have := (ffOf_ok hvB).lo; omega
  have hz2 : sizeR p pw g ≤ 1000000000 := by rw [hsz]; have := (ffOf_ok hvB).hi; omega
  clear hsz hvB hc0 hdm hlay hrE htot hl HP
  go_wp2_with fail
  refine (rollC_any (HR.out.below' B4.out) _).mono ?_
  rintro e w6 ⟨d, rfl, hd, hb6, i6, h6, hdice⟩
  have D6 := Lib.hid hdice
  have W6 := Lib.hid (W4.out.trans (hb6.mono W4.out.size))
  have hw2 : w2.heap.size ≤ d := by have := W4.out.size; omega
  have hd6 : d < w6.heap.size := hdice.lt
  clear hb6 hdice B4 W4 RW RE k0 k1 k2 k3 k4 k5 X4
  have E0 := Lib.hid (OwnL.empty w6 w6.heap.size (Nat.le_refl _) w6.heap.size rfl)
  have DE := Lib.hid (D6.out.below (below1 w6 (.cells #[] 2)))
  have WE := Lib.hid (W6.out.trans ((below1 w6 (.cells #[] 2)).mono W6.out.size))
  have hw26 : w2.heap.size ≤ w6.heap.size := W6.out.size
  clear D6 W6
  go_wp2_with fail
  go_loopw [11, 12] (fun vd ti wr => ∃ (i : Nat) (xs : List Int) (di : Nat) (dh : Int), i ≤ dd ∧ ti = .int .i64 i ∧ Hid (xs.length = i) ∧ Hid (VFels (ffOf p pw g) xs) ∧ Hid (OwnL wr w6.heap.size vd xs) ∧ Hid (DiceAt wr d s0 n0 cap0 z0 di dh) ∧ Hid (Below w2.heap.size w2 wr)) (fun _ ti _ => dd - (intOf ti).toNat)
  case atStart => exact ⟨0, [], i6, h6, by omega, rfl, Lib.hid rfl, Lib.hid (by intro z hz; simp at hz), E0, DE, WE⟩
  case round =>
    clear E0 DE WE
    obtain ⟨i, xs, di, dh, hi, rfl, hxl, hel, ho, hD, hB⟩ := hrel
    obtain ⟨aX, capX, rfl, hcpX, hcaX, hoaX⟩ := ho.out.cap
    clear hcaX hoaX
    have hx := XA.out.below hB.out XA.out.lt
    have k0 := hx.c0
    have k1 := hx.c1
    have k2 := hx.c2
    have k3 := hx.c3
    by_cases hlt : i < dd
    · have hli : (i : Int) < (dd : Int) := by omega
      clear hx
      go_wp2_with fail
      refine (specFieldSize_any p pw g _).mono ?_
      rintro e w8 ⟨rfl, hb8⟩
      have O8 := Lib.hid (ho.out.below hb8)
      have D8 := Lib.hid (hD.out.below hb8)
      have B8 := Lib.hid (hB.out.trans (hb8.mono hB.out.size))
      clear hb8 ho hD hB k0 k1 k2 k3
      go_wp2_with fail
      refine (belowC_any D8.out (sizeR p pw g) hz1 hz2).mono ?_
      rintro e w9 ⟨y, rfl, hy0, hy1, hdr9, di9, dh9, hD9⟩
      have O9 := Lib.hid (O8.out.dr hdr9 hd6)
      have B9 := Lib.hid (B8.out.trans (hdr9.below hw2 B8.out.size))
      have D9 := Lib.hid hD9
      have HEL := Lib.hid (show VFels (ffOf p pw g) (xs ++ [y]) from fun z hz => by
        rcases List.mem_append.1 hz with h1 | h1
        · exact hel.out z h1
        · rw [List.mem_singleton.1 h1]; rw [HSZ.out] at hy1; exact ⟨hy0, hy1⟩)
      have hl2 : xs.length ≤ 16777216 := by have := hxl.out; omega
      clear hdr9 hD9 O8 D8 B8 hel
      go_wp2_with (at_builtin; refine append_one rfl _ _ _ rfl Try.underlying26 y O9.out rfl _ rfl rfl hl2 ?_; intro v' w7 hown7 hb7)
      have O7 := Lib.hid hown7
      have D7 := Lib.hid (D9.out.lo hd6 hb7)
      have B7 := Lib.hid (B9.out.trans (hb7.mono hw26))
      clear hown7 hb7 O9 D9 B9
      go_wp2_with fail
      go_roundw
      case rel => exact ⟨i + 1, xs ++ [y], di9, dh9, by omega, by go_num, Lib.hid (by rw [List.length_append, hxl.out]; rfl), HEL, O7, D7, B7⟩
      case measure => simp [intOf]; omega
    · have hli : ¬ (i : Int) < (dd : Int) := by omega
      have hieq : i = dd := by omega
      have k4 := hx.c4
      have k5 := hx.c5
      have RX := Lib.hid ho.out.rowF
      have HXL := Lib.hid (show xs.length = dd from hxl.out.trans hieq)
      have hzz := es_all HLAY.out (by rw [HXL.out]) hel.out
      have HES := Lib.hid (show esC p pw g (dd : Int) (c : Int) (n : Int) xs = 0 from hzz)
      obtain ⟨q', r', n', c', hl', htot', hzl', hsc', hxl', hblk'⟩ := stream_plain (HES.out)
      obtain rfl : q = q' := HL.out.nats.1.symm.trans hl'.nats.1
      obtain rfl : r = r' := HL.out.nats.2.1.symm.trans hl'.nats.2.1
      obtain rfl : n = n' := HL.out.nats.2.2.1.symm.trans hl'.nats.2.2.1
      obtain rfl : c = c' := HL.out.nats.2.2.2.symm.trans hl'.nats.2.2.2
      have HDP := Lib.hid (fun (s' : List Int) hsl hse hag => damage_plain HES.out hl' hzl' hblk' HRE.out HDM.out (s' := s') hsl hse hag)
      obtain ⟨hel1, hel2, -, -, hel4⟩ := esR_length HES.out
      obtain ⟨-, hel3, hel5⟩ := sc_zero hsc'
      have HEL3 := Lib.hid hel3
      have HEL5 := Lib.hid (show VFels (ffOf p pw g) (esR p pw g (dd : Int) (c : Int) (n : Int) xs) from allB_iff.1 hel5)
      obtain ⟨wq, rfl⟩ : ∃ wq : World, wq = wr := ⟨_, rfl⟩
      obtain ⟨M, hMn⟩ : ∃ M : Nat, n * c = M := ⟨_, rfl⟩
      have hM : (n : Int) * (c : Int) = (M : Int) := by rw [← hMn]; exact (Int.natCast_mul n c).symm
      rw [hM] at hel2
      have hM2 : M ≤ 1500 := by omega
      clear hl' htot' hzl' hsc' hblk' hel1 hel3 hel4 hel5 hMn
      clear hx hieq hzz
      go_wp2_with fail
      refine (implEncodeStreamO_any p pw g dd c n _ RX.out hcpX).mono ?_
      rintro e w7 ⟨vs, rfl, hb7, hoS⟩
      rw [HES.out]
      have hEL3 := HEL3.out
      rw [hM] at hEL3
      generalize hxdef : esR p pw g (dd : Int) (c : Int) (n : Int) xs = x at *
      clear hxdef
      obtain ⟨T, hT⟩ : ∃ T, x.length = T := ⟨_, rfl⟩
      have HT := Lib.hid hT
      have hTM : (T : Int) = (dd : Int) + (M : Int) := by rw [← hT]; exact hEL3
      have hT1 : 0 < T := by omega
      have hT15 : T ≤ 2000 := by omega
      have hTne : ((T : Int) != (dd : Int) + (M : Int)) = false := by simp [hTM]
      have HTM := Lib.hid hTM
      have HORD := Lib.hid (hxl'.symm.trans hT)
      clear hxl' hEL3 hTM
      obtain ⟨gS, cS, curS, rfl, hgS, hgS2, -, -, -⟩ := hoS.form (by rw [hT]; exact hT1)
      rw [hT] at hoS ⊢
      clear hT
      have O7 := Lib.hid hoS
      have DT7 := Lib.hid (ho.out.below hb7)
      have hDT := Lib.hid (fun k (hk : (Value.slice aX xs.length capX).ownBlock = some k) => Nat.lt_of_lt_of_le (ho.out.2.lt k hk).2 hgS)
      have DI7 := Lib.hid (hD.out.below hb7)
      have B7 := Lib.hid (hB.out.trans (hb7.mono hB.out.size))
      have hgS6 : w6.heap.size ≤ gS := Nat.le_trans ho.out.1 hgS
      have hx := XA.out.below B7.out XA.out.lt
      clear k0 k1 k2 k3 k4 k5 hoS ho hD hB hb7 RX
      have k3 := hx.c3
      have k4 := hx.c4
      have k5 := hx.c5
      clear hx
      have y1 : -1000000 ≤ (M : Int) ∧ (M : Int) ≤ 1000000 := by omega
      have y2 : -1000000 ≤ (dd : Int) + (M : Int) ∧ (dd : Int) + (M : Int) ≤ 1000000 := by omega
      have v1 : wrap64 (M : Int) = (M : Int) := (wraps y1).1
      have v2 : IntKind.i64.wrap (M : Int) = (M : Int) := (wraps y1).2
      have v3 : wrap64 ((dd : Int) + (M : Int)) = (dd : Int) + (M : Int) := (wraps y2).1
      have v4 : IntKind.i64.wrap ((dd : Int) + (M : Int)) = (dd : Int) + (M : Int) := (wraps y2).2
      clear y1 y2
      go_wp2_with fail
      clear v1 v2 v3 v4 k3 k4 k5
      go_loopw [15] (fun ti wr2 => ∃ (i2 : Nat) (ys : List Int) (di2 : Nat) (dh2 : Int), i2 ≤ T ∧ ti = .int .i64 i2 ∧ Hid (ys.length = T) ∧ Hid (VFels (ffOf p pw g) ys) ∧ Hid (∀ j : Nat, zE.contains (j : Int) = false → zW.contains (j : Int) = false → gi ys j = gi x j) ∧ Hid (OwnL wr2 w6.heap.size (.slice aX xs.length capX) xs) ∧ Hid (OwnL wr2 wq.heap.size (.slice (some ⟨gS, 0, none⟩) T cS) ys) ∧ Hid (DiceAt wr2 d s0 n0 cap0 z0 di2 dh2) ∧ Hid (Below w2.heap.size w2 wr2)) (fun ti _ => T - (intOf ti).toNat)
      case atStart => exact ⟨0, x, _, _, by omega, rfl, HT, HEL5, Lib.hid (fun _ _ _ => rfl), DT7, O7, DI7, B7⟩
      case round =>
        clear DT7 O7 DI7 B7
        obtain ⟨i2, ys, di2, dh2, hi2, rfl, hyl, hyel, hyag, hda, hoS, hdi, hBB⟩ := hrel
        have RWr := Lib.hid (RWA.out.below' hBB.out)
        have REr := Lib.hid (REA.out.below' hBB.out)
        by_cases hlt2 : i2 < T
        · have hli2 : (i2 : Int) < (T : Int) := by omega
          have hneg : (Value.slice (some ⟨gS, 0, none⟩) T cS).ownBlock ≠ some d := by simp [Value.ownBlock]; omega
          go_wp2_with fail
          refine (hasInt_any _ RWr.out (i2 : Int)).mono ?_
          rintro e w8 ⟨rfl, rfl⟩
          cases hm : memB zW (i2 : Int) with
          | true =>
            have HMM := Lib.hid (show zE.contains (i2 : Int) = true ∨ zW.contains (i2 : Int) = true from Or.inr hm)
            have hx := XA.out.below hBB.out XA.out.lt
            have k0 := hx.c0
            have k1 := hx.c1
            have k2 := hx.c2
            clear hx
            go_wp2_with fail
            refine (specFieldSize_any p pw g _).mono ?_
            rintro e w9 ⟨rfl, hb9⟩
            have O8 := Lib.hid (hoS.out.below hb9)
            have A8 := Lib.hid (hda.out.below hb9)
            have D8 := Lib.hid (hdi.out.below hb9)
            have B8 := Lib.hid (hBB.out.trans (hb9.mono hBB.out.size))
            clear hb9 hoS hda hdi hBB k0 k1 k2
            go_wp2_with fail
            refine (belowC_any D8.out (sizeR p pw g) hz1 hz2).mono ?_
            rintro e w10 ⟨y, rfl, hy0, hy1, hdr9, di9, dh9, hD9⟩
            have O9 := Lib.hid (O8.out.drn hdr9 hneg)
            have A9 := Lib.hid (A8.out.dr hdr9 hd6)
            have B9 := Lib.hid (B8.out.trans (hdr9.below hw2 B8.out.size))
            clear hdr9 O8 A8 D8 B8
            obtain ⟨g1, cp1, cur, e1, -, hg2, hg3, -, hoa⟩ := O9.out.form (by rw [hyl.out]; exact hT1)
            simp only [Value.slice.injEq, Option.some.injEq, Addr.mk.injEq, and_true] at e1
            obtain ⟨rfl, -, rfl⟩ := e1
            have fz9 : w10.frozen? ⟨gS, i2, none⟩ = false := by unfold World.frozen?; rw [hg3]; simp
            obtain ⟨b', o', e2, -, hcs⟩ := hoa.row.at' (by rw [hyl.out]; exact hT1)
            cases e2
            have hcell := hcs i2 (by rw [hyl.out]; exact hlt2)
            rw [Nat.zero_add] at hcell
            have OF := Lib.hid (O9.out.set (k := i2) (by rw [hyl.out]; exact hlt2) y)
            have AF := Lib.hid (A9.out.other (G := gS) (j := i2) (x := .int .i64 y) (fun k hk => Nat.ne_of_lt (hDT.out k hk)))
            have DF := Lib.hid (hD9.other (g := gS) (o := i2) (by omega) (fun h0 x hx => by have := hD9.ne h0 x hx; omega) (.int .i64 y))
            have BF := Lib.hid (B9.out.setCell (p := ⟨gS, i2, none⟩) (by show w2.heap.size ≤ gS; omega) (.int .i64 y))
            have HYL' := Lib.hid (show (ys.set i2 y).length = T by rw [List.length_set]; exact hyl.out)
            have HEL' := Lib.hid (VFels_set hyel.out i2 (y := y) (show (ffOf p pw g).el y by rw [HSZ.out] at hy1; exact ⟨hy0, hy1⟩))
            have HAG' := Lib.hid (show ∀ j : Nat, zE.contains (j : Int) = false → zW.contains (j : Int) = false → gi (ys.set i2 y) j = gi x j from fun j h1 h2 => by
              by_cases hj : j = i2
              · subst hj
                rcases HMM.out with h | h
                · rw [h1] at h; cases h
                · rw [h2] at h; cases h
              · rw [gi_set_ne _ _ _ _ (by omega)]; exact hyag.out j h1 h2)
            clear hcs hoa hg3 hg2 hD9 O9 A9 B9 hyag hyel
            go_wp2_with fail
            go_roundw
            case rel => exact ⟨i2 + 1, ys.set i2 y, di9, dh9, by omega, by go_num, HYL', HEL', HAG', AF, OF, DF, BF⟩
            case measure => simp [intOf]; omega
          | false =>
            go_wp2_with fail
            refine (hasInt_any _ REr.out (i2 : Int)).mono ?_
            rintro e w8 ⟨rfl, rfl⟩
            cases hm2 : memB zE (i2 : Int) with
            | true =>
              have HMM := Lib.hid (show zE.contains (i2 : Int) = true ∨ zW.contains (i2 : Int) = true from Or.inl hm2)
              have hx := XA.out.below hBB.out XA.out.lt
              have k0 := hx.c0
              have k1 := hx.c1
              have k2 := hx.c2
              clear hx
              go_wp2_with fail
              refine (specFieldSize_any p pw g _).mono ?_
              rintro e w9 ⟨rfl, hb9⟩
              have O8 := Lib.hid (hoS.out.below hb9)
              have A8 := Lib.hid (hda.out.below hb9)
              have D8 := Lib.hid (hdi.out.below hb9)
              have B8 := Lib.hid (hBB.out.trans (hb9.mono hBB.out.size))
              clear hb9 hoS hda hdi hBB k0 k1 k2
              go_wp2_with fail
              refine (belowC_any D8.out (sizeR p pw g) hz1 hz2).mono ?_
              rintro e w10 ⟨y, rfl, hy0, hy1, hdr9, di9, dh9, hD9⟩
              have O9 := Lib.hid (O8.out.drn hdr9 hneg)
              have A9 := Lib.hid (A8.out.dr hdr9 hd6)
              have B9 := Lib.hid (B8.out.trans (hdr9.below hw2 B8.out.size))
              clear hdr9 O8 A8 D8 B8
              obtain ⟨g1, cp1, cur, e1, -, hg2, hg3, -, hoa⟩ := O9.out.form (by rw [hyl.out]; exact hT1)
              simp only [Value.slice.injEq, Option.some.injEq, Addr.mk.injEq, and_true] at e1
              obtain ⟨rfl, -, rfl⟩ := e1
              have fz9 : w10.frozen? ⟨gS, i2, none⟩ = false := by unfold World.frozen?; rw [hg3]; simp
              obtain ⟨b', o', e2, -, hcs⟩ := hoa.row.at' (by rw [hyl.out]; exact hT1)
              cases e2
              have hcell := hcs i2 (by rw [hyl.out]; exact hlt2)
              rw [Nat.zero_add] at hcell
              have OF := Lib.hid (O9.out.set (k := i2) (by rw [hyl.out]; exact hlt2) y)
              have AF := Lib.hid (A9.out.other (G := gS) (j := i2) (x := .int .i64 y) (fun k hk => Nat.ne_of_lt (hDT.out k hk)))
              have DF := Lib.hid (hD9.other (g := gS) (o := i2) (by omega) (fun h0 x hx => by have := hD9.ne h0 x hx; omega) (.int .i64 y))
              have BF := Lib.hid (B9.out.setCell (p := ⟨gS, i2, none⟩) (by show w2.heap.size ≤ gS; omega) (.int .i64 y))
              have HYL' := Lib.hid (show (ys.set i2 y).length = T by rw [List.length_set]; exact hyl.out)
              have HEL' := Lib.hid (VFels_set hyel.out i2 (y := y) (show (ffOf p pw g).el y by rw [HSZ.out] at hy1; exact ⟨hy0, hy1⟩))
              have HAG' := Lib.hid (show ∀ j : Nat, zE.contains (j : Int) = false → zW.contains (j : Int) = false → gi (ys.set i2 y) j = gi x j from fun j h1 h2 => by
                by_cases hj : j = i2
                · subst hj
                  rcases HMM.out with h | h
                  · rw [h1] at h; cases h
                  · rw [h2] at h; cases h
                · rw [gi_set_ne _ _ _ _ (by omega)]; exact hyag.out j h1 h2)
              clear hcs hoa hg3 hg2 hD9 O9 A9 B9 hyag hyel
              go_wp2_with fail
              go_roundw
              case rel => exact ⟨i2 + 1, ys.set i2 y, di9, dh9, by omega, by go_num, HYL', HEL', HAG', AF, OF, DF, BF⟩
              case measure => simp [intOf]; omega
            | false =>
              go_wp2_with fail
              go_roundw
              case rel => exact ⟨i2 + 1, ys, di2, dh2, by omega, by go_num, hyl, hyel, hyag, hda, hoS, hdi, hBB⟩
              case measure => simp [intOf]; omega
        · have hli2 : ¬ (i2 : Int) < (T : Int) := by omega
          obtain ⟨e1, e2⟩ := HDP.out ys (by rw [hyl.out, hM]; exact HTM.out) (allB_iff.2 hyel.out) (fun j _ h1 h2 => hyag.out j h1 h2)
          have HE1 := Lib.hid e1
          have HE2 := Lib.hid e2
          have hx := XA.out.below hBB.out XA.out.lt
          have k0 := hx.c0
          have k1 := hx.c1
          have k2 := hx.c2
          have k3 := hx.c3
          have k4 := hx.c4
          have k5 := hx.c5
          have RSr := Lib.hid hoS.out.rowF
          have RDr := Lib.hid hda.out.rowF
          have BW := Lib.hid (BA.out.trans (hBB.out.mono BA.out.size))
          clear e1 e2 hx hda hoS hdi hBB hM
          go_wp2_with fail
          refine (implDecodeStreamO_any p pw g dd c n _ RSr.out REr.out).mono ?_
          rintro e w10 ⟨v10, rfl, hb10, hoV⟩
          rw [HE1.out]
          rw [HE2.out] at hoV
          have RD10 := Lib.hid (RDr.out.below' hb10)
          have B10 := Lib.hid (BW.out.trans (hb10.mono BW.out.size))
          obtain ⟨aV, capV, rfl, -, -, hoV2⟩ := hoV.cap
          have RV := Lib.hid hoV2.row
          clear hb10 hoV hoV2 k0 k1 k2 k3 k4 k5
          go_wp2_with fail
          refine (likeInts_any RV.out RD10.out).mono ?_
          rintro e w11 ⟨rfl, hb11⟩
          simp only [decide_true]
          go_wp2_with fail
          go_ret
          exact ⟨by first | rfl | simp, B10.out.trans (hb11.mono B10.out.size)⟩
end Go.Proofs.Ytfhkkpfiflgofaa
