/-
  What the laws of sequences draw.
-/
import Derived.Test.YthbiieflmmnfcaaDrawW
import Derived.Test.YthbiieflmmnfcaaDraw5a
import Derived.Test.YthbiieflmmnfcaaSat
namespace Go.Proofs.Ythbiieflmmnfcaa
open Go.RowKit
set_option linter.unusedVariables false

theorem wrapsR {x : Int} (h : -1000000 ≤ x ∧ x ≤ 1000000) : wrap64 x = x ∧ IntKind.i64.wrap x = x := ⟨IntWalk.wrap64_in _ (by omega), IntWalk.i64_in _ (by omega)⟩
/-- A state of a draw that is handed its source: R the result's field, X the field, s the source. -/
structure FSw (w0 W : World) (R X s : Nat) (p pw g : Int) : Prop where
  res : FB W R 0 0 0
  fld : FB W X p pw g
  src : Src W s
  dr : Dr s w0 W
  r0 : R = w0.heap.size
  sR : s < R
  rX : R < X
section
variable {w0 W W' : World} {R X s : Nat} {p pw g : Int}
theorem FSw.below (h : FSw w0 W R X s p pw g) (hb : Below W.heap.size W W') : FSw w0 W' R X s p pw g :=
  ⟨h.res.below hb h.res.lt, h.fld.below hb h.fld.lt, h.src.below hb, h.dr.more hb, h.r0, h.sR, h.rX⟩
theorem FSw.drS (h : FSw w0 W R X s p pw g) (hd : Dr s W W') (hs : Src W' s) : FSw w0 W' R X s p pw g := by
  have h1 := h.sR; have h2 := h.rX
  exact ⟨h.res.dr hd (by omega), h.fld.dr hd (by omega), hs, h.dr.trans hd, h.r0, h.sR, h.rX⟩
theorem FSw.set (h : FSw w0 W R X s p pw g) {b o : Nat} {v : Value} (hb : X < b) : FSw w0 (W.setCell ⟨b, o, none⟩ v) R X s p pw g := by
  have h1 := h.sR; have h2 := h.rX; have h3 := h.r0
  exact ⟨h.res.other (by omega) _, h.fld.other (by omega) _, h.src.other (by omega) _ _, h.dr.setNew (by omega) _ _, h.r0, h.sR, h.rX⟩
theorem FSw.lo (h : FSw w0 W R X s p pw g) {M : Nat} (hb : Below M W W') (hM : X < M) : FSw w0 W' R X s p pw g := by
  have h1 := h.sR; have h2 := h.rX; have h3 := h.r0
  exact ⟨h.res.below hb (by omega), h.fld.below hb hM, h.src.lo (by omega) hb, h.dr.moreB (hb.mono (by omega)), h.r0, h.sR, h.rX⟩
abbrev setF (w : World) (B : Nat) (p pw g : Int) : World := ((w.setCell ⟨B, 0, none⟩ (.int .i64 p)).setCell ⟨B, 1, none⟩ (.int .i64 pw)).setCell ⟨B, 2, none⟩ (.int .i64 g)
theorem setF_dr {B : Nat} (s : Nat) (h : Dr s w0 W) (hB : w0.heap.size ≤ B) : Dr s w0 (setF W B p pw g) := ((h.setNew hB 0 _).setNew hB 1 _).setNew hB 2 _
theorem setF_src {B : Nat} (h : Src W s) (hB : s < B) : Src (setF W B p pw g) s := ((h.other hB 0 _).other hB 1 _).other hB 2 _
end
theorem els_snoc {F : FF} {zs : List Int} {x : Int} (h : ∀ z ∈ zs, F.el z) (hx : F.el x) : ∀ z ∈ zs ++ [x], F.el z := fun z hz => by
  rcases List.mem_append.1 hz with h1 | h1
  · exact h z h1
  · simp at h1; subst h1; exact hx
theorem els_set {F : FF} {zs : List Int} {k : Nat} {x : Int} (h : ∀ z ∈ zs, F.el z) (hx : F.el x) : ∀ z ∈ zs.set k x, F.el z := fun z hz => by
  rcases List.mem_or_eq_of_mem_set hz with h1 | h1
  · exact h z h1
  · subst h1; exact hx
set_option maxHeartbeats 8000000 in
set_option maxRecDepth 100000 in
theorem l06Draw_any {w : World} {s : Nat} (hs : Src w s) :
    Calls Try.prog 93 #[.pointer (some ⟨s, 0, none⟩)] w fun e w' => ∃ p pw g v, e = .returned (.tuple #[fV p pw g, v]) ∧ Dr s w w' ∧ Src w' s ∧ ∃ zs, OwnL w' w.heap.size v zs ∧ zs.length ≤ 1000 := by
  have hsz := hs.lt
  have F0 := Lib.hid (FB.new w 0 0 0)
  have B0 := below1 w (.cells #[.int .i64 0, .int .i64 0, .int .i64 0] FTa)
  have S0 := Lib.hid (hs.below B0)
  have D0 := Lib.hid (Dr.of (s := s) B0)
  have HRES := Lib.hid (show Try.f93.results = #[.cell 2 FTa, .tmp 3] by kernel_rfl)
  clear hs B0
  go_enter Try.func93, Try.ntmps93
  go_wp2_with fail
  generalize w.alloc (.cells #[.int .i64 0, .int .i64 0, .int .i64 0] FTa) = w1 at *
  refine (l02DrawAny_any S0.out).mono ?_
  rintro e w3 ⟨p, pw, g, rfl, hd, hs3⟩
  have hz3 : w.heap.size < w3.heap.size := Nat.lt_of_lt_of_le F0.out.lt hd.size
  have T4 := Lib.hid (show FSw w (w3.alloc (.cells #[.int .i64 p, .int .i64 pw, .int .i64 g] FTa)) w.heap.size w3.heap.size s p pw g from
    ⟨(F0.out.dr hd (by omega)).below (below1 w3 _) (F0.out.dr hd (by omega)).lt, FB.new w3 p pw g, hs3.alloc _, (D0.out.trans hd).alloc _, rfl, hsz, hz3⟩)
  obtain ⟨X, hX⟩ : ∃ X, X = w3.heap.size := ⟨_, rfl⟩
  rw [← hX] at T4
  rw [← hX] at hz3
  clear hd hs3 F0 D0 S0
  go_wp2_with fail
  rw [← hX]
  clear hX
  generalize w3.alloc (.cells #[.int .i64 p, .int .i64 pw, .int .i64 g] FTa) = w4 at *
  have x0 := T4.out.fld.c0
  have x1 := T4.out.fld.c1
  have x2 := T4.out.fld.c2
  have hX4 : X < w4.heap.size := T4.out.fld.lt
  go_wp2_with fail
  refine (isField_any p pw g w4).mono ?_
  rintro e w5 ⟨rfl, hb5⟩
  have T5 := Lib.hid (T4.out.below hb5)
  have hX5 : X < w5.heap.size := T5.out.fld.lt
  have hRK : w.heap.size < w5.heap.size := by omega
  clear T4 hb5 x0 x1 x2
  cases hv : validB p pw g with
  | false =>
    clear hv
    have hz5 : w5.heap.size = (setF w5 w.heap.size p pw g).heap.size := by simp [setF, World.setCell]
    have OL : OwnL ((setF w5 w.heap.size p pw g).alloc (.cells #[.int .i64 1, .int .i64 2] 2)) w.heap.size (.slice (some ⟨w5.heap.size, 0, none⟩) 2 2) [1, 2] := by
      have h := OwnL.lit (setF w5 w.heap.size p pw g) w.heap.size (by rw [← hz5]; omega) [1, 2] (by simp)
      rw [← hz5] at h
      exact h
    clear hz5
    have S0 := T5.out.res
    have S1 := S0.set0 p
    have S2 := S1.set1 pw
    have S3 := S2.set2 g
    have g0 := (S0.below (below1 _ (.cells #[.int .i64 1, .int .i64 2] 2)) S0.lt).fz 0
    have g1 := (S1.below (below1 _ (.cells #[.int .i64 1, .int .i64 2] 2)) S1.lt).fz 1
    have g2 := (S2.below (below1 _ (.cells #[.int .i64 1, .int .i64 2] 2)) S2.lt).fz 2
    have r0 := S0.c0
    have r1 := S0.c1
    have r2 := S0.c2
    have hRX := S0.lt
    have hXlt := T5.out.fld.lt
    have FF := Lib.hid (S3.below (below1 _ (.cells #[.int .i64 1, .int .i64 2] 2)) S3.lt)
    have DS := setF_dr (B := w.heap.size) (p := p) (pw := pw) (g := g) s T5.out.dr (Nat.le_refl _)
    have DF := Lib.hid (DS.alloc (.cells #[.int .i64 1, .int .i64 2] 2))
    have SF := Lib.hid ((setF_src (B := w.heap.size) (p := p) (pw := pw) (g := g) T5.out.src hsz).alloc (.cells #[.int .i64 1, .int .i64 2] 2))
    have OaF := Lib.hid (OL)
    clear S0 S1 S2 S3 DS
    have x0 := T5.out.fld.c0
    have x1 := T5.out.fld.c1
    have x2 := T5.out.fld.c2
    go_wp2_with fail
    (try simp only [Exit.inBlock, Exit.then])
    exact ret_cell2 HRES.out Try.underlying29 rfl (by kernel_rfl) rfl rfl FF.out.blk ⟨_, _, _, _, rfl, DF.out, SF.out, _, OaF.out, by simp⟩
  | true =>
    have hszb := (ffOf_ok hv).hi
    have hszl := (ffOf_ok hv).lo
    have HSZ := Lib.hid (fun W => l02Size_any p pw g W (ranged_of hv))
    have HV := Lib.hid hv
    have HEL1 := Lib.hid (show ∀ z ∈ [(1 : Int)], (ffOf p pw g).el z from fun z hz => by simp at hz; subst hz; exact ⟨by omega, by omega⟩)
    have HZ0 := Lib.hid (show (ffOf p pw g).el 0 from ⟨by omega, by omega⟩)
    obtain ⟨sz, hsz2⟩ : ∃ sz, (ffOf p pw g).size = sz := ⟨_, rfl⟩
    rw [hsz2] at hszb hszl HSZ
    have HSS := Lib.hid hsz2
    clear hv hsz2
    have T6 := Lib.hid (T5.out.below (below1 w5 (.cells #[.int .i64 1] 2)))
    have C6 := Lib.hid (show OwnL (w5.alloc (.cells #[.int .i64 1] 2)) w5.heap.size (.slice (some ⟨w5.heap.size, 0, none⟩) 1 1) [1] from OwnL.lit w5 w5.heap.size (Nat.le_refl _) [1] (by simp))
    clear T5
    have x0 := T6.out.fld.c0
    have x1 := T6.out.fld.c1
    have x2 := T6.out.fld.c2
    go_wp2_with fail
    generalize w5.alloc (.cells #[.int .i64 1] 2) = w6 at *
    refine (next_any T6.out.src 4 (by omega) (by omega)).mono ?_
    rintro e w7 ⟨q7, rfl, hq7, hd7, hs7⟩
    have T7 := Lib.hid (T6.out.drS hd7 hs7)
    have C7 := Lib.hid (C6.out.dr hd7 (by omega))
    clear T6 C6 hd7 hs7 x0 x1 x2
    go_wp2_with fail
    go_loopw [5, 6] (fun a t wr => ∃ (n : Int) (cs : List Int), 0 ≤ n ∧ n ≤ 4 ∧ t = .int .i64 n ∧ Hid ((cs.length : Int) + n ≤ 5) ∧ Hid (∀ z ∈ cs, (ffOf p pw g).el z) ∧ Hid (OwnL wr w5.heap.size a cs) ∧ Hid (FSw w wr w.heap.size X s p pw g)) (fun _ t _ => (intOf t).toNat)
    case atStart => exact ⟨(q7 : Int), [1], by omega, by omega, rfl, Lib.hid (by simp; omega), HEL1, C7, T7⟩
    case round =>
      clear T7 C7 hq7
      obtain ⟨n, cs, hn1, hn2, rfl, hlen, hel, hc, ht⟩ := hrel
      obtain ⟨aC, cC, rfl, -, hcaC, -⟩ := hc.out.cap
      have hcl : cs.length ≤ 5 := by have := hlen.out; omega
      by_cases hgo : 0 < n
      · have hl6 : cs.length ≤ 16777216 := by omega
        have x0 := ht.out.fld.c0
        have x1 := ht.out.fld.c1
        have x2 := ht.out.fld.c2
        go_wp2_with fail
        refine (HSZ.out _).mono ?_
        rintro e w8 ⟨rfl, hb8⟩
        have T8 := Lib.hid (ht.out.below hb8)
        have C8 := Lib.hid (hc.out.below hb8)
        clear ht hc hb8 x0 x1 x2
        go_wp2_with fail
        refine (l01Next_any T8.out.src _ (by omega)).mono ?_
        rintro e w9 ⟨x, rfl, hx, hd9, hs9⟩
        obtain ⟨hx0, hx1⟩ := hx.2 (by omega)
        have T9 := Lib.hid (T8.out.drS hd9 hs9)
        have C9 := Lib.hid (C8.out.dr hd9 (by omega))
        have HEL2 := Lib.hid (els_snoc hel.out (show (ffOf p pw g).el x from ⟨hx0, by rw [HSS.out]; exact hx1⟩))
        clear hd9 hs9 T8 C8 hx
        go_wp2_with (at_builtin; refine append_one rfl _ _ _ rfl Try.underlying26 x C9.out rfl _ rfl rfl hl6 ?_; intro v' w10 hown10 hb10)
        have T10 := Lib.hid (T9.out.lo hb10 hX5)
        have C10 := Lib.hid hown10
        clear hown10 hb10 T9 C9
        go_wp2_with fail
        go_roundw
        case rel => exact ⟨n - 1, cs ++ [x], by omega, by omega, by go_num, Lib.hid (by have := hlen.out; simp; omega), HEL2, C10, T10⟩
        case measure => simp [intOf]; omega
      · obtain rfl : n = 0 := by omega
        obtain ⟨nC, hnC⟩ : ∃ nC, cs.length = nC := ⟨_, rfl⟩
        rw [hnC] at hc hcl ⊢
        have HNC := Lib.hid hnC
        clear hlen hnC
        have T8 := Lib.hid (ht.out.below (below1 wr (.cells #[] 2)))
        have C8 := Lib.hid (hc.out.below (below1 wr (.cells #[] 2)))
        have O8 := Lib.hid (OwnL.empty wr wr.heap.size (Nat.le_refl _) wr.heap.size rfl)
        have HCM := Lib.hid (show ∀ k, (Value.slice aC nC cC).ownBlock = some k → k < wr.heap.size from fun k hk => (hc.out.2.lt k hk).2)
        have hXr : X < wr.heap.size := ht.out.fld.lt
        have hsr : s < wr.heap.size := ht.out.src.lt
        have hM5 : w5.heap.size ≤ wr.heap.size := hc.out.1
        have HELC := Lib.hid hel.out
        clear ht hc hel
        go_wp2_with fail
        obtain ⟨M2, hM2⟩ : ∃ M2, M2 = wr.heap.size := ⟨_, rfl⟩
        rw [← hM2] at O8 HCM hXr hsr hM5 ⊢
        clear hM2
        generalize wr.alloc (.cells #[] 2) = w8 at *
        refine (next_any T8.out.src 10 (by omega) (by omega)).mono ?_
        rintro e w9 ⟨q9, rfl, hq9, hd9, hs9⟩
        have T9 := Lib.hid (T8.out.drS hd9 hs9)
        have C9 := Lib.hid (C8.out.dr hd9 (by omega))
        have O9 := Lib.hid (O8.out.dr hd9 hsr)
        clear T8 C8 O8 hd9 hs9
        go_wp2_with fail
        go_loopw [7, 8] (fun a t wr => ∃ (n : Int) (zs : List Int), 0 ≤ n ∧ n ≤ 10 ∧ t = .int .i64 n ∧ Hid ((zs.length : Int) + n ≤ 10) ∧ Hid (∀ z ∈ zs, (ffOf p pw g).el z) ∧ Hid (OwnL wr M2 a zs) ∧ Hid (OwnL wr w5.heap.size (.slice aC nC cC) cs) ∧ Hid (FSw w wr w.heap.size X s p pw g)) (fun _ t _ => (intOf t).toNat)
        case atStart => exact ⟨(q9 : Int), [], by omega, by omega, rfl, Lib.hid (by simp; omega), Lib.hid (fun z hz => by cases hz), O9, C9, T9⟩
        case round =>
          clear T9 C9 O9 hq9
          obtain ⟨n, zs, hn1, hn2, rfl, hlen, hel, ho, hc, ht⟩ := hrel
          obtain ⟨aL, cL, rfl, -, -, -⟩ := ho.out.cap
          by_cases hgo : 0 < n
          · have hzl : zs.length ≤ 9 := by have := hlen.out; omega
            have hl6 : zs.length ≤ 16777216 := by omega
            have HLN := Lib.hid (show (zs ++ [(0 : Int)]).length = zs.length + 1 by simp)
            have HE0 := Lib.hid (els_snoc hel.out HZ0.out)
            obtain ⟨k, hk⟩ : ∃ k, zs.length = k := ⟨_, rfl⟩
            rw [hk] at HLN hzl ho ⊢
            have v1 : IntKind.i64.wrap (((k + 1 : Nat) : Int) - 1) = (k : Int) := by rw [show (((k + 1 : Nat) : Int) - 1) = (k : Int) by omega]; exact IntWalk.i64_in _ (by omega)
            have v2 : wrap64 (((k + 1 : Nat) : Int) - 1) = (k : Int) := by rw [show (((k + 1 : Nat) : Int) - 1) = (k : Int) by omega]; exact IntWalk.wrap64_in _ (by omega)
            have v3 : ((k + 1 : Nat) : Int) - 1 = (k : Int) := by omega
            have HK := Lib.hid hk
            have hkI : (k : Int) < ((k + 1 : Nat) : Int) := by omega
            have hkJ : (k : Int) < (k : Int) + 1 := by omega
            clear hk
            by_cases hcond : (k : Int) + 1 < (nC : Int)
            · go_wp2_with (at_builtin; refine append_one rfl _ _ _ rfl Try.underlying26 0 ho.out rfl _ rfl rfl hl6 ?_; intro v' w10 hown10 hb10; obtain ⟨g0, c0, cur0, rfl, hg0, -, -, -, -⟩ := hown10.form (by rw [HLN.out]; omega); have T10 := Lib.hid (ht.out.lo hb10 hXr); have C10 := Lib.hid (hc.out.belowV hb10 HCM.out); have O10 := Lib.hid hown10; rw [HLN.out] at O10; have HL2 := HLN.out; rw [HL2]; clear HL2; have x0 := T10.out.fld.c0; have x1 := T10.out.fld.c1; have x2 := T10.out.fld.c2)
              refine (HSZ.out _).mono ?_
              rintro e wa ⟨rfl, hba⟩
              have TA := Lib.hid (T10.out.below hba)
              have OA := Lib.hid (O10.out.below hba)
              have CA := Lib.hid (C10.out.below hba)
              clear hba T10 O10 C10 x0 x1 x2
              go_wp2_with fail
              refine (l01Next_any TA.out.src _ (by omega)).mono ?_
              rintro e wb ⟨x, rfl, hx, hdb, hsb⟩
              obtain ⟨hx0, hx1⟩ := hx.2 (by omega)
              have TB := Lib.hid (TA.out.drS hdb hsb)
              have OB := Lib.hid (OA.out.dr hdb hsr)
              have CB' := Lib.hid (CA.out.dr hdb (by omega))
              clear hdb hsb TA OA CA hx
              obtain ⟨g1, cp1, cur, e1, hg1, hg2, hg3, -, hoa⟩ := OB.out.form (by rw [HLN.out]; omega)
              rw [HLN.out] at e1
              simp only [Value.slice.injEq, Option.some.injEq, Addr.mk.injEq, and_true, true_and] at e1
              obtain ⟨rfl, rfl⟩ := e1
              have fzz : wb.frozen? ⟨g0, k, none⟩ = false := by unfold World.frozen?; rw [hg3]; simp
              obtain ⟨b2, o2, e2, _, hcs2⟩ := hoa.row.at' (by rw [HLN.out]; omega)
              cases e2
              have hcell2 := hcs2 k (by rw [HLN.out]; omega)
              rw [Nat.zero_add] at hcell2
              clear hg3 hcs2 hoa
              go_wp2_with fail
              have OF := Lib.hid (OB.out.set (k := k) (by rw [HLN.out]; omega) x)
              have TF := Lib.hid (TB.out.set (b := g0) (o := k) (v := .int .i64 x) (by omega))
              have CF := Lib.hid (CB'.out.other (G := g0) (j := k) (x := .int .i64 x) (fun q hq => by have := HCM.out q hq; omega))
              have HLF := Lib.hid (show (((zs ++ [0]).set k x).length : Int) + (n - 1 : Int) ≤ 10 by rw [List.length_set, HLN.out]; have := hlen.out; rw [HK.out] at this; omega)
              have HEF := Lib.hid (els_set (k := k) HE0.out (show (ffOf p pw g).el x from ⟨hx0, by rw [HSS.out]; exact hx1⟩))
              go_roundw
              case rel => exact ⟨n - 1, (zs ++ [0]).set k x, by omega, by omega, by go_num, HLF, HEF, OF, CF, TF⟩
              case measure => simp [intOf]; omega
            · go_wp2_with (at_builtin; refine append_one rfl _ _ _ rfl Try.underlying26 0 ho.out rfl _ rfl rfl hl6 ?_; intro v' w10 hown10 hb10; obtain ⟨g0, c0, cur0, rfl, hg0, -, -, -, -⟩ := hown10.form (by rw [HLN.out]; omega); have T10 := Lib.hid (ht.out.lo hb10 hXr); have C10 := Lib.hid (hc.out.belowV hb10 HCM.out); have O10 := Lib.hid hown10; rw [HLN.out] at O10; have HL2 := HLN.out; rw [HL2]; clear HL2)
              refine (l01Next_any T10.out.src 12 (by omega)).mono ?_
              rintro e w11 ⟨qq, rfl, hqq, hd11, hs11⟩
              have T11 := Lib.hid (T10.out.drS hd11 hs11)
              have O11 := Lib.hid (O10.out.dr hd11 hsr)
              have C11 := Lib.hid (C10.out.dr hd11 (by omega))
              clear T10 O10 C10 hd11 hs11 hqq
              by_cases hqz : qq = 0
              · subst hqz
                have x0 := T11.out.fld.c0
                have x1 := T11.out.fld.c1
                have x2 := T11.out.fld.c2
                go_wp2_with fail
                refine (HSZ.out _).mono ?_
                rintro e wa ⟨rfl, hba⟩
                have TA := Lib.hid (T11.out.below hba)
                have OA := Lib.hid (O11.out.below hba)
                have CA := Lib.hid (C11.out.below hba)
                clear hba T11 O11 C11 x0 x1 x2
                go_wp2_with fail
                refine (l01Next_any TA.out.src _ (by omega)).mono ?_
                rintro e wb ⟨x, rfl, hx, hdb, hsb⟩
                obtain ⟨hx0, hx1⟩ := hx.2 (by omega)
                have TB := Lib.hid (TA.out.drS hdb hsb)
                have OB := Lib.hid (OA.out.dr hdb hsr)
                have CB' := Lib.hid (CA.out.dr hdb (by omega))
                clear hdb hsb TA OA CA hx
                obtain ⟨g1, cp1, cur, e1, hg1, hg2, hg3, -, hoa⟩ := OB.out.form (by rw [HLN.out]; omega)
                rw [HLN.out] at e1
                simp only [Value.slice.injEq, Option.some.injEq, Addr.mk.injEq, and_true, true_and] at e1
                obtain ⟨rfl, rfl⟩ := e1
                have fzz : wb.frozen? ⟨g0, k, none⟩ = false := by unfold World.frozen?; rw [hg3]; simp
                obtain ⟨b2, o2, e2, _, hcs2⟩ := hoa.row.at' (by rw [HLN.out]; omega)
                cases e2
                have hcell2 := hcs2 k (by rw [HLN.out]; omega)
                rw [Nat.zero_add] at hcell2
                clear hg3 hcs2 hoa
                go_wp2_with fail
                have OF := Lib.hid (OB.out.set (k := k) (by rw [HLN.out]; omega) x)
                have TF := Lib.hid (TB.out.set (b := g0) (o := k) (v := .int .i64 x) (by omega))
                have CF := Lib.hid (CB'.out.other (G := g0) (j := k) (x := .int .i64 x) (fun q hq => by have := HCM.out q hq; omega))
                have HLF := Lib.hid (show (((zs ++ [0]).set k x).length : Int) + (n - 1 : Int) ≤ 10 by rw [List.length_set, HLN.out]; have := hlen.out; rw [HK.out] at this; omega)
                have HEF := Lib.hid (els_set (k := k) HE0.out (show (ffOf p pw g).el x from ⟨hx0, by rw [HSS.out]; exact hx1⟩))
                go_roundw
                case rel => exact ⟨n - 1, (zs ++ [0]).set k x, by omega, by omega, by go_num, HLF, HEF, OF, CF, TF⟩
                case measure => simp [intOf]; omega
              · have hqb : (qq == 0) = false := by simp [hqz]
                have TD := Lib.hid (T11.out.below (Drew.below (drew1 w11) _))
                have OD := Lib.hid (O11.out.below (Drew.below (drew1 w11) _))
                have CD := Lib.hid (C11.out.below (Drew.below (drew1 w11) _))
                clear hqz T11 O11 C11
                have x0 := TD.out.fld.c0
                have x1 := TD.out.fld.c1
                have x2 := TD.out.fld.c2
                go_wp2_with fail
                refine wp_region_lastW (S := (fun w' => w'.cell? ⟨X, 0, none⟩ = some (.int .i64 p) ∧ w'.cell? ⟨X, 1, none⟩ = some (.int .i64 pw) ∧ w'.cell? ⟨X, 2, none⟩ = some (.int .i64 g))) 10 (by kernel_rfl) rfl (by kernel_rfl) ?_ (fun hHeld => ?_)
                · (try dsimp only); exact ⟨x0, x1, x2⟩
                simp only [List.take_succ_cons, List.take_zero]
                refine wpAnyH_take (i := 0) (oi := _) (v := ?_) rfl (by kernel_rfl) (by kernel_rfl) (by kernel_rfl) (fun _ _ _ h => h) (Or.inl ⟨by rfl, ?_⟩) hHeld ?_
                rotate_left
                · intro w0 hSw; (try dsimp only at hSw); go_simp; (try with_reducible rfl)
                (try dsimp only [Act.put, List.setIfInBounds_toArray, List.set_cons_zero, List.set_cons_succ])
                refine wpAnyH_take (i := 1) (oi := _) (v := ?_) rfl (by kernel_rfl) (by kernel_rfl) (by kernel_rfl) (fun _ _ _ h => h) (Or.inl ⟨by rfl, ?_⟩) hHeld ?_
                rotate_left
                · intro w0 hSw; (try dsimp only at hSw); go_simp; (try with_reducible rfl)
                (try dsimp only [Act.put, List.setIfInBounds_toArray, List.set_cons_zero, List.set_cons_succ])
                refine wpAnyH_take (i := 2) (oi := _) (v := ?_) rfl (by kernel_rfl) (by kernel_rfl) (by kernel_rfl) (fun _ _ _ h => h) (Or.inl ⟨by rfl, ?_⟩) hHeld ?_
                rotate_left
                · intro w0 hSw; (try dsimp only at hSw); go_simp; (try with_reducible rfl)
                (try dsimp only [Act.put, List.setIfInBounds_toArray, List.set_cons_zero, List.set_cons_succ])
                refine wpAnyH_take (i := 3) (oi := _) (v := ?_) rfl (by kernel_rfl) (by kernel_rfl) (by kernel_rfl) (fun _ _ _ h => h) (Or.inl ⟨by rfl, ?_⟩) hHeld ?_
                rotate_left
                · intro w0 hSw; (try dsimp only at hSw); go_simp; (try with_reducible rfl)
                (try dsimp only [Act.put, List.setIfInBounds_toArray, List.set_cons_zero, List.set_cons_succ])
                refine wpAnyH_take (i := 4) (oi := _) (v := ?_) rfl (by kernel_rfl) (by kernel_rfl) (by kernel_rfl) (fun _ _ _ h => h) (Or.inl ⟨by rfl, ?_⟩) hHeld ?_
                rotate_left
                · intro w0 hSw; (try dsimp only at hSw); go_simp; (try with_reducible rfl)
                (try dsimp only [Act.put, List.setIfInBounds_toArray, List.set_cons_zero, List.set_cons_succ])
                refine wpAnyH_take (i := 5) (oi := _) (v := ?_) rfl (by kernel_rfl) (by kernel_rfl) (by kernel_rfl) (fun _ _ _ h => h) (Or.inl ⟨by rfl, ?_⟩) hHeld ?_
                rotate_left
                · intro w0 hSw; (try dsimp only at hSw); go_simp; (try with_reducible rfl)
                (try dsimp only [Act.put, List.setIfInBounds_toArray, List.set_cons_zero, List.set_cons_succ])
                refine wpAnyH_take (i := 6) (oi := _) (v := ?_) rfl (by kernel_rfl) (by kernel_rfl) (by kernel_rfl) (fun _ _ _ h => h) (Or.inl ⟨by rfl, ?_⟩) hHeld ?_
                rotate_left
                · intro w0 hSw; (try dsimp only at hSw); go_simp; (try with_reducible rfl)
                (try dsimp only [Act.put, List.setIfInBounds_toArray, List.set_cons_zero, List.set_cons_succ])
                refine wpAnyH_ready (rs := [7]) (by kernel_rfl) (by simp) ?_
                refine AllReadyH.cons (o := _) rfl (fun K hK => ?_) AllReadyH.nil
                go_simp
                refine (l06Sum_any p pw g HV.out (zs := zs ++ [0]) (cs := cs) OD.out.rowF CD.out.rowF HE0.out HELC.out k (by omega) (by omega) _ rfl).mono ?_
                rintro e wc ⟨rfl, hbc⟩
                have T12 := TD.out.below hbc
                go_wp2_with fail
                refine hK.out _ _ ?_ (fun hHeld => ?_)
                · (try dsimp only); exact ⟨T12.fld.c0, T12.fld.c1, T12.fld.c2⟩
                clear hK K
                (try dsimp only [Act.put, List.setIfInBounds_toArray, List.set_cons_zero, List.set_cons_succ])
                refine wpAnyH_ready (rs := [8]) (by kernel_rfl) (by simp) ?_
                refine AllReadyH.cons (o := _) rfl (fun K hK => ?_) AllReadyH.nil
                go_simp
                refine (l02Neg_any p pw g HV.out _ (sumTo_el (ffOf_ok HV.out) _ _ _ _) _).mono ?_
                rintro e wb ⟨rfl, hbd⟩
                have TB := Lib.hid (T12.below hbd)
                have OB := Lib.hid ((OD.out.below hbc).below hbd)
                have CB' := Lib.hid ((CD.out.below hbc).below hbd)
                obtain ⟨g1, cp1, cur, e1, hg1, hg2, hg3, -, hoa⟩ := OB.out.form (by rw [HLN.out]; omega)
                rw [HLN.out] at e1
                simp only [Value.slice.injEq, Option.some.injEq, Addr.mk.injEq, and_true, true_and] at e1
                obtain ⟨rfl, rfl⟩ := e1
                have fzz : wb.frozen? ⟨g0, k, none⟩ = false := by unfold World.frozen?; rw [hg3]; simp
                obtain ⟨b2, o2, e2, _, hcs2⟩ := hoa.row.at' (by rw [HLN.out]; omega)
                cases e2
                have hcell2 := hcs2 k (by rw [HLN.out]; omega)
                rw [Nat.zero_add] at hcell2
                clear hg3 hcs2 hoa
                go_wp2_with fail
                refine hK.out _ _ ?_ (fun hHeld => ?_)
                · (try dsimp only); exact ⟨TB.out.fld.c0, TB.out.fld.c1, TB.out.fld.c2⟩
                clear hK K
                (try dsimp only [Act.put, List.setIfInBounds_toArray, List.set_cons_zero, List.set_cons_succ])
                refine wpAnyH_take (i := 9) (oi := _) (v := ?_) rfl (by kernel_rfl) (by kernel_rfl) (by kernel_rfl) (fun _ _ _ h => h) (Or.inl ⟨by rfl, ?_⟩) hHeld ?_
                rotate_left
                · intro w0 hSw; (try dsimp only at hSw); go_simp; (try with_reducible rfl)
                (try dsimp only [Act.put, List.setIfInBounds_toArray, List.set_cons_zero, List.set_cons_succ])
                refine wpAnyH_done (by kernel_rfl) (lastQ_normalW ?_) _
                go_wp2_with fail
                generalize hX0 : (ffOf p pw g).neg (sumTo (ffOf p pw g) cs (zs ++ [0]) k (min nC (k + 1))) = x at *
                have HELX : (ffOf p pw g).el x := by rw [← hX0]; exact FF.neg_el (sumTo_el (ffOf_ok HV.out) _ _ _ _)
                clear hX0
                have OF := Lib.hid (OB.out.set (k := k) (by rw [HLN.out]; omega) x)
                have TF := Lib.hid (TB.out.set (b := g0) (o := k) (v := .int .i64 x) (by omega))
                have CF := Lib.hid (CB'.out.other (G := g0) (j := k) (x := .int .i64 x) (fun q hq => by have := HCM.out q hq; omega))
                have HLF := Lib.hid (show (((zs ++ [0]).set k x).length : Int) + (n - 1 : Int) ≤ 10 by rw [List.length_set, HLN.out]; have := hlen.out; rw [HK.out] at this; omega)
                have HEF := Lib.hid (els_set (k := k) HE0.out (show (ffOf p pw g).el x from HELX))
                go_roundw
                case rel => exact ⟨n - 1, (zs ++ [0]).set k x, by omega, by omega, by go_num, HLF, HEF, OF, CF, TF⟩
                case measure => simp [intOf]; omega
          · obtain rfl : n = 0 := by omega
            obtain ⟨nL, hnL⟩ : ∃ nL, zs.length = nL := ⟨_, rfl⟩
            have hnL2 : nL ≤ 10 := by have := hlen.out; omega
            rw [hnL] at ho ⊢
            have HNL := Lib.hid hnL
            clear hnL hc
            go_wp2_with fail
            refine (next_any ht.out.src 40 (by omega) (by omega)).mono ?_
            rintro e w11 ⟨qq, rfl, hqq, hd11, hs11⟩
            have T11 := Lib.hid (ht.out.drS hd11 hs11)
            have O11 := Lib.hid (ho.out.dr hd11 hsr)
            clear ht ho hd11 hs11
            have hRM : w.heap.size < M2 := by omega
            rcases (show qq = 0 ∨ qq = 1 ∨ 2 ≤ qq by omega) with rfl | rfl | hq2
            · have hl6 : zs.length ≤ 16777216 := by rw [HNL.out]; omega
              have x0 := T11.out.fld.c0
              have x1 := T11.out.fld.c1
              have x2 := T11.out.fld.c2
              go_wp2_with fail
              refine (HSZ.out _).mono ?_
              rintro e w12 ⟨rfl, hb12⟩
              have T12 := Lib.hid (T11.out.below hb12)
              have O12 := Lib.hid (O11.out.below hb12)
              clear hb12 T11 O11 x0 x1 x2
              go_wp2_with (at_builtin; refine append_one rfl _ _ _ rfl Try.underlying26 sz O12.out rfl _ rfl rfl hl6 ?_; intro v' w13 hown13 hb13; have T13 := Lib.hid (T12.out.lo hb13 hXr); have O13 := Lib.hid hown13; clear hown13 hb13; have r0 := T13.out.res.c0; have r1 := T13.out.res.c1; have r2 := T13.out.res.c2; have f0 := T13.out.res.fz 0; have f1 := T13.out.res.fz 1; have f2 := T13.out.res.fz 2; have x0 := T13.out.fld.c0; have x1 := T13.out.fld.c1; have x2 := T13.out.fld.c2)
              (try simp only [Exit.inBlock, Exit.then])
              have FF := Lib.hid (T13.out.res.set p pw g)
              have DF := Lib.hid (setF_dr (B := w.heap.size) (p := p) (pw := pw) (g := g) s T13.out.dr (Nat.le_refl _))
              have SF := Lib.hid (setF_src (B := w.heap.size) (p := p) (pw := pw) (g := g) T13.out.src hsz)
              have OaF := Lib.hid ((O13.out.set3 (R := w.heap.size) hRM (.int .i64 p) (.int .i64 pw) (.int .i64 g)).lower (C := w.heap.size) (Nat.le_of_lt hRM))
              exact ret_cell2 HRES.out Try.underlying29 rfl (by kernel_rfl) rfl rfl FF.out.blk ⟨_, _, _, _, rfl, DF.out, SF.out, _, OaF.out, by simp [HNL.out]; omega⟩
            · go_wp2_with fail
              refine (next_any T11.out.src 2 (by omega) (by omega)).mono ?_
              rintro e w12 ⟨q2, rfl, hq2, hd12, hs12⟩
              have T12 := Lib.hid (T11.out.drS hd12 hs12)
              have hmk := fun w => run_make_ints w 26 Try.underlying26 (64 + (q2 : Int)) (by omega) (by omega)
              have e64 : (64 + (q2 : Int)).toNat = 64 + q2 := by omega
              simp only [e64] at hmk
              have y64 : -1000000 ≤ 64 + (q2 : Int) ∧ 64 + (q2 : Int) ≤ 1000000 := by omega
              have hq64 : 64 + q2 ≤ 16777216 := by omega
              have hz12 : w12.heap.size = (setF w12 w.heap.size p pw g).heap.size := by simp [setF, World.setCell]
              have hRK12 : w.heap.size < w12.heap.size := T12.out.res.lt
              have OL : OwnL ((setF w12 w.heap.size p pw g).alloc (.cells (madeCells #[.int .i64 0] (64 + q2)) 2)) w.heap.size (.slice (some ⟨w12.heap.size, 0, none⟩) (64 + q2) (64 + q2)) (List.replicate (64 + q2) 0) := by
                have h := OwnL.zeros (setF w12 w.heap.size p pw g) w.heap.size (by rw [← hz12]; omega) (64 + q2) hq64
                rw [← hz12] at h
                exact h
              have hlen64 : (List.replicate (64 + q2) (0 : Int)).length ≤ 1000 := by simp; omega
              clear hz12 hd12 hs12 T11 O11 e64 hq64
              obtain ⟨v64, v65⟩ := wrapsR y64
              clear y64
              have S0 := T12.out.res
              have S1 := S0.set0 p
              have S2 := S1.set1 pw
              have S3 := S2.set2 g
              have g0 := (S0.below (below1 _ (.cells (madeCells #[.int .i64 0] (64 + q2)) 2)) S0.lt).fz 0
              have g1 := (S1.below (below1 _ (.cells (madeCells #[.int .i64 0] (64 + q2)) 2)) S1.lt).fz 1
              have g2 := (S2.below (below1 _ (.cells (madeCells #[.int .i64 0] (64 + q2)) 2)) S2.lt).fz 2
              have r0 := S0.c0
              have r1 := S0.c1
              have r2 := S0.c2
              have hRX := S0.lt
              have hXlt := T12.out.fld.lt
              have FF := Lib.hid (S3.below (below1 _ (.cells (madeCells #[.int .i64 0] (64 + q2)) 2)) S3.lt)
              have DS := setF_dr (B := w.heap.size) (p := p) (pw := pw) (g := g) s T12.out.dr (Nat.le_refl _)
              have DF := Lib.hid (DS.alloc (.cells (madeCells #[.int .i64 0] (64 + q2)) 2))
              have SF := Lib.hid ((setF_src (B := w.heap.size) (p := p) (pw := pw) (g := g) T12.out.src hsz).alloc (.cells (madeCells #[.int .i64 0] (64 + q2)) 2))
              have OaF := Lib.hid (OL)
              clear S0 S1 S2 S3 DS
              have x0 := T12.out.fld.c0
              have x1 := T12.out.fld.c1
              have x2 := T12.out.fld.c2
              go_wp2_with fail
              (try simp only [Exit.inBlock, Exit.then])
              exact ret_cell2 HRES.out Try.underlying29 rfl (by kernel_rfl) rfl rfl FF.out.blk ⟨_, _, _, _, rfl, DF.out, SF.out, _, OaF.out, hlen64⟩
            · have q0 : ((qq : Int) == 0) = false := by simp; omega
              have q1 : ((qq : Int) == 1) = false := by simp; omega
              have r0 := T11.out.res.c0
              have r1 := T11.out.res.c1
              have r2 := T11.out.res.c2
              have f0 := T11.out.res.fz 0
              have f1 := T11.out.res.fz 1
              have f2 := T11.out.res.fz 2
              have x0 := T11.out.fld.c0
              have x1 := T11.out.fld.c1
              have x2 := T11.out.fld.c2
              go_wp2_with fail
              (try simp only [Exit.inBlock, Exit.then])
              have FF := Lib.hid (T11.out.res.set p pw g)
              have DF := Lib.hid (setF_dr (B := w.heap.size) (p := p) (pw := pw) (g := g) s T11.out.dr (Nat.le_refl _))
              have SF := Lib.hid (setF_src (B := w.heap.size) (p := p) (pw := pw) (g := g) T11.out.src hsz)
              have OaF := Lib.hid ((O11.out.set3 (R := w.heap.size) hRM (.int .i64 p) (.int .i64 pw) (.int .i64 g)).lower (C := w.heap.size) (Nat.le_of_lt hRM))
              exact ret_cell2 HRES.out Try.underlying29 rfl (by kernel_rfl) rfl rfl FF.out.blk ⟨_, _, _, _, rfl, DF.out, SF.out, _, OaF.out, by rw [HNL.out]; omega⟩
end Go.Proofs.Ythbiieflmmnfcaa
