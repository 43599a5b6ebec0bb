/-
  The program recovers journals.
-/
import Derived.Test.YtmbphpmabopifaaDoorRcvI
import Derived.Lib.AtoiErrMem
import Derived.Maps.AppendAt
namespace Go.Proofs.YtmbphpmabopifaaDoor
open Go.RowKit
set_option linter.unusedVariables false

/-- The length of a slice's value. -/
def vlen : Value → Nat
  | .slice _ n _ => n
  | _ => 0
/-- One more record: where the slice lies behind it. -/
theorem appendR_oneG {W0 : World} {ops : Array Oper} {rest : List Oper} {o : Oper} {a : Act} {Q : Exit → Act → World → Prop} (hgd : o.guard = none) (s x : Operand) (t : TypeId)
    (ho : o.op = .call { callee := .builtin .append, args := #[s, x], argTypes := #[t, t] }) (ht : Tryd.prog.underlying t = some (.slice RT))
    {B : Nat} {v : Value} {L : List (Int × Int)} (k i : Int) (hown : OwnR W0 B v L) (hs : a.eval s = v) (b : Nat) (hb : b = W0.heap.size) (hx : a.eval x = .slice (some ⟨b, 0, none⟩) 1 1) (hn : L.length ≤ 16777216)
    (h : ∀ v' w', OwnR w' B v' (L ++ [(k, i)]) → Below B W0 w' → (∀ q, q < W0.heap.size → v.ownBlock ≠ some q → w'.heap[q]? = W0.heap[q]?) → (v'.ownBlock = v.ownBlock ∨ ∀ q, v'.ownBlock = some q → W0.heap.size ≤ q) → wpList Tryd.prog ops Q rest (a.put o.dst v') w') : wpList Tryd.prog ops Q (o :: rest) a (W0.alloc (.cells #[.int .i64 k, .int .i64 i] RT)) := by
  subst hb
  obtain ⟨i0, hi, hz0, hz1, hz2⟩ := info_parts info_rec
  obtain ⟨hB, hown⟩ := hown
  refine wpList_append_own_at _ hgd s x t ho B RT i0 (.agg #[.int .i64 0, .int .i64 0]) 2 16 ht hi hz0 hz1 hz2 rfl (by decide) v L.length _ hs (hown.alloc _) ⟨W0.heap.size, 0, none⟩ 1 1 [.int .i64 k, .int .i64 i] hx rfl ?_ ?_ (by unfold maxLen; omega) (by omega) (by simp; omega) ?_
  · intro j u hj
    match j, hj with
    | 0, hj => simp at hj; subst hj; simp [Addr.add, go_sem]
    | 1, hj => simp at hj; subst hj; simp [Addr.add, go_sem]
  · intro u hu; simp at hu; rcases hu with rfl | rfl <;> rfl
  · intro v' w' h1 hg _ hat
    refine h v' w' ⟨by have := hg.size; simp at this; omega, ?_⟩ (append_below hB hg fun k hk => (hown.lt k hk).1) (fun q hq hne => ?_) ?_
    · rw [List.length_append, recC_app]
      exact h1
    · have h2 := hg.block q (by simp; omega) (fun e => hne e.symm)
      rw [h2]; exact heap_alloc_old W0 _ hq
    · rcases hat with h2 | h2
      · exact .inl h2
      · exact .inr fun q hq => by rw [h2] at hq; simp at hq; omega
theorem OwnR.kj {J : Nat} {w w' : World} {B : Nat} {v : Value} {L : List (Int × Int)} (h : OwnR w B v L) (hk : KJ J w w') (hne : v.ownBlock ≠ some J) : OwnR w' B v L := by
  obtain ⟨hB, hl, h2⟩ := h
  refine ⟨Nat.le_trans hB hk.size, hl, ?_⟩
  rcases h2 with h0 | ⟨g', cp, cur, rfl, hg', hh, rest⟩
  · exact .inl h0
  · exact .inr ⟨g', cp, cur, rfl, hg', (hk.block g' (lt_of_heap hh) (fun e => hne (by subst e; rfl))).trans hh, rest⟩
/-- What recovering hands back: the records, and the journal's block. -/
def RcvE (S : List UInt8) (w0 w : World) (e : Ending) : Prop := ∃ (L : List (Int × Int)) (v : Value) (J : Nat) (a : Option Addr) (m cap : Nat), RecP S L ∧ e = .returned (.tuple #[v, .pointer (some ⟨J, 0, none⟩)]) ∧ OwnR w w0.heap.size v L ∧ w0.heap.size ≤ J ∧ JB w J (.slice a m cap) (L.length : Int) (jouL L L.length).2 ∧ RowU w a m cap (jouL L L.length).1 ∧ v.ownBlock ≠ some J ∧ ∀ ad, a = some ad → ad.block ≠ J
/-- The state of the loop. -/
def RcvS (S : List UInt8) (wr : World) (J B n : Nat) (v : Value) : Prop := ∃ (L : List (Int × Int)) (a : Option Addr) (m cap : Nat), L.length = n ∧ okL L ∧ (jouL L L.length).1 <+: S ∧ OwnR wr B v L ∧ JB wr J (.slice a m cap) (L.length : Int) (jouL L L.length).2 ∧ RowU wr a m cap (jouL L L.length).1 ∧ (∀ ad, a = some ad → v.ownBlock ≠ some ad.block) ∧ ∀ ad, a = some ad → ad.block ≠ J
theorem RowU.keep {w w' : World} {a : Option Addr} {n cap : Nat} {bs : List UInt8} (h : RowU w a n cap bs) (hs : w.heap.size ≤ w'.heap.size) (hk : ∀ ad, a = some ad → w'.heap[ad.block]? = w.heap[ad.block]?) : RowU w' a n cap bs :=
  ⟨h.len, h.le, h.no, h.small, fun ad e => ⟨by have := (h.at' ad e).1; omega, fun j hj => by
    rw [← (h.at' ad e).2 j hj]
    exact World.cell?_of_block (w := w) (a := ad.add j) (by rw [addr_blk]; exact hk ad e)⟩⟩
theorem rowU_bytes (w : World) (R : List UInt8) (hR : R.length ≤ 1000000) : RowU (Lib.bytesWorld w 5 (str R)) (some ⟨w.heap.size, 0, none⟩) R.length (grownCap w R.length 0 5) R := by
  have hsz := str_size R
  refine ⟨rfl, grownCap_ge w R.length 0 5, fun e => (by cases e), ?_, fun ad e => ?_⟩
  · have := grownCap_le_maxLen w R.length 0 5 (by unfold maxLen; omega)
    unfold maxLen at this
    omega
  · cases e
    refine ⟨by rw [Lib.bytesWorld_size]; show w.heap.size < w.heap.size + 1; omega, fun j hj => ?_⟩
    have h1 := Lib.bytesWorld_cell w 5 (str R) j (by omega)
    have e : (⟨w.heap.size, 0, none⟩ : Addr).add j = ⟨w.heap.size, j, none⟩ := by unfold Addr.add; split <;> simp_all
    rw [e, h1, str_list]
    simp [List.getD, hj]
set_option maxHeartbeats 4000000 in
set_option maxRecDepth 100000 in
theorem recovered_any (S : List UInt8) (hS : S.length ≤ 100000) {w : World} (hG : Glob w) :
    Calls Tryd.prog 34 #[.string (str S)] w fun e w' => RcvE S w w' e ∧ Below w.heap.size w w' := by
  have hsz := str_size S
  have J1 := Lib.hid (jb_new w)
  have b1 := below1 w (.cells #[.slice none 0 0, .int .i64 0, .int .i64 0] JT)
  have B1 := Lib.hid b1
  have G1 := Lib.hid (hG.below b1)
  have hw1 : (w.alloc (.cells #[.slice none 0 0, .int .i64 0, .int .i64 0] JT)).heap.size = w.heap.size + 1 := by simp
  have b2 := below1 (w.alloc (.cells #[.slice none 0 0, .int .i64 0, .int .i64 0] JT)) (.cells #[] RT)
  have O2 := Lib.hid (OwnR.empty (w.alloc (.cells #[.slice none 0 0, .int .i64 0, .int .i64 0] JT)) (w.heap.size + 1) (by simp) (w.heap.size + 1) hw1.symm)
  have J2 := Lib.hid (J1.out.below b2 J1.out.lt)
  have B2 := Lib.hid (B1.out.trans (b2.mono B1.out.size))
  have G2 := Lib.hid (G1.out.below b2)
  have HG0 := Lib.hid hG
  clear b1 b2 hG J1 B1 G1 hw1
  go_enter Tryd.func34, Tryd.ntmps34
  go_wp2_with fail
  go_loopw [5] (fun tv wr => ∃ (la : Option Addr) (n lc : Nat), tv = .slice la n lc ∧ n ≤ 300 ∧ Hid (RcvS S wr w.heap.size (w.heap.size + 1) n (.slice la n lc)) ∧ Hid (Glob wr) ∧ Hid (Below w.heap.size w wr)) (fun tv _ => 301 - vlen tv)
  case atStart => exact ⟨_, 0, 0, rfl, by omega, Lib.hid ⟨[], none, 0, 0, rfl, (by intro k hk; simp at hk), List.nil_prefix, O2.out, J2.out, rowU_nil _, (fun ad e => by cases e), fun ad e => by cases e⟩, G2, B2⟩
  case round =>
    clear O2 J2 G2 B2
    obtain ⟨la, n, lc, rfl, hn, hst, hg, hb⟩ := hrel
    obtain ⟨L, ja, m, cp, rfl, hL, hp, ho, hj, hr, hd1, hd2⟩ := hst.out
    have HL := Lib.hid hL
    have HP := Lib.hid hp
    have HO := Lib.hid ho
    have HJ := Lib.hid hj
    have HR := Lib.hid hr
    have HD1 := Lib.hid hd1
    have HD2 := Lib.hid hd2
    have HV := Lib.hid (show (Value.slice la L.length lc).ownBlock ≠ some w.heap.size from fun e => by have := (ho.2.lt _ e).1; omega)
    clear hst hL hp ho hj hr hd1 hd2
    by_cases hB : L.length < 300
    rotate_left
    · have hB' : ¬ (L.length : Int) < 300 := by omega
      have HRP := Lib.hid (show RecP S L from ⟨hn, HL.out, HP.out, .inl (by omega)⟩)
      clear hB
      go_wp2_with fail
      go_ret2
      exact ⟨⟨L, _, w.heap.size, ja, m, cp, HRP.out, rfl, HO.out.lower (by omega), Nat.le_refl _, HJ.out, HR.out, HV.out, HD2.out⟩, hb.out⟩
    have hB' : (L.length : Int) < 300 := by omega
    obtain ⟨R, hRS⟩ := HP.out
    have hml := HR.out.len
    have hmS : m ≤ S.length := by rw [← hRS, List.length_append]; omega
    have hRl : R.length ≤ 1000000 := by have : S.length = m + R.length := by rw [← hRS, List.length_append]; omega
                                        omega
    have hex : (str S).extract m S.length = str R := by
      rw [str_extract, List.take_length, ← hRS, ← hml]; simp
    have hs0 := jouL_sum L L.length
    have c0 := HJ.out.c0
    have hmI : (0 : Int) ≤ (m : Int) := by omega
    have hmI2 : (m : Int) ≤ (S.length : Int) := by omega
    have HRS := Lib.hid hRS
    have HML := Lib.hid hml
    have hcv := Lib.run_convert_string_bytes (P := Tryd.prog) wr 9 42 5 (str R) Tryd.underlying9 Tryd.underlying42 Tryd.underlying5
    have hszR := str_size R
    rw [hszR] at hcv
    clear hRS hml
    go_wp2_with fail
    have hbc := Lib.bytesWorld_below wr 5 (str R)
    have U2 := rowU_bytes wr R hRl
    have J2 := HJ.out.below hbc HJ.out.lt
    have G2 := hg.out.below hbc
    refine (readLine_any L.length (by omega) hs0.1 hs0.2 J2 U2 (by omega) G2).mono ?_
    rintro e w3 ⟨⟨x, y, ok, rfl, hok1, hok2⟩, hb3⟩
    have hbd : Below wr.heap.size wr w3 := hbc.trans (hb3.mono hbc.size)
    have O3 := HO.out.below hbd
    have J3 := HJ.out.below hbd HJ.out.lt
    have R3 := HR.out.below hbd
    have G3 := hg.out.below hbd
    have B3 := hb.out.trans (hbd.mono hb.out.size)
    have BX := below1 w3 (.cells #[.int .i64 x, .int .i64 y] RT)
    obtain ⟨X, hX⟩ : ∃ X, X = w3.heap.size := ⟨_, rfl⟩
    have X4 := Lib.hid (RB.new w3 x y)
    have O4 := Lib.hid (O3.below BX)
    have J4 := Lib.hid (J3.below BX J3.lt)
    have R4 := Lib.hid (R3.below BX)
    have G4 := Lib.hid (G3.below BX)
    have B4 := Lib.hid (B3.trans (BX.mono B3.size))
    have HVX := Lib.hid (show (Value.slice la L.length lc).ownBlock ≠ some X from fun e => by have := (O3.2.lt _ e).2; omega)
    have HOK1 := Lib.hid hok1
    have HOK2 := Lib.hid hok2
    rw [← hX] at X4
    clear hbc U2 J2 G2 hb3 hbd O3 J3 R3 G3 B3 BX HO HJ HR hg hb c0 hex hcv hmI hmI2 hszR hok1 hok2
    go_upto_region 5 with (fail)
    rw [← hX]
    clear hX
    generalize w3.alloc (.cells #[.int .i64 x, .int .i64 y] RT) = w4 at *
    cases ok with
    | false =>
      have HRP := Lib.hid (show RecP S L from ⟨hn, HL.out, HP.out, .inr fun r hr h => by
        rw [← HRS.out, List.prefix_append_right_inj] at h
        exact HOK2.out rfl r hr h⟩)
      go_wp2_with fail
      go_ret2
      exact ⟨⟨L, _, w.heap.size, ja, m, cp, HRP.out, rfl, O4.out.lower (by omega), Nat.le_refl _, J4.out, R4.out, HV.out, HD2.out⟩, B4.out⟩
    | true =>
      obtain ⟨hrv, hpre⟩ := HOK1.out rfl
      have HPR := Lib.hid hpre
      have HRV := Lib.hid hrv
      have x0 := X4.out.c0
      have x1 := X4.out.c1
      have hXs : X < w4.heap.size := X4.out.lt
      have hLb : L.length ≤ 16777216 := by omega
      clear hpre hrv HOK1 HOK2
      go_wp2_with (at_builtin; refine appendR_oneG rfl _ _ _ rfl Tryd.underlying26 x y O4.out rfl _ rfl rfl hLb ?_; intro v' w5 hown hb5 hkeep hat; refine Hid.out ?_)
      have hs45 := hb5.size
      have J5 := Lib.hid (J4.out.below hb5 (Nat.lt_succ_self _))
      have R5 := Lib.hid (R4.out.keep hs45 fun ad e => hkeep _ (R4.out.at' ad e).1 (HD1.out ad e))
      have X5 := Lib.hid (show RB w5 X x y from ⟨(hkeep X hXs HVX.out).trans X4.out.blk⟩)
      have B5 := Lib.hid (B4.out.trans (hb5.mono (Nat.le_succ _)))
      have G5 := Lib.hid (HG0.out.below B5.out)
      obtain ⟨la', lc', rfl⟩ := hown.slice
      have O5 := Lib.hid hown
      have hJ5 : w.heap.size < w5.heap.size := J5.out.lt
      have hm1 : m ≤ 1000000 := by omega
      clear hown hb5 hkeep hat J4 R4 X4 O4 B4 G4 x0 x1 HVX hs45
      have x0 := X5.out.c0
      have x1 := X5.out.c1
      rw [List.length_append] at O5 ⊢
      simp only [List.length_cons, List.length_nil, Nat.zero_add] at O5 ⊢
      refine Lib.hid ?_
      go_wp2_with fail
      refine (add_any L.length (by omega) HRV.out hs0.1 hs0.2 J5.out R5.out hm1 G5.out.tab).mono ?_
      rintro e w6 ⟨rfl, hk6, ja', m', cp', hj6, hr6, hf6⟩
      have HS2 := Lib.hid (jouL_snoc L (x, y))
      have hneJ : (Value.slice la' (L.length + 1) lc').ownBlock ≠ some w.heap.size := fun e => by have := (O5.out.2.lt _ e).1; omega
      have ST := Lib.hid (show RcvS S w6 w.heap.size (w.heap.size + 1) (L.length + 1) (.slice la' (L.length + 1) lc') from by
        refine ⟨L ++ [(x, y)], ja', m', cp', by simp, okL_snoc HL.out HRV.out, ?_, O5.out.kj hk6 hneJ, ?_, ?_, fun ad e h => ?_, fun ad e => ?_⟩
        · rw [List.length_append]
          show (jouL (L ++ [(x, y)]) (L.length + 1)).1 <+: S
          rw [HS2.out, ← HRS.out, List.prefix_append_right_inj]
          exact HPR.out
        · rw [List.length_append]
          show JB w6 w.heap.size (.slice ja' m' cp') (((L.length + 1 : Nat)) : Int) (jouL (L ++ [(x, y)]) (L.length + 1)).2
          rw [HS2.out]
          exact hj6
        · rw [List.length_append]
          show RowU w6 ja' m' cp' (jouL (L ++ [(x, y)]) (L.length + 1)).1
          rw [HS2.out]
          exact hr6
        · have h1 := (O5.out.2.lt _ h).2
          have h2 := hf6 ad e
          omega
        · have h2 := hf6 ad e
          omega)
      have B6 := Lib.hid (B5.out.trans (hk6.below (Nat.le_refl _) (by omega)))
      have G6 := Lib.hid (HG0.out.below B6.out)
      clear hk6 hj6 hr6 hf6 hneJ x0 x1
      go_wp2_with fail
      go_roundw
      case rel => exact ⟨la', L.length + 1, lc', rfl, by omega, ST, G6, B6⟩
      case measure => simp [vlen]; omega
end Go.Proofs.YtmbphpmabopifaaDoor
