/-
  The parts Gly, Boxb, Boxa.
-/
import Derived.Test.YtdcmebegnekkcaaGreatFamc
import Derived.Laws.Rows
import Derived.Test.YtdcmebegnekkcaaGreatSizy
/-
  Glyphs, in both programs.
-/
namespace Go.Proofs.YtdcmebegnekkcaaGreat
open Go.RowKit
set_option linter.unusedVariables false

/-- The rows of the glyphs of digits and letters. -/
def glyS : List UInt8 := [55, 53, 53, 53, 55, 50, 54, 50, 50, 55, 55, 49, 55, 52, 55, 55, 49, 51, 49, 55, 53, 53, 55, 49, 49, 55, 52, 55, 49, 55, 55, 52, 55, 53, 55, 55, 49, 50, 50, 50, 55, 53, 50, 53, 55, 55, 53, 55, 49, 55, 50, 53, 55, 53, 53, 54, 53, 54, 53, 54, 51, 52, 52, 52, 51, 54, 53, 53, 53, 54, 55, 52, 54, 52, 55, 55, 52, 54, 52, 52, 51, 52, 53, 53, 51, 53, 53, 55, 53, 53, 55, 50, 50, 50, 55, 49, 49, 49, 53, 50, 53, 53, 54, 53, 53, 52, 52, 52, 52, 55, 53, 55, 55, 53, 53, 54, 53, 53, 53, 53, 50, 53, 53, 53, 50, 54, 53, 54, 52, 52, 50, 53, 53, 54, 51, 54, 53, 54, 53, 53, 51, 52, 50, 49, 54, 55, 50, 50, 50, 50, 53, 53, 53, 53, 55, 53, 53, 53, 53, 50, 53, 53, 55, 55, 53, 53, 53, 50, 53, 53, 53, 53, 50, 50, 50, 55, 49, 50, 52, 55]
/-- Whether a byte has a glyph. -/
def hasG (b : Int) : Bool := decide (b = 32) || (inR b 48 57 || inR b 65 90)
/-- The place of a glyph. -/
def glyA (b : Int) : Nat := if b ≤ 57 then (b - 48).toNat else (b - 55).toNat
def glyF (A k : Nat) : Int := ((glyS.getD (5 * A + k) 48).toNat : Int) - 48
def rowG (A k : Nat) : List Int := (List.range k).map (glyF A)
def glyL (b : Int) : List Int := if b = 32 then [0, 0, 0, 0, 0] else if hasG b = true then rowG (glyA b) 5 else []
def glyC (b : Int) : Int := if hasG b = true then 0 else 4
set_option maxRecDepth 10000 in
theorem glyS_len : glyS.length = 180 := rfl
theorem rowG_succ (A k : Nat) : rowG A (k + 1) = rowG A k ++ [glyF A k] := by unfold rowG; rw [List.range_succ, List.map_append]; rfl
theorem rowG_len (A k : Nat) : (rowG A k).length = k := by unfold rowG; simp
set_option maxRecDepth 10000 in
theorem glyF_bd {A k : Nat} (h : 5 * A + k < 180) : 0 ≤ glyF A k ∧ glyF A k ≤ 7 := by
  have h2 : (glyS.all fun x => decide (48 ≤ x.toNat ∧ x.toNat ≤ 55)) = true := by decide +kernel
  have h3 := List.all_eq_true.1 h2 (glyS.getD (5 * A + k) 48) (by rw [List.getD_eq_getElem?_getD, List.getElem?_eq_getElem (by rw [glyS_len]; exact h)]; exact List.getElem_mem _)
  simp only [decide_eq_true_eq] at h3
  unfold glyF
  omega
theorem glyS_at {A k j : Nat} (hj : 5 * A + k = j) (h : j < glyS.length) : ((glyS[j]'h).toNat : Int) = glyF A k + 48 := by
  unfold glyF
  rw [hj, List.getD_eq_getElem?_getD, List.getElem?_eq_getElem h]
  simp
theorem l29Glyphs_any (w : World) : Calls Tryz.prog 32 #[] w fun e w' => e = .returned (.string (str glyS)) ∧ w = w' := by
  go_enter Tryz.func32, Tryz.ntmps32
  go_wp2_with fail
  go_ret
  exact ⟨rfl, rfl⟩
set_option maxHeartbeats 4000000 in
set_option maxRecDepth 20000 in
theorem specGlyphRows_any (b : Int) (w : World) :
    Calls Tryz.prog 10 #[.int .i64 b] w fun e w' => ∃ v, e = .returned (.tuple #[v, .int .i64 (glyC b)]) ∧ Below w.heap.size w w' ∧ OwnL w' w.heap.size v (glyL b) := by
  by_cases h32 : b = 32
  · subst h32
    have HO := Lib.hid (OwnL.lit w w.heap.size (Nat.le_refl _) [0, 0, 0, 0, 0] (by decide))
    go_enter Tryz.func10, Tryz.ntmps10
    go_wp2_with fail
    go_ret2
    exact ⟨_, rfl, below1 _ _, HO.out⟩
  by_cases hd : 48 ≤ b ∧ b ≤ 57
  · obtain ⟨d1, d2⟩ := hd
    have i1 : inR b 48 57 = true := inR_true d1 d2
    obtain ⟨A, hA⟩ : ∃ A : Nat, glyA b = A ∧ A < 36 := ⟨_, rfl, by unfold glyA; rw [if_pos d2]; omega⟩
    have e1 : b - 48 = (A : Int) := by rw [← hA.1]; unfold glyA; rw [if_pos d2]; omega
    have hg : hasG b = true := by unfold hasG; rw [i1]; simp
    have f1 := Lib.hid (show glyL b = rowG A 5 by unfold glyL; rw [if_neg h32, if_pos hg, hA.1])
    have f2 := Lib.hid (show glyC b = 0 by unfold glyC; rw [if_pos hg])
    have hA36' := hA.2
    clear hA hg
    have Z0 := Lib.hid (OwnL.empty w w.heap.size (Nat.le_refl _) w.heap.size rfl)
    have B0 := Lib.hid (below1 w (.cells #[] 2))
    go_enter Tryz.func10, Tryz.ntmps10
    go_wp2_with fail
    refine (l01In_any _ _ _ _).mono ?_
    rintro e w1 ⟨rfl, rfl⟩
    rw [i1]
    go_wp2_with fail
    go_loopw [5, 6] (fun tv ti wr => ∃ k : Nat, k ≤ 5 ∧ ti = .int .i64 (k : Int) ∧ Hid (OwnL wr w.heap.size tv (rowG A k)) ∧ Hid (Below w.heap.size w wr)) (fun _ ti _ => 5 - (intOf ti).toNat)
    case atStart => exact ⟨0, by omega, rfl, Z0, B0⟩
    case round =>
      obtain ⟨k, hk, rfl, hO, hB⟩ := hrel
      by_cases hlt : k < 5
      · have hll : (rowG A k).length ≤ 16777216 := by rw [rowG_len]; omega
        obtain ⟨j, hj⟩ : ∃ j : Nat, 5 * A + k = j := ⟨_, rfl⟩
        have hjI : 5 * (A : Int) + (k : Int) = (j : Int) := by omega
        have hjl : j < (str glyS).size := by rw [str_size, glyS_len]; omega
        have hg2 : (((str glyS)[j]'hjl).toNat : Int) = glyF A k + 48 := by rw [str_get]; exact glyS_at hj _
        have hbd := glyF_bd (A := A) (k := k) (by omega)
        have HR1 := Lib.hid (rowG_succ A k)
        clear hj
        go_wp2_with fail
        refine (l29Glyphs_any _).mono ?_
        rintro e w1 ⟨rfl, rfl⟩
        generalize str glyS = S at *
        generalize glyF A k = z at *
        go_wp2_with (at_builtin; refine append_one rfl _ _ _ rfl Tryz.underlying25 z hO.out rfl _ rfl rfl hll ?_; intro v' w5 hown5 hb5)
        have HO5 := Lib.hid hown5
        have HB5 := Lib.hid (hB.out.trans (hb5.mono (Nat.le_refl _)))
        clear hown5 hb5
        go_roundw
        case rel => exact ⟨k + 1, by omega, by go_num, by rw [HR1.out]; exact HO5, HB5⟩
        case measure => simp [intOf]; omega
      · obtain rfl : k = 5 := by omega
        go_wp2_with fail
        go_ret2
        exact ⟨_, by rw [f2.out]; rfl, hB.out, by rw [f1.out]; exact hO.out⟩
  by_cases hl : 65 ≤ b ∧ b ≤ 90
  · obtain ⟨d1, d2⟩ := hl
    have i1 : inR b 48 57 = false := inR_false hd
    have i2 : inR b 65 90 = true := inR_true d1 d2
    obtain ⟨A, hA⟩ : ∃ A : Nat, glyA b = A ∧ A < 36 := ⟨_, rfl, by unfold glyA; rw [if_neg (by omega)]; omega⟩
    have e1 : b - 65 + 10 = (A : Int) := by rw [← hA.1]; unfold glyA; rw [if_neg (by omega)]; omega
    have hg : hasG b = true := by unfold hasG; rw [i2]; simp
    have f1 := Lib.hid (show glyL b = rowG A 5 by unfold glyL; rw [if_neg h32, if_pos hg, hA.1])
    have f2 := Lib.hid (show glyC b = 0 by unfold glyC; rw [if_pos hg])
    have hA36' := hA.2
    clear hA hg
    have Z0 := Lib.hid (OwnL.empty w w.heap.size (Nat.le_refl _) w.heap.size rfl)
    have B0 := Lib.hid (below1 w (.cells #[] 2))
    go_enter Tryz.func10, Tryz.ntmps10
    go_wp2_with fail
    refine (l01In_any _ _ _ _).mono ?_
    rintro e w1 ⟨rfl, rfl⟩
    rw [i1]
    go_wp2_with fail
    refine (l01In_any _ _ _ _).mono ?_
    rintro e w1 ⟨rfl, rfl⟩
    rw [i2]
    go_wp2_with fail
    go_loopw [5, 6] (fun tv ti wr => ∃ k : Nat, k ≤ 5 ∧ ti = .int .i64 (k : Int) ∧ Hid (OwnL wr w.heap.size tv (rowG A k)) ∧ Hid (Below w.heap.size w wr)) (fun _ ti _ => 5 - (intOf ti).toNat)
    case atStart => exact ⟨0, by omega, rfl, Z0, B0⟩
    case round =>
      obtain ⟨k, hk, rfl, hO, hB⟩ := hrel
      by_cases hlt : k < 5
      · have hll : (rowG A k).length ≤ 16777216 := by rw [rowG_len]; omega
        obtain ⟨j, hj⟩ : ∃ j : Nat, 5 * A + k = j := ⟨_, rfl⟩
        have hjI : 5 * (A : Int) + (k : Int) = (j : Int) := by omega
        have hjl : j < (str glyS).size := by rw [str_size, glyS_len]; omega
        have hg2 : (((str glyS)[j]'hjl).toNat : Int) = glyF A k + 48 := by rw [str_get]; exact glyS_at hj _
        have hbd := glyF_bd (A := A) (k := k) (by omega)
        have HR1 := Lib.hid (rowG_succ A k)
        clear hj
        go_wp2_with fail
        refine (l29Glyphs_any _).mono ?_
        rintro e w1 ⟨rfl, rfl⟩
        generalize str glyS = S at *
        generalize glyF A k = z at *
        go_wp2_with (at_builtin; refine append_one rfl _ _ _ rfl Tryz.underlying25 z hO.out rfl _ rfl rfl hll ?_; intro v' w5 hown5 hb5)
        have HO5 := Lib.hid hown5
        have HB5 := Lib.hid (hB.out.trans (hb5.mono (Nat.le_refl _)))
        clear hown5 hb5
        go_roundw
        case rel => exact ⟨k + 1, by omega, by go_num, by rw [HR1.out]; exact HO5, HB5⟩
        case measure => simp [intOf]; omega
      · obtain rfl : k = 5 := by omega
        go_wp2_with fail
        go_ret2
        exact ⟨_, by rw [f2.out]; rfl, hB.out, by rw [f1.out]; exact hO.out⟩
  have i1 : inR b 48 57 = false := inR_false hd
  have i2 : inR b 65 90 = false := inR_false hl
  have hg : hasG b = false := by unfold hasG; rw [i1, i2, decide_eq_false h32]; rfl
  have f1 := Lib.hid (show glyL b = [] by unfold glyL; rw [if_neg h32, if_neg (by rw [hg]; simp)])
  have f2 := Lib.hid (show glyC b = 4 by unfold glyC; rw [if_neg (by rw [hg]; simp)])
  go_enter Tryz.func10, Tryz.ntmps10
  go_wp2_with fail
  refine (l01In_any _ _ _ _).mono ?_
  rintro e w1 ⟨rfl, rfl⟩
  rw [i1]
  go_wp2_with fail
  refine (l01In_any _ _ _ _).mono ?_
  rintro e w1 ⟨rfl, rfl⟩
  rw [i2]
  go_wp2_with fail
  go_ret2
  exact ⟨_, by rw [f2.out]; rfl, Below.refl _ _, by rw [f1.out]; exact OwnL.nil _ _ (Nat.le_refl _)⟩
end Go.Proofs.YtdcmebegnekkcaaGreat
/-
  Splitting a string, in the reference.
-/
namespace Go.Proofs.YtdcmebegnekkcaaGreat
open Go.RowKit
set_option linter.unusedVariables false

/-- A slice of strings of the call's own. -/
def OwnS (w : World) (B : Nat) (v : Value) (ps : List (List UInt8)) : Prop := B ≤ w.heap.size ∧ w.ownsRow B 9 1 v ps.length (ps.map fun p => Value.string (str p))
theorem OwnS.empty (w : World) (B : Nat) (hB : B ≤ w.heap.size) (b : Nat) (hb : b = w.heap.size) : OwnS (w.alloc (.cells #[] 9)) B (.slice (some ⟨b, 0, none⟩) 0 0) [] := by
  subst hb
  exact ⟨by simp; omega, World.ownsRow_made w #[] 0 hB (by unfold maxLen; omega) rfl⟩
theorem OwnS.below {w w' : World} {B : Nat} {v : Value} {ps : List (List UInt8)} (h : OwnS w B v ps) (hb : Below w.heap.size w w') : OwnS w' B v ps := by
  have hs := hb.size
  refine ⟨by have := h.1; omega, h.2.1, ?_⟩
  rcases h.2.2 with h2 | ⟨g, cap, cur, rfl, hg, hh, r⟩
  · exact .inl h2
  · exact .inr ⟨g, cap, cur, rfl, hg, (hb.block g (Array.getElem?_eq_some_iff.1 hh).1).trans hh, r⟩
theorem info_str : (Tryz.prog.info? 9).map (fun i => (i.zero, i.size, i.bytes)) = some (some (.string { data := #[] }), 1, 16) := by kernel_rfl
/-- One more string. -/
theorem appendS_one {W0 : World} {ops : Array Oper} {rest : List Oper} {o : Oper} {a : Act} {Q : Exit → Act → World → Prop} (hgd : o.guard = none) (s x : Operand) (t : TypeId)
    (ho : o.op = .call { callee := .builtin .append, args := #[s, x], argTypes := #[t, t] }) (ht : Tryz.prog.underlying t = some (.slice 9))
    {B : Nat} {v : Value} {ps : List (List UInt8)} (S : ByteArray) (p : List UInt8) (hS : S = str p) (hown : OwnS W0 B v ps) (hs : a.eval s = v) (b : Nat) (hb : b = W0.heap.size) (hx : a.eval x = .slice (some ⟨b, 0, none⟩) 1 1) (hn : ps.length ≤ 16777216)
    (h : ∀ v' w', OwnS w' B v' (ps ++ [p]) → Below B W0 w' → wpList Tryz.prog ops Q rest (a.put o.dst v') w') : wpList Tryz.prog ops Q (o :: rest) a (W0.alloc (.cells #[.string S] 9)) := by
  subst hb
  subst hS
  obtain ⟨i0, hi, hz0, hz1, hz2⟩ := info_parts info_str
  obtain ⟨hB, hown⟩ := hown
  refine wpList_append_own _ hgd s x t ho B 9 i0 (.string { data := #[] }) 1 16 ht hi hz0 hz1 hz2 rfl (by decide) v ps.length _ hs (hown.alloc _) ⟨W0.heap.size, 0, none⟩ 1 1 [.string (str p)] hx rfl ?_ ?_ (by unfold maxLen; omega) (by omega) (by simp; omega) ?_
  · intro j u hj
    match j, hj with
    | 0, hj => simp at hj; subst hj; simp [Addr.add, go_sem]
  · intro u hu; simp at hu; subst hu; rfl
  · intro v' w' h1 hg _
    exact h v' w' ⟨by have := hg.size; simp at this; omega, by rw [List.length_append, List.map_append]; exact h1⟩ (append_below hB hg fun k hk => (hown.lt k hk).1)
theorem ownsS_shape {w : World} {B : Nat} {v : Value} {ps : List (List UInt8)} (h : OwnS w B v ps) : ∃ a cap, v = .slice a ps.length cap := by
  rcases h.2.2 with h2 | ⟨g, cap, cur, rfl, hg, hh, r⟩
  · obtain ⟨rfl, h3⟩ := h2
    have : ps.length = 0 := h3
    exact ⟨none, 0, by rw [this]⟩
  · exact ⟨_, cap, rfl⟩
theorem count_snoc (b : UInt8) (l : List UInt8) (k : Nat) (h : k < l.length) : (l.take (k + 1)).count b = (l.take k).count b + if l[k] = b then 1 else 0 := by
  rw [List.take_succ_eq_append_getElem h, List.count_append, List.count_singleton]
  simp
set_option maxHeartbeats 4000000 in
set_option maxRecDepth 100000 in
theorem l01Split_any (l : List UInt8) (hl : l.length ≤ 1048576) (b : UInt8) (z : Int) (hz : z = (b.toNat : Int)) (w : World) :
    Calls Tryz.prog 50 #[.string (str l), .int .u8 z] w fun e w' => (∃ a cap, e = .returned (.slice a (l.count b + 1) cap)) ∧ Below w.heap.size w w' := by
  subst hz
  have hsz := str_size l
  have O0 := Lib.hid (OwnS.empty w w.heap.size (Nat.le_refl _) w.heap.size rfl)
  have B0 := Lib.hid (below1 w (.cells #[] 9))
  go_enter Tryz.func50, Tryz.ntmps50
  go_wp2_with fail
  go_loopw [5, 6, 7] (fun tv tf ti wr => ∃ (fr i : Nat) (ps : List (List UInt8)), i ≤ l.length + 1 ∧ fr ≤ i ∧ tf = .int .i64 fr ∧ ti = .int .i64 i ∧ ps.length ≤ i ∧ Hid ((i ≤ l.length ∧ ps.length = (l.take i).count b) ∨ (i = l.length + 1 ∧ ps.length = l.count b + 1)) ∧ Hid (OwnS wr w.heap.size tv ps) ∧ Hid (Below w.heap.size w wr)) (fun _ _ ti _ => l.length + 1 - (intOf ti).toNat)
  case atStart => exact ⟨0, 0, [], by omega, by omega, rfl, rfl, by simp, Lib.hid (.inl ⟨by omega, by simp⟩), O0, B0⟩
  case round =>
    clear O0 B0
    obtain ⟨fr, i, ps, hi, hfr, rfl, rfl, hpl, hst, ho, hb⟩ := hrel
    by_cases hlt : i ≤ l.length
    · have hp1 : ps.length = (l.take i).count b := by
        rcases hst.out with h | h
        · exact h.2
        · omega
      have hli : (i : Int) ≤ (l.length : Int) := by omega
      have HP1 := Lib.hid hp1
      clear hst hp1
      by_cases heq : i = l.length
      · have hie : (i : Int) = (l.length : Int) := by omega
        have hieb : ((i : Int) == (l.length : Int)) = true := by simp [hie]
        clear hie
        have HFIN := Lib.hid (show ps.length + 1 = l.count b + 1 from by
          have e1 := HP1.out
          rw [heq, List.take_length] at e1
          rw [e1])
        have HEX := Lib.hid (str_extract l fr i)
        have hpl2 : ps.length ≤ 16777216 := by omega
        rw [heq] at HEX hfr
        clear HP1
        subst heq
        go_wp2_with (at_builtin; refine appendS_one rfl _ _ _ rfl Tryz.underlying81 _ ((l.take l.length).drop fr) HEX.out ho.out rfl _ rfl rfl hpl2 ?_; intro v' w7 hown7 hb7; refine Hid.out ?_)
        have O7 := Lib.hid hown7
        have B7 := Lib.hid (hb.out.trans hb7)
        clear hown7 hb7 ho hb HEX
        refine Lib.hid ?_
        go_wp2_with fail
        go_roundw
        case rel => exact ⟨l.length + 1, l.length + 1, ps ++ [(l.take l.length).drop fr], by omega, by omega, by go_num, by go_num, by simp; omega, Lib.hid (.inr ⟨rfl, by rw [List.length_append]; exact HFIN.out⟩), O7, B7⟩
        case measure => simp [intOf]
      · have hin : i < l.length := by omega
        have hie : ((i : Int) == (l.length : Int)) = false := by simp; omega
        have HSN := Lib.hid (count_snoc b l i hin)
        by_cases hcb : l[i] = b
        · have HC2 := Lib.hid (show ps.length + 1 = (l.take (i + 1)).count b from by rw [HSN.out, if_pos hcb, ← HP1.out])
          have hbe : ((((str l)[i]'(by rw [hsz]; exact hin)).toNat : Int) == (b.toNat : Int)) = true := by rw [str_get, hcb]; simp
          have HEX := Lib.hid (str_extract l fr i)
          have hpl2 : ps.length ≤ 16777216 := by omega
          clear HP1 HSN hcb
          go_wp2_with (at_builtin; refine appendS_one rfl _ _ _ rfl Tryz.underlying81 _ ((l.take i).drop fr) HEX.out ho.out rfl _ rfl rfl hpl2 ?_; intro v' w7 hown7 hb7; refine Hid.out ?_)
          have O7 := Lib.hid hown7
          have B7 := Lib.hid (hb.out.trans hb7)
          clear hown7 hb7 ho hb HEX
          refine Lib.hid ?_
          go_wp2_with fail
          go_roundw
          case rel => exact ⟨i + 1, i + 1, ps ++ [(l.take i).drop fr], by omega, by omega, by go_num, by go_num, by simp; omega, Lib.hid (.inl ⟨by omega, by rw [List.length_append]; exact HC2.out⟩), O7, B7⟩
          case measure => simp [intOf]; omega
        · have HC2 := Lib.hid (show ps.length = (l.take (i + 1)).count b from by rw [HSN.out, if_neg hcb, ← HP1.out]; rfl)
          have hbe : ((((str l)[i]'(by rw [hsz]; exact hin)).toNat : Int) == (b.toNat : Int)) = false := by
            rw [str_get]
            simp only [beq_eq_false_iff_ne, ne_eq, Int.natCast_inj]
            exact fun e => hcb (UInt8.toNat_inj.1 e)
          clear HP1 HSN hcb
          go_wp2_with fail
          go_roundw
          case rel => exact ⟨fr, i + 1, ps, by omega, by omega, rfl, by go_num, by omega, Lib.hid (.inl ⟨by omega, HC2.out⟩), ho, hb⟩
          case measure => simp [intOf]; omega
    · have hps : ps.length = l.count b + 1 := by
        rcases hst.out with h | h
        · omega
        · exact h.2
      have HFM := Lib.hid (ownsS_shape ho.out)
      have HPS := Lib.hid hps
      have hli : ¬ (i : Int) ≤ (l.length : Int) := by omega
      clear hps
      go_wp2_with fail
      go_ret
      obtain ⟨a, cap, h⟩ := HFM.out
      exact ⟨⟨a, cap, by rw [← HPS.out, ← h]; rfl⟩, hb.out⟩
end Go.Proofs.YtdcmebegnekkcaaGreat
/-
  Columns of symbols, in both programs.
-/
namespace Go.Proofs.YtdcmebegnekkcaaGreat
open Go.RowKit
set_option linter.unusedVariables false

abbrev MxT : TypeId := 169
abbrev StT : TypeId := 168
/-- Columns of a symbol. -/
def colI (k : Nat) (n : Int) : Int := if k ≤ 2 then n else 15 + 11 * (fco k + 2)
def knT (k : Nat) : TypeId := if k ≤ 2 then MxT else StT
theorem fkd_eq1 (k : Nat) : (fkd k == 1) = decide (k ≤ 2) := by unfold fkd; by_cases h : k ≤ 2 <;> simp [h]
theorem mColsM (k a c : Nat) (w : World) : (method 362 MxT (fmV k a c) "loop.example/g00879/impl.cols").run Tryz.prog w = .ok (208, fmV k a c) w := by kernel_rfl
theorem mColsS (k a c : Nat) (w : World) : (method 362 StT (fmV k a c) "loop.example/g00879/impl.cols").run Tryz.prog w = .ok (206, fmV k a c) w := by kernel_rfl
theorem mNilM (k a c : Nat) (w : World) : (nilAhead 362 MxT (fmV k a c) "loop.example/g00879/impl.cols").run Tryz.prog w = .ok (some false) w := by kernel_rfl
theorem mNilS (k a c : Nat) (w : World) : (nilAhead 362 StT (fmV k a c) "loop.example/g00879/impl.cols").run Tryz.prog w = .ok (some false) w := by kernel_rfl
theorem fm_boxT (w : World) (k a c : Nat) (ty : TypeId) : Tf (w.alloc (.cells (fcs k a c).toArray ty)) w.heap.size 8 ty (fcF k a c) :=
  (Tf.mkd w (fcs k a c).toArray ty).congr fun i hi => by
    have hi : i < 8 := hi
    rcases (show i = 0 ∨ i = 1 ∨ i = 2 ∨ i = 3 ∨ i = 4 ∨ i = 5 ∨ i = 6 ∨ i = 7 by omega) with rfl | rfl | rfl | rfl | rfl | rfl | rfl | rfl <;> rfl
set_option maxHeartbeats 4000000 in
theorem matrixCols_any (k a c : Nat) (n : Int) (w : World) :
    Calls Tryz.prog 208 #[fmV k a c, .int .i64 n] w fun e w' => e = .returned (.int .i64 n) ∧ Below w.heap.size w w' := by
  have B0 := Lib.hid (below1 w (.cells (fcs k a c).toArray MxT))
  go_enter Tryz.func208, Tryz.ntmps208
  go_wp2_with fail
  go_ret
  exact ⟨rfl, B0.out⟩
theorem rowWidth_any (n : Int) (h : 0 ≤ n ∧ n ≤ 100) (w : World) :
    Calls Tryz.prog 207 #[.int .i64 n] w fun e w' => e = .returned (.int .i64 (15 + 11 * n)) ∧ w = w' := by
  go_enter Tryz.func207, Tryz.ntmps207
  go_wp2_with fail
  go_ret
  exact ⟨ret_int (by omega), rfl⟩
set_option maxHeartbeats 4000000 in
theorem stackedCols_any {k : Nat} (hk : k < 5) (a c : Nat) (n : Int) (w : World) :
    Calls Tryz.prog 206 #[fmV k a c, .int .i64 n] w fun e w' => e = .returned (.int .i64 (15 + 11 * (fco k + 2))) ∧ Below w.heap.size w w' := by
  have B0 := Lib.hid (below1 w (.cells (fcs k a c).toArray StT))
  have T0 := Lib.hid (fm_boxT w k a c StT)
  have hf := fco_bd hk
  go_enter Tryz.func206, Tryz.ntmps206
  obtain ⟨X, hX⟩ : ∃ X, w.heap.size = X := ⟨_, rfl⟩
  obtain ⟨w1, hw1⟩ : ∃ w1, w.alloc (.cells (fcs k a c).toArray StT) = w1 := ⟨_, rfl⟩
  rw [hw1, hX] at T0
  rw [hw1] at B0
  have hX1 := T0.out.lt
  have q6 : w1.cell? ⟨X, 6, none⟩ = some (.int .i64 (fco k)) := T0.out.cell (i := 6) (by omega)
  generalize fco k = f at *
  go_wp2_with fail
  refine (rowWidth_any _ (by omega) _).mono ?_
  rintro e w2 ⟨rfl, rfl⟩
  go_wp2_with fail
  go_ret
  exact ⟨rfl, hX ▸ B0.out⟩
set_option maxHeartbeats 4000000 in
theorem kind_any {k : Nat} (a c : Nat) (w : World) :
    Calls Tryz.prog 121 #[fmV k a c] w fun e w' => e = .returned (.iface (knT k) (fmV k a c)) ∧ Below w.heap.size w w' := by
  have B0 := Lib.hid (below1 w (.cells (fcs k a c).toArray FmT))
  have T0 := Lib.hid (fm_boxT w k a c FmT)
  have hkd := fkd_eq k
  have HT := Lib.hid (show knT k = if k ≤ 2 then MxT else StT from rfl)
  go_enter Tryz.func121, Tryz.ntmps121
  obtain ⟨X, hX⟩ : ∃ X, w.heap.size = X := ⟨_, rfl⟩
  obtain ⟨w1, hw1⟩ : ∃ w1, w.alloc (.cells (fcs k a c).toArray FmT) = w1 := ⟨_, rfl⟩
  rw [hw1, hX] at T0
  rw [hw1] at B0
  have hX1 := T0.out.lt
  have q0 : w1.cell? ⟨X, 0, none⟩ = some (.string (str (fnm k))) := T0.out.cell (i := 0) (by omega)
  have q1 : w1.cell? ⟨X, 1, none⟩ = some (.int .i64 (fkd k)) := T0.out.cell (i := 1) (by omega)
  have q2 : w1.cell? ⟨X, 2, none⟩ = some (.int .i64 2) := T0.out.cell (i := 2) (by omega)
  have q3 : w1.cell? ⟨X, 3, none⟩ = some (.int .i64 ((fpw k : Nat) : Int)) := T0.out.cell (i := 3) (by omega)
  have q4 : w1.cell? ⟨X, 4, none⟩ = some (.int .i64 (fg0 k)) := T0.out.cell (i := 4) (by omega)
  have q5 : w1.cell? ⟨X, 5, none⟩ = some (.slice (some ⟨a, 0, none⟩) (fsz k).length (fsz k).length) := T0.out.cell (i := 5) (by omega)
  have q6 : w1.cell? ⟨X, 6, none⟩ = some (.int .i64 (fco k)) := T0.out.cell (i := 6) (by omega)
  have q7 : w1.cell? ⟨X, 7, none⟩ = some (.slice (some ⟨c, 0, none⟩) (flv k).length (flv k).length) := T0.out.cell (i := 7) (by omega)
  by_cases hk2 : k ≤ 2
  · rw [decide_eq_true hk2] at hkd
    rw [if_pos hk2] at HT
    clear hk2
    go_wp2_with fail
    go_ret
    exact ⟨by rw [HT.out]; rfl, hX ▸ B0.out⟩
  · rw [decide_eq_false hk2] at hkd
    rw [if_neg hk2] at HT
    clear hk2
    go_wp2_with fail
    go_ret
    exact ⟨by rw [HT.out]; rfl, hX ▸ B0.out⟩
set_option maxHeartbeats 4000000 in
theorem l18Cols_any {k : Nat} (hk : k < 5) (a c : Nat) (n : Int) (w : World) :
    Calls Tryz.prog 52 #[fmV k a c, .int .i64 n] w fun e w' => e = .returned (.int .i64 (colI k n)) ∧ Below w.heap.size w w' := by
  have B0 := Lib.hid (below1 w (.cells (fcs k a c).toArray FmT))
  have T0 := Lib.hid (fm_boxT w k a c FmT)
  have hkd := fkd_eq1 k
  have hf := fco_bd hk
  have HT := Lib.hid (show colI k n = if k ≤ 2 then n else 15 + 11 * (fco k + 2) from rfl)
  go_enter Tryz.func52, Tryz.ntmps52
  obtain ⟨X, hX⟩ : ∃ X, w.heap.size = X := ⟨_, rfl⟩
  obtain ⟨w1, hw1⟩ : ∃ w1, w.alloc (.cells (fcs k a c).toArray FmT) = w1 := ⟨_, rfl⟩
  rw [hw1, hX] at T0
  rw [hw1] at B0
  have hX1 := T0.out.lt
  have q1 : w1.cell? ⟨X, 1, none⟩ = some (.int .i64 (fkd k)) := T0.out.cell (i := 1) (by omega)
  have q6 : w1.cell? ⟨X, 6, none⟩ = some (.int .i64 (fco k)) := T0.out.cell (i := 6) (by omega)
  generalize fco k = f at *
  by_cases hk2 : k ≤ 2
  · rw [decide_eq_true hk2] at hkd
    rw [if_pos hk2] at HT
    clear hk2
    go_wp2_with fail
    go_ret
    exact ⟨by rw [HT.out]; rfl, hX ▸ B0.out⟩
  · rw [decide_eq_false hk2] at hkd
    rw [if_neg hk2] at HT
    clear hk2
    go_wp2_with fail
    go_ret
    exact ⟨by rw [HT.out]; rfl, hX ▸ B0.out⟩
end Go.Proofs.YtdcmebegnekkcaaGreat
