/-
  The walk of berlekamp.
-/
import Derived.Test.YtcjkmfhnlggohaaGreatTwo
import Derived.Test.YtcjkmfhnlggohaaGreatCorI
import Derived.Test.YtcjkmfhnlggohaaGreatRegs
import Derived.Laws.CopyOwn
namespace Go.Proofs.YtcjkmfhnlggohaaGreat
open Go.RowKit
set_option linter.unusedVariables false

theorem padL_map (C : Nat) (p : List Int) (cur : List Value) (hl : p.length ≤ C) (hc : cur.take C = (List.replicate C (0 : Int)).map (Value.int .i64)) :
    (splice cur 0 (p.map (Value.int .i64))).take C = (padL C p).map (Value.int .i64) := by
  apply List.ext_getElem?
  intro i
  unfold splice padL
  rw [List.take_zero, List.nil_append, List.length_map, Nat.zero_add]
  rcases Nat.lt_or_ge i C with h | h
  · rw [List.getElem?_take, if_pos h]
    rcases Nat.lt_or_ge i p.length with h1 | h1
    · rw [List.getElem?_append_left (by simpa using h1), List.map_append, List.getElem?_append_left (by simpa using h1)]
    · rw [List.getElem?_append_right (by simpa using h1), List.map_append, List.getElem?_append_right (by simpa using h1)]
      rw [List.length_map, List.getElem?_drop, show p.length + (i - p.length) = i by omega]
      have h2 : (cur.take C)[i]? = ((List.replicate C (0 : Int)).map (Value.int .i64))[i]? := by rw [hc]
      rw [List.getElem?_take, if_pos h] at h2
      rw [h2, List.getElem?_map, List.getElem?_map, List.getElem?_replicate, List.getElem?_replicate, if_pos h, if_pos (by omega)]
  · rw [List.getElem?_eq_none (by simp; omega), List.getElem?_eq_none (by simp; omega)]
/-- 'copy' over zeros of the call's own. -/
theorem copy_pad {w : World} {ops : Array Oper} {rest : List Oper} {o : Oper} {a : Act} {Q : Exit → Act → World → Prop} (hgd : o.guard = none) (d s : Operand) (dT sT : TypeId)
    (ho : o.op = .call { callee := .builtin .copy, args := #[d, s], argTypes := #[dT, sT] }) (ht : Tryz.prog.underlying dT = some (.slice 2))
    {B : Nat} {v : Value} {C : Nat} (hown : OwnL w B v (List.replicate C 0)) (hd : a.eval d = v) {sp : Option Addr} {m cap : Nat} {p : List Int} (hr : RowAt w sp m p) (hs : a.eval s = .slice sp m cap) (hm : m ≤ C)
    (h : ∀ w', OwnL w' B v (padL C p) → Below B w w' → wpList Tryz.prog ops Q rest (a.put o.dst (goInt m)) w') : wpList Tryz.prog ops Q (o :: rest) a w := by
  have hsz : (Tryz.prog.info? 2).map (·.size) = some 1 := by kernel_rfl
  have hpl := hr.len
  obtain ⟨hB, hl, h2⟩ := hown
  have hrl : (List.replicate C (0 : Int)).length = C := by simp
  rcases h2 with ⟨rfl, h0⟩ | ⟨g, cp, cur, rfl, hg, hh, hc, hmx, hsz2, htk⟩
  · rw [hrl] at h0
    subst h0
    obtain rfl : m = 0 := by omega
    obtain rfl : p = [] := List.eq_nil_of_length_eq_zero hpl
    refine wpList_copy_nothing hgd d s dT sT ho 2 ht hsz none sp 0 0 0 cap hd hs rfl ?_
    exact h w (by have := OwnL.nil w B hB; exact this) (Below.refl _ _)
  · rw [hrl] at hc hd htk
    rw [Nat.mul_one] at hsz2 htk
    have hcs : cur.toList.length = cp := by rw [← hsz2]; simp
    refine wpList_copy_splice hgd d s dT sT ho 2 ht hsz (some ⟨g, 0, none⟩) sp C cp m cap hd hs g 0 cur.toList 2 (by simpa using hh) (p.map (Value.int .i64)) (by rw [List.length_map, hpl]; exact (Nat.min_eq_left hm).symm) ?_ (by simp; omega) ?_ B w (Below.refl _ _) hg ?_
    · intro hp
      rw [List.length_map, hpl] at hp
      obtain ⟨b1, o1, e, hb1, hcl⟩ := hr.at' hp
      refine ⟨rfl, _, e, fun j u hj => ?_⟩
      rw [List.getElem?_map] at hj
      rcases Nat.lt_or_ge j p.length with h1 | h1
      · rw [List.getElem?_eq_getElem h1] at hj
        simp only [Option.map_some, Option.some.injEq] at hj
        have := hcl j (by omega)
        unfold gi at this
        rw [List.getD_eq_getElem?_getD, List.getElem?_eq_getElem h1] at this
        rw [← hj]
        by_cases h0 : j = 0
        · subst h0; simpa [Addr.add] using this
        · simpa [Addr.add, h0] using this
      · rw [List.getElem?_eq_none h1] at hj; cases hj
    · intro u hu
      obtain ⟨z, _, rfl⟩ := List.mem_map.1 hu
      rfl
    · intro w' hg2 hb2
      rw [List.length_map, hpl]
      refine h w' ⟨Nat.le_trans hB hb2.size, ?_, .inr ⟨g, cp, _, ?_, hg, hg2.out, ?_, hmx, ?_, ?_⟩⟩ hb2
      · simp
      · rw [padL_length (by omega), hrl]
      · rw [padL_length (by omega)]; exact hc
      · rw [List.size_toArray, length_splice _ _ _ (by simp; omega), hcs, Nat.mul_one]
      · rw [padL_length (by omega), Nat.mul_one]
        show (splice cur.toList 0 _).take C = _
        exact padL_map C p cur.toList (by omega) htk
theorem OwnL.row0 {w : World} {B n cp : Nat} {a : Option Addr} {zs : List Int} (h : OwnL w B (.slice a n cp) zs) : RowAt w a n zs := by
  obtain ⟨_, _, e, -, h2⟩ := h.shape
  simp only [Value.slice.injEq] at e
  obtain ⟨rfl, rfl, -⟩ := e
  exact h2.row
set_option maxHeartbeats 8000000 in
set_option maxRecDepth 100000 in
theorem berlekamp_any {V : VF} {p pw g c : Int} {L : Nat} (hs : SC V p pw g L c) {w : World} {b : Nat} (hcod : Cod w b p pw g L c) {a : Option Addr} {n cap : Nat} {S : List Int} (hr : RowAt w a n S) (hcap : n ≤ cap) (hz : VF.els V S) (hn : (n : Int) = c)
    {a' : Option Addr} {n' cap' : Nat} {E : List Int} (hr' : RowAt w a' n' E) (hris : RisTo 0 ((L : Int) - 1) E n') (hen : n' ≤ n) :
    Calls Tryz.prog 27 #[.pointer (some ⟨b, 0, none⟩), .slice a n cap, .slice a' n' cap'] w fun e w' => ∃ v, e = .returned v ∧ Below w.heap.size w w' ∧ OwnL w' w.heap.size v (VF.lst V (bm V (VF.ps V (berL V L n S E)) (n - E.length)).now) := by
  obtain ⟨_, hc1, hc2, hcl, hl1, hlz⟩ := validC_iff hs.valid
  obtain rfl : c = (n : Int) := hn.symm
  have HCOD := Lib.hid hcod
  have hlen := Lib.hid hr'.len
  have HMO := Lib.hid (modified_any hs hcod (cap := cap) hr hcap hz rfl (cap' := cap') hr' hris)
  have hmk := fun w => run_make_ints w 28 Tryz.underlying28 (n : Int) (by omega) (by omega)
  simp only [Int.toNat_natCast] at hmk
  have homl := omL_len V L n S E
  have HBE := Lib.hid (berL_els (V := V) (L := L) (c := n) (S := S) (E := E))
  have HBD := Lib.hid (show (padL n (omL V L n S E)).drop n' = berL V L n S E by unfold berL; rw [hlen.out])
  have HBL := Lib.hid (padL_length homl)
  clear hcod hr hr' hz hris
  rw [hlen.out]
  go_enter Tryz.func27, Tryz.ntmps27
  go_wp2_with fail
  refine HMO.out.mono ?_
  rintro e w2 ⟨v2, rfl, hb2, ho2⟩
  obtain ⟨a2, c2, rfl, -, h2⟩ := ho2.shape
  have HB3 := Lib.hid (hb2.trans ((below1 w2 (.cells (madeCells #[.int .i64 0] n) 2)).mono hb2.size))
  have HZ3 := Lib.hid (OwnL.zeros w2 w2.heap.size (Nat.le_refl _) n (by omega))
  have HR3 := Lib.hid (h2.row.below' (below1 w2 (.cells (madeCells #[.int .i64 0] n) 2)))
  have hck := (HCOD.out.below hb2).chk
  have hs2 := hb2.size
  generalize omL V L n S E = om at *
  obtain ⟨lm, hlm⟩ : ∃ lm, om.length = lm := ⟨_, rfl⟩
  rw [hlm] at HR3 homl ⊢
  clear hb2 ho2 h2 hlm HMO
  go_wp2_with (with_reducible show wpList _ _ _ (Oper.mk _ (Op.call { callee := Callee.builtin Builtin.copy, args := _, argTypes := _ }) _ _ _ _ :: _) _ _; refine copy_pad rfl _ _ _ _ rfl Tryz.underlying28 HZ3.out rfl HR3.out rfl homl ?_; intro w4 ho4 hb4)
  have HO4 := Lib.hid ho4
  have HB4 := Lib.hid (HB3.out.trans (hb4.mono hs2))
  obtain ⟨bc, hc0, hcal⟩ := (HCOD.out.below HB4.out).calV hs.sf
  have h1 := (part_row ho4.row0 (fun h => by cases h) n' n hen (Nat.le_refl _) (Nat.le_refl _)).1
  rw [HBD.out, List.take_of_length_le (by rw [berL_length, hlen.out]; exact Nat.le_refl _)] at h1
  have hck4 := (HCOD.out.below HB4.out).chk
  have hnn : (n' : Int) ≤ (n : Int) := by omega
  have HRG := Lib.hid (fun W (hd : Drew w4 W) (aa : Option Addr) (cc : Nat) (hrow : RowAt W aa (n - n') (berL V L n S E)) => register_any (hd.cal hcal) (cap := cc) hrow (by omega) HBE.out)
  by_cases hcn : n = n'
  · rw [if_pos hcn] at h1
    subst hcn
    have HP := Lib.hid (fun W (hd : Drew w4 W) => HRG.out W hd _ 0 (h1.below' (hd.below _)))
    rw [Nat.sub_self] at HP
    clear h1 ho4 hb4 hcal hmk HRG
    go_region_held3 (fun w' => w'.cell? ⟨b, 0, none⟩ = some (.pointer (some ⟨bc, 0, none⟩)))
      (first | go_keep | exact keep_cell hb5 (by assumption))
      (first | (go_at_call 64; with_reducible refine (HP.out _ (drew1 w4)).mono ?_; rintro e w5 ⟨v5, rfl, hb5, ho5⟩))
    have hd5 : Below w4.heap.size w4 w5 := (Drew.below (drew1 w4) _).trans hb5
    have HB5 := Lib.hid (HB4.out.trans (hd5.mono HB4.out.size))
    have HO5 := Lib.hid (ho5.lower (C := w.heap.size) HB4.out.size)
    clear hb5 ho5 hd5
    go_wp2_with fail
    go_ret
    exact ⟨v5, rfl, HB5.out, by first | exact HO5.out | (rw [Nat.sub_self]; exact HO5.out)⟩
  · rw [if_neg hcn, show Option.map (fun x : Addr => x.add n') (some ⟨w2.heap.size, 0, none⟩) = some ⟨w2.heap.size, n', none⟩ by by_cases h0 : n' = 0 <;> simp [Addr.add, h0]] at h1
    have HP := Lib.hid (fun W (hd : Drew w4 W) => HRG.out W hd _ (n - n') (h1.below' (hd.below _)))
    clear h1 ho4 hb4 hcal hmk HRG
    go_region_held3 (fun w' => w'.cell? ⟨b, 0, none⟩ = some (.pointer (some ⟨bc, 0, none⟩)))
      (first | go_keep | exact keep_cell hb5 (by assumption))
      (first | (go_at_call 64; with_reducible refine (HP.out _ (drew1 w4)).mono ?_; rintro e w5 ⟨v5, rfl, hb5, ho5⟩))
    have hd5 : Below w4.heap.size w4 w5 := (Drew.below (drew1 w4) _).trans hb5
    have HB5 := Lib.hid (HB4.out.trans (hd5.mono HB4.out.size))
    have HO5 := Lib.hid (ho5.lower (C := w.heap.size) HB4.out.size)
    clear hb5 ho5 hd5
    go_wp2_with fail
    go_ret
    exact ⟨v5, rfl, HB5.out, by first | exact HO5.out | (rw [Nat.sub_self]; exact HO5.out)⟩
end Go.Proofs.YtcjkmfhnlggohaaGreat
