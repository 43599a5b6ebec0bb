/-
  The walk of berlekamp.
-/
import Derived.Test.YtfhkkpfiflgofaaTwo
import Derived.Test.YtfhkkpfiflgofaaCorI
import Derived.Test.YtfhkkpfiflgofaaRegs
import Derived.Laws.CopyOwn
namespace Go.Proofs.Ytfhkkpfiflgofaa
open Go.RowKit
set_option linter.unusedVariables false

theorem padL_map (C : Nat) (p : List Int) (cur : List Value) (hl : p.length ≤ C) (hc : cur.take C = (List.replicate C (0 : Int)).map (Value.int .i64)) :
    (splice cur 0 (p.map (Value.int .i64))).take C = (padL C p).map (Value.int .i64) := by
  apply List.ext_getElem?
  intro i
  unfold splice padL
  rw [List.take_zero, List.nil_append, List.length_map, Nat.zero_add]
  rcases Nat.lt_or_ge i C with h | h
  · rw [List.getElem?_take, if_pos h]
    rcases Nat.lt_or_ge i p.length with h1 | h1
    · rw [List.getElem?_append_left (by simpa using h1), List.map_append, List.getElem?_append_left (by simpa using h1)]
    · rw [List.getElem?_append_right (by simpa using h1), List.map_append, List.getElem?_append_right (by simpa using h1)]
      rw [List.length_map, List.getElem?_drop, show p.length + (i - p.length) = i by omega]
      have h2 : (cur.take C)[i]? = ((List.replicate C (0 : Int)).map (Value.int .i64))[i]? := by rw [hc]
      rw [List.getElem?_take, if_pos h] at h2
      rw [h2, List.getElem?_map, List.getElem?_map, List.getElem?_replicate, List.getElem?_replicate, if_pos h, if_pos (by omega)]
  · rw [List.getElem?_eq_none (by simp; omega), List.getElem?_eq_none (by simp; omega)]
/-- 'copy' over zeros of the call's own. -/
theorem copy_pad {w : World} {ops : Array Oper} {rest : List Oper} {o : Oper} {a : Act} {Q : Exit → Act → World → Prop} (hgd : o.guard = none) (d s : Operand) (dT sT : TypeId)
    (ho : o.op = .call { callee := .builtin .copy, args := #[d, s], argTypes := #[dT, sT] }) (ht : Try.prog.underlying dT = some (.slice 2))
    {B : Nat} {v : Value} {C : Nat} (hown : OwnL w B v (List.replicate C 0)) (hd : a.eval d = v) {sp : Option Addr} {m cap : Nat} {p : List Int} (hr : RowAt w sp m p) (hs : a.eval s = .slice sp m cap) (hm : m ≤ C)
    (h : ∀ w', OwnL w' B v (padL C p) → Below B w w' → wpList Try.prog ops Q rest (a.put o.dst (goInt m)) w') : wpList Try.prog ops Q (o :: rest) a w := by
  have hsz : (Try.prog.info? 2).map (·.size) = some 1 := by kernel_rfl
  have hpl := hr.len
  obtain ⟨hB, hl, h2⟩ := hown
  have hrl : (List.replicate C (0 : Int)).length = C := by simp
  rcases h2 with ⟨rfl, h0⟩ | ⟨g, cp, cur, rfl, hg, hh, hc, hmx, hsz2, htk⟩
  · rw [hrl] at h0
    subst h0
    obtain rfl : m = 0 := by omega
    obtain rfl : p = [] := List.eq_nil_of_length_eq_zero hpl
    refine wpList_copy_nothing hgd d s dT sT ho 2 ht hsz none sp 0 0 0 cap hd hs rfl ?_
    exact h w (by have := OwnL.nil w B hB; exact this) (Below.refl _ _)
  · rw [hrl] at hc hd htk
    rw [Nat.mul_one] at hsz2 htk
    have hcs : cur.toList.length = cp := by rw [← hsz2]; simp
    refine wpList_copy_splice hgd d s dT sT ho 2 ht hsz (some ⟨g, 0, none⟩) sp C cp m cap hd hs g 0 cur.toList 2 (by simpa using hh) (p.map (Value.int .i64)) (by rw [List.length_map, hpl]; exact (Nat.min_eq_left hm).symm) ?_ (by simp; omega) ?_ B w (Below.refl _ _) hg ?_
    · intro hp
      rw [List.length_map, hpl] at hp
      obtain ⟨b1, o1, e, hb1, hcl⟩ := hr.at' hp
      refine ⟨rfl, _, e, fun j u hj => ?_⟩
      rw [List.getElem?_map] at hj
      rcases Nat.lt_or_ge j p.length with h1 | h1
      · rw [List.getElem?_eq_getElem h1] at hj
        simp only [Option.map_some, Option.some.injEq] at hj
        have := hcl j (by omega)
        unfold gi at this
        rw [List.getD_eq_getElem?_getD, List.getElem?_eq_getElem h1] at this
        rw [← hj]
        by_cases h0 : j = 0
        · subst h0; simpa [Addr.add] using this
        · simpa [Addr.add, h0] using this
      · rw [List.getElem?_eq_none h1] at hj; cases hj
    · intro u hu
      obtain ⟨z, _, rfl⟩ := List.mem_map.1 hu
      rfl
    · intro w' hg2 hb2
      rw [List.length_map, hpl]
      refine h w' ⟨Nat.le_trans hB hb2.size, ?_, .inr ⟨g, cp, _, ?_, hg, hg2.out, ?_, hmx, ?_, ?_⟩⟩ hb2
      · simp
      · rw [padL_length (by omega), hrl]
      · rw [padL_length (by omega)]; exact hc
      · rw [List.size_toArray, length_splice _ _ _ (by simp; omega), hcs, Nat.mul_one]
      · rw [padL_length (by omega), Nat.mul_one]
        show (splice cur.toList 0 _).take C = _
        exact padL_map C p cur.toList (by omega) htk
theorem OwnL.row0 {w : World} {B n cp : Nat} {a : Option Addr} {zs : List Int} (h : OwnL w B (.slice a n cp) zs) : RowAt w a n zs := by
  obtain ⟨_, _, e, -, h2⟩ := h.shape
  simp only [Value.slice.injEq] at e
  obtain ⟨rfl, rfl, -⟩ := e
  exact h2.row
end Go.Proofs.Ytfhkkpfiflgofaa
