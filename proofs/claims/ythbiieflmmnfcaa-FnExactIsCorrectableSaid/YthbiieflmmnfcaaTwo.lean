/-
  Two owned rows side by side. l05Has. The reference's correction.
-/
import Derived.Test.YthbiieflmmnfcaaDecR
import Derived.Maps.AppendAt
import Derived.OneCell
namespace Go.Proofs.Ythbiieflmmnfcaa
open Go.RowKit
set_option linter.unusedVariables false

/-- Two owned rows in different blocks. -/
structure Two (w : World) (B : Nat) (v v2 : Value) (zs zs2 : List Int) : Prop where
  one : OwnL w B v zs
  two : OwnL w B v2 zs2
  dis : ∀ k, v.ownBlock = some k → v2.ownBlock ≠ some k
theorem Two.symm {w : World} {B : Nat} {v v2 : Value} {zs zs2 : List Int} (h : Two w B v v2 zs zs2) : Two w B v2 v zs2 zs := ⟨h.two, h.one, fun k h1 h2 => h.dis k h2 h1⟩
theorem Two.below {w w' : World} {B : Nat} {v v2 : Value} {zs zs2 : List Int} (h : Two w B v v2 zs zs2) (hb : Below w.heap.size w w') : Two w' B v v2 zs zs2 := ⟨h.one.below hb, h.two.below hb, h.dis⟩
theorem append_one_two {W0 : World} {ops : Array Oper} {rest : List Oper} {o : Oper} {a : Act} {Q : Exit → Act → World → Prop} (hgd : o.guard = none) (s x : Operand) (t : TypeId)
    (ho : o.op = .call { callee := .builtin .append, args := #[s, x], argTypes := #[t, t] }) (ht : Try.prog.underlying t = some (.slice 2))
    {B : Nat} {v v2 : Value} {zs zs2 : List Int} (z : Int) (hown : Two W0 B v v2 zs zs2) (hs : a.eval s = v) (b : Nat) (hb : b = W0.heap.size) (hx : a.eval x = .slice (some ⟨b, 0, none⟩) 1 1) (hn : zs.length ≤ 16777216)
    (h : ∀ v' w', Two w' B v' v2 (zs ++ [z]) zs2 → Below B W0 w' → wpList Try.prog ops Q rest (a.put o.dst v') w') : wpList Try.prog ops Q (o :: rest) a (W0.alloc (.cells #[.int .i64 z] 2)) := by
  subst hb
  obtain ⟨i0, hi, hz0, hz1, hz2⟩ := info_parts info_int
  obtain ⟨⟨hB, hown⟩, ⟨-, hown2⟩, hdis⟩ := hown
  refine wpList_append_own_at _ hgd s x t ho B 2 i0 (.int .i64 0) 1 8 ht hi hz0 hz1 hz2 rfl (by decide) v zs.length (zs.map (Value.int .i64)) hs (hown.alloc _) ⟨W0.heap.size, 0, none⟩ 1 1 [.int .i64 z] hx rfl ?_ ?_ (by unfold maxLen; omega) (by omega) (by simp; omega) ?_
  · intro j u hj
    match j, hj with
    | 0, hj => simp at hj; subst hj; simp [Addr.add, go_sem]
  · intro u hu; simp at hu; subst hu; rfl
  · intro v' w' h1 hg _ hat
    have hsz : B ≤ w'.heap.size := by have := hg.size; simp at this; omega
    refine h v' w' ⟨⟨hsz, by simpa using h1⟩, ⟨hsz, (hown2.alloc _).kept hg ?_⟩, ?_⟩ (append_below hB hg (fun k hk => (hown.lt k hk).1))
    · cases h2 : v2.ownBlock with
      | none => exact .inl rfl
      | some k => exact .inr fun e => hdis k e.symm h2
    · intro k hk hk2
      rcases hat with e | e
      · exact hdis k (by rw [← e]; exact hk) hk2
      · have h3 := (hown2.lt k hk2).2
        rw [e] at hk
        simp at hk; omega
/-- Whether a list has a number. -/
def memB (zs : List Int) (x : Int) : Bool := zs.contains x
theorem l05Has_any (w : World) {a : Option Addr} {n cap : Nat} {zs : List Int} (hr : RowAt w a n zs) (x : Int) :
    Calls Try.prog 137 #[.slice a n cap, .int .i64 x] w fun e w' => e = .returned (.bool (memB zs x)) ∧ w = w' := by
  have HR := Lib.hid hr
  have hl := Lib.hid hr.len
  have hsm := hr.small
  clear hr
  go_enter Try.func137, Try.ntmps137
  go_wp2_with fail
  go_loop [5] (fun t => ∃ k : Nat, k ≤ n ∧ t = .int .i64 k ∧ Hid (∀ j, j < k → gi zs j ≠ x)) (fun t => n - (intOf t).toNat)
  case atStart => exact ⟨0, by omega, rfl, fun j hj => by omega⟩
  case round =>
    obtain ⟨k, hk, rfl, hall⟩ := hrel
    by_cases hlt : k < n
    · obtain ⟨b1, o1, rfl, hb1, hcs⟩ := HR.out.at' (by omega)
      have hcell := hcs k hlt
      clear hcs
      by_cases hz : gi zs k = x
      · have hzb : (gi zs k == x) = true := by simp [hz]
        have hf := Lib.hid (show memB zs x = true by unfold memB; rw [List.contains_iff_mem, ← hz]; exact gi_mem (by rw [hl.out]; exact hlt))
        clear hz
        go_wp2_with fail
        go_ret
        exact ⟨ret_bool hf.out.symm, rfl⟩
      · have hzb : (gi zs k == x) = false := by simp [hz]
        have hall2 : Hid (∀ j, j < k + 1 → gi zs j ≠ x) := Lib.hid fun j hj => by
          rcases Nat.lt_or_ge j k with h | h
          · exact hall.out j h
          · obtain rfl : j = k := by omega
            exact hz
        clear hz
        go_wp2_with fail
        go_round
        case rel => exact ⟨k + 1, by omega, by go_num, hall2⟩
        case measure => simp [intOf]; omega
    · have hf := Lib.hid (show memB zs x = false from by
        unfold memB
        cases h : zs.contains x
        · rfl
        · obtain ⟨j, hj, e⟩ := mem_gi (List.contains_iff_mem.1 h)
          exact absurd e (hall.out j (by have := hl.out; omega)))
      go_wp2_with fail
      go_ret
      exact ⟨ret_bool hf.out.symm, rfl⟩
end Go.Proofs.Ythbiieflmmnfcaa
