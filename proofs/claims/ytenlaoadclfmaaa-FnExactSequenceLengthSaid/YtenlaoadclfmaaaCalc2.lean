/-
  The walks of inverse and powers, out of a field's tables.
-/
import Derived.Test.YtenlaoadclfmaaaCalc
namespace Go.Proofs.Ytenlaoadclfmaaa
open Go.RowKit
set_option linter.unusedVariables false

theorem inv_any {w : World} {b : Nat} {F : FF} (hc : Cal w b F) (x : Int) (hx : F.el x) (hx0 : x ≠ 0) :
    Calls Try.prog 81 #[.pointer (some ⟨b, 0, none⟩), .int .i64 x] w fun e w' => e = .returned (.int .i64 (F.inv x)) ∧ ∃ n, w' = w.drewN n := by
  obtain ⟨ok, _, hb, hs, he, hl⟩ := hc
  have hlo := ok.lo
  have hhi := ok.hi
  have h1 := hl x hx hx0
  have hlx := FF.log_lt ok hx hx0
  have hN := FF.N_size ok
  have hm : (F.N - F.log x) % F.N < F.N := Nat.mod_lt _ (by omega)
  have h3 := he _ hm
  have hf := Lib.hid (show F.inv x = F.exp ((F.N - F.log x) % F.N) from rfl)
  obtain ⟨hxl, hxu⟩ := hx
  clear he hl hx0 ok hb
  generalize F.exp ((F.N - F.log x) % F.N) = r at *
  generalize hmm : (F.N - F.log x) % F.N = m at *
  generalize F.log x = lx at *
  have e1 : (F.size - 1 - (lx : Int)).tmod (F.size - 1) = (m : Int) := by
    rw [IntWalk.rem_in _ _ (by omega), ← hN, ← hmm, Int.natCast_emod, Int.natCast_sub (by omega)]
  clear hmm
  generalize F.size = sz at *
  generalize F.N = N at *
  have hm2 : m < 1021 := by omega
  have w1 : IntKind.i64.wrap (sz - 1 - (lx : Int)) = sz - 1 - (lx : Int) := IntWalk.i64_in _ (by omega)
  have w2 : IntKind.i64.wrap (sz - 1) = sz - 1 := IntWalk.i64_in _ (by omega)
  have w3 : ¬ sz - 1 = 0 := by omega
  have w4 : ¬ sz = 1 := by omega
  have hx1 : x < 1021 := by omega
  clear hN hlx hm hlo hhi hxu
  go_enter Try.func81, Try.ntmps81
  go_wp2
  go_quiet (fail)
  go_wp2
  go_ret
  exact ⟨ret_int hf.out.symm, _, rfl⟩
theorem power_any {w : World} {b : Nat} {F : FF} (hc : Cal w b F) (n : Int) (hn0 : 0 ≤ n) :
    Calls Try.prog 115 #[.pointer (some ⟨b, 0, none⟩), .int .i64 n] w fun e w' => e = .returned (.int .i64 (F.exp n.toNat)) ∧ ∃ n, w' = w.drewN n := by
  obtain ⟨ok, _, hb, hs, he, hl⟩ := hc
  have hlo := ok.lo
  have hhi := ok.hi
  have hN := FF.N_size ok
  have hm : n.toNat % F.N < F.N := Nat.mod_lt _ (by omega)
  have h3 := he _ hm
  have hf := Lib.hid (FF.exp_mod ok n.toNat)
  clear he hl ok hb
  have e1 : n.tmod (F.size - 1) = ((n.toNat % F.N : Nat) : Int) := by
    rw [IntWalk.rem_in _ _ (by omega), ← hN, Int.natCast_emod, Int.toNat_of_nonneg hn0]
  generalize F.exp (n.toNat % F.N) = r at *
  generalize n.toNat % F.N = m at *
  generalize F.size = sz at *
  generalize F.N = N at *
  have hm2 : m < 1021 := by omega
  have w2 : IntKind.i64.wrap (sz - 1) = sz - 1 := IntWalk.i64_in _ (by omega)
  have w3 : ¬ sz - 1 = 0 := by omega
  have w4 : ¬ sz = 1 := by omega
  clear hN hm hlo hhi
  go_enter Try.func115, Try.ntmps115
  go_wp2
  go_quiet (fail)
  go_wp2
  go_ret
  exact ⟨ret_int hf.out, _, rfl⟩
end Go.Proofs.Ytenlaoadclfmaaa
