/-
  The parts DecU, Dmg.
-/
import Derived.Test.YtfhkkpfiflgofaaTwo
import Derived.Test.YtfhkkpfiflgofaaCorW
import Derived.BigQuiet
/-
  At most one code word is near enough; code words differ at more indices than there are check elements. Plain mathematics.
-/
namespace Go.Proofs.Ytfhkkpfiflgofaa
set_option linter.unusedVariables false
variable {V : VF}

theorem Dec.unique {L c : Nat} (hL : (L : Int) < V.F.size) (hc : c ≤ 64) {word E o o' : List Int} (hw : VF.els V word) (hwl : word.length = L) (hE : RisTo 0 ((L : Int) - 1) E E.length) (h : Dec V L c word E o) (h' : Dec V L c word E o') : o = o' := by
  have hdm := h.dmg
  have hdm' := h'.dmg
  have hf := ber_fok hL hc hw hwl hE (c := c) (by omega)
  have e1 := (impl_ok hL hw hwl hE h hf).2
  have e2 := (impl_ok hL hw hwl hE h' hf).2
  have hpl := plL_len (errs_ris L word E o) hE
  have o1 := (h.out (pl := plL L (errs L word E o) E L) hL hw hwl (plL_ris _ _ _) (by omega) cover).2
  have hpl' := plL_len (errs_ris L word E o') hE
  have o2 := (h'.out (pl := plL L (errs L word E o') E L) hL hw hwl (plL_ris _ _ _) (by omega) cover).2
  rw [← e1] at o1
  rw [← e2] at o2
  exact o1.symm.trans o2
theorem Dec.fix {L c : Nat} (hL : (L : Int) < V.F.size) (hc : c ≤ 64) {word E o : List Int} (hw : VF.els V word) (hwl : word.length = L) (hE : RisTo 0 ((L : Int) - 1) E E.length) (h : Dec V L c word E o) : fixB V L c word E = true ∧ fixO V L c word E = o :=
  ⟨fix_of h, Dec.unique hL hc hw hwl hE (fix_spec (fix_of h)) h⟩
end Go.Proofs.Ytfhkkpfiflgofaa
/-
  The walks of the two DamageOf, and the plain laws of damage.
-/
namespace Go.Proofs.Ytfhkkpfiflgofaa
open Go.RowKit
set_option linter.unusedVariables false

/-- Twice the indices below k, outside E, at which two words differ, and the number of E. -/
def dmgN (W o E : List Int) (k : Nat) : Int := (E.length : Int) + 2 * ((filtL (fun i => (gi W i != gi o i) && !memB E (i : Int)) k).length : Int)
noncomputable def dmgR (p pw g l c : Int) (W o E : List Int) : Int := if dmC p pw g l c [W, o] E = 0 then dmgN W o E W.length else 0
theorem hasInt_any (w : World) {a : Option Addr} {n cap : Nat} {zs : List Int} (hr : RowAt w a n zs) (x : Int) :
    Calls Try.prog 46 #[.slice a n cap, .int .i64 x] w fun e w' => e = .returned (.bool (memB zs x)) ∧ w = w' := by
  have HR := Lib.hid hr
  have hl := Lib.hid hr.len
  have hsm := hr.small
  clear hr
  go_enter Try.func46, Try.ntmps46
  go_wp2_with fail
  go_loop [5] (fun t => ∃ k : Nat, k ≤ n ∧ t = .int .i64 k ∧ Hid (∀ j, j < k → gi zs j ≠ x)) (fun t => n - (intOf t).toNat)
  case atStart => exact ⟨0, by omega, rfl, fun j hj => by omega⟩
  case round =>
    obtain ⟨k, hk, rfl, hall⟩ := hrel
    by_cases hlt : k < n
    · obtain ⟨b1, o1, rfl, hb1, hcs⟩ := HR.out.at' (by omega)
      have hcell := hcs k hlt
      clear hcs
      by_cases hz : gi zs k = x
      · have hzb : (gi zs k == x) = true := by simp [hz]
        have hf := Lib.hid (show memB zs x = true by unfold memB; rw [List.contains_iff_mem, ← hz]; exact gi_mem (by rw [hl.out]; exact hlt))
        clear hz
        go_wp2_with fail
        go_ret
        exact ⟨ret_bool hf.out.symm, rfl⟩
      · have hzb : (gi zs k == x) = false := by simp [hz]
        have hall2 : Hid (∀ j, j < k + 1 → gi zs j ≠ x) := Lib.hid fun j hj => by
          rcases Nat.lt_or_ge j k with h | h
          · exact hall.out j h
          · obtain rfl : j = k := by omega
            exact hz
        clear hz
        go_wp2_with fail
        go_round
        case rel => exact ⟨k + 1, by omega, by go_num, hall2⟩
        case measure => simp [intOf]; omega
    · have hf := Lib.hid (show memB zs x = false from by
        unfold memB
        cases h : zs.contains x
        · rfl
        · obtain ⟨j, hj, e⟩ := mem_gi (List.contains_iff_mem.1 h)
          exact absurd e (hall.out j (by have := hl.out; omega)))
      go_wp2_with fail
      go_ret
      exact ⟨ret_bool hf.out.symm, rfl⟩
/-- Elements of a field. -/
def VFels (F : FF) (zs : List Int) : Prop := ∀ z ∈ zs, F.el z
theorem VFels_set {F : FF} {zs : List Int} (h : VFels F zs) (k : Nat) {y : Int} (hy : F.el y) : VFels F (zs.set k y) := fun z hz => by
  rcases List.mem_or_eq_of_mem_set hz with h1 | h1
  · exact h z h1
  · subst h1; exact hy
theorem icwB_zero {p pw g l c : Int} {o : List Int} (h : icwB p pw g l c o = true) : codeC p pw g l c [o] = 0 ∧ ∀ j, j < c.toNat → svTo (ffOf p pw g) o ((ffOf p pw g).exp (j + 1)) o.length = 0 := by
  unfold icwB at h
  rw [Bool.and_eq_true, decide_eq_true_eq] at h
  refine ⟨h.1, fun j hj => Classical.byContradiction fun hne => ?_⟩
  rw [← syn_gi (ffOf p pw g) o hj] at hne
  rw [zeroB_not (by rw [syn_length]; exact hj) hne] at h
  exact Bool.noConfusion h.2
end Go.Proofs.Ytfhkkpfiflgofaa
