/-
  The parts Fixi, Fixj.
-/
import Derived.Test.YtdcmebegnekkcaaGreatFixb
/-
  The fixed cells of a matrix size, in the program: the grid.
-/
namespace Go.Proofs.YtdcmebegnekkcaaGreat
open Go.RowKit
set_option linter.unusedVariables false

/-- Whether a cell is fixed, as the program says it. -/
def patP (n r c : Int) : Bool := in1 n r c || (r == 6 && inR c 8 (n - 9)) || (c == 6 && inR r 8 (n - 9)) || (r == n - 8 && c == 8)
def patK (j : Nat) (n r c : Int) : Bool := if j = 0 then in1 n r c else if j = 1 then (r == 6 && inR c 8 (n - 9)) else if j = 2 then (c == 6 && inR r 8 (n - 9)) else (r == n - 8 && c == 8)
def finK (j : Nat) : Nat := if j = 0 then 193 else if j = 1 then 198 else if j = 2 then 200 else 202
def fdkK (j : Nat) : Nat := if j = 0 then 196 else if j = 1 then 199 else if j = 2 then 201 else 203
theorem patP_yes {n r c : Int} {j : Nat} (hj : j < 4) (h : patK j n r c = true) : patP n r c = true := by
  rcases (show j = 0 ∨ j = 1 ∨ j = 2 ∨ j = 3 by omega) with rfl | rfl | rfl | rfl <;> (unfold patK at h; simp at h; unfold patP; simp [h])
theorem patP_no {n r c : Int} (h : ∀ j, j < 4 → patK j n r c = false) : patP n r c = false := by
  have h0 := h 0 (by omega)
  have h1 := h 1 (by omega)
  have h2 := h 2 (by omega)
  have h3 := h 3 (by omega)
  unfold patK at h0 h1 h2 h3
  rw [if_pos rfl] at h0
  rw [if_neg (by omega), if_pos rfl] at h1
  rw [if_neg (by omega), if_neg (by omega), if_pos rfl] at h2
  rw [if_neg (by omega), if_neg (by omega), if_neg (by omega)] at h3
  unfold patP
  rw [h0, h1, h2, h3]; rfl
theorem patIn_any {n r c : Int} (hn : 17 ≤ n ∧ n ≤ 41) (hr : 0 ≤ r ∧ r < n) (hc : 0 ≤ c ∧ c < n) {j : Nat} (hj : j < 4) (w : World) :
    Calls Tryz.prog (finK j) #[.int .i64 n, plV r c] w fun e w' => e = .returned (.bool (patK j n r c)) ∧ Below w.heap.size w w' := by
  rcases (show j = 0 ∨ j = 1 ∨ j = 2 ∨ j = 3 by omega) with rfl | rfl | rfl | rfl
  · exact pat1_any hn hr hc w
  · exact pat3_any hn hr hc w
  · exact pat5_any hn hr hc w
  · exact pat7_any hn w
theorem patDk_any {n r c : Int} (hn : 17 ≤ n ∧ n ≤ 41) (hr : 0 ≤ r ∧ r < n) (hc : 0 ≤ c ∧ c < n) {j : Nat} (hj : j < 4) (w : World) :
    Calls Tryz.prog (fdkK j) #[.int .i64 n, plV r c] w fun e w' => (∃ x, 0 ≤ x ∧ e = .returned (.int .i64 x)) ∧ Below w.heap.size w w' := by
  rcases (show j = 0 ∨ j = 1 ∨ j = 2 ∨ j = 3 by omega) with rfl | rfl | rfl | rfl
  · exact pat2_any hn hr hc w
  · exact pat4_any hn hr hc w
  · exact pat6_any hn hr hc w
  · exact pat8_any w
theorem enters_in {j : Nat} (hj : j < 4) (args : Array Value) (w : World) : (callFunc (finK j) args).run Tryz.prog w = .ok (.enter (finK j) args) w := by
  rcases (show j = 0 ∨ j = 1 ∨ j = 2 ∨ j = 3 by omega) with rfl | rfl | rfl | rfl <;> kernel_rfl
theorem enters_dk {j : Nat} (hj : j < 4) (args : Array Value) (w : World) : (callFunc (fdkK j) args).run Tryz.prog w = .ok (.enter (fdkK j) args) w := by
  rcases (show j = 0 ∨ j = 1 ∨ j = 2 ∨ j = 3 by omega) with rfl | rfl | rfl | rfl <;> kernel_rfl
theorem patC_in {j : Nat} (hj : j < 4) : patC[2 * j]! = .func (.func (finK j)) #[] #[] := by
  rcases (show j = 0 ∨ j = 1 ∨ j = 2 ∨ j = 3 by omega) with rfl | rfl | rfl | rfl <;> rfl
theorem patC_dk {j : Nat} (hj : j < 4) : patC[2 * j + 1]! = .func (.func (fdkK j)) #[] #[] := by
  rcases (show j = 0 ∨ j = 1 ∨ j = 2 ∨ j = 3 by omega) with rfl | rfl | rfl | rfl <;> rfl
/-- What the grid's cells say of the first cur places. -/
def FxZ (n cur : Nat) (zs : List Int) : Prop := zs.length = n * n ∧ (∀ j, j < cur → (0 ≤ gi zs j ↔ patP (n : Int) ((j / n : Nat) : Int) ((j % n : Nat) : Int) = true)) ∧ ∀ j, cur ≤ j → j < n * n → gi zs j = -1
theorem rc_div {n r c : Nat} (hc : c < n) : (r * n + c) / n = r ∧ (r * n + c) % n = c := by
  refine ⟨?_, ?_⟩
  · rw [Nat.add_comm, Nat.add_mul_div_right _ _ (by omega), Nat.div_eq_of_lt hc]; omega
  · rw [Nat.add_comm, Nat.add_mul_mod_self_right, Nat.mod_eq_of_lt hc]
theorem rc_lt {n r c : Nat} (hr : r < n) (hc : c < n) : r * n + c < n * n := by
  have := Nat.mul_le_mul_right n (show r + 1 ≤ n by omega)
  rw [Nat.add_mul] at this; omega
theorem FxZ.keep {n r c : Nat} {zs : List Int} (hr : r < n) (hc : c < n) (h : FxZ n (r * n + c) zs) (hp : patP (n : Int) (r : Int) (c : Int) = false) : FxZ n (r * n + (c + 1)) zs := by
  obtain ⟨h1, h2, h3⟩ := h
  have hlt := rc_lt hr hc
  refine ⟨h1, fun j hj => ?_, fun j hj1 hj2 => h3 j (by omega) hj2⟩
  by_cases e : j = r * n + c
  · subst e
    rw [(rc_div hc).1, (rc_div hc).2, hp, h3 _ (Nat.le_refl _) hlt]; simp
  · exact h2 j (by omega)
theorem FxZ.put {n r c : Nat} {zs : List Int} {x : Int} (hr : r < n) (hc : c < n) (h : FxZ n (r * n + c) zs) (hp : patP (n : Int) (r : Int) (c : Int) = true) (hx : 0 ≤ x) : FxZ n (r * n + (c + 1)) (zs.set (r * n + c) x) := by
  obtain ⟨h1, h2, h3⟩ := h
  have hlt := rc_lt hr hc
  refine ⟨by rw [List.length_set]; exact h1, fun j hj => ?_, fun j hj1 hj2 => ?_⟩
  · rw [gi_set (by omega)]
    by_cases e : j = r * n + c
    · subst e
      rw [if_pos rfl, (rc_div hc).1, (rc_div hc).2, hp]; simp [hx]
    · rw [if_neg e]; exact h2 j (by omega)
  · rw [gi_set (by omega), if_neg (by omega)]; exact h3 j (by omega) hj2
/-- The blocks of the call: the grid's row G, the grid X, the kinds K. -/
structure FxW (w wr : World) (n G X K : Nat) (zs : List Int) : Prop where
  own : OwnL wr (w.heap.size + 1) (.slice (some ⟨G, 0, none⟩) (n * n) (n * n)) zs
  res : Tf wr w.heap.size 3 GrT fun i => (#[.int .i64 0, .int .i64 0, .slice none 0 0] : Array Value)[i]!
  grd : Tf wr X 3 GrT fun i => (#[.int .i64 (n : Int), .int .i64 (n : Int), .slice (some ⟨G, 0, none⟩) (n * n) (n * n)] : Array Value)[i]!
  kin : Tf wr K 8 PtT fun i => patC[i]!
  bel : Below w.heap.size w wr
theorem FxW.below {w wr w' : World} {n G X K : Nat} {zs : List Int} (h : FxW w wr n G X K zs) (hb : Below wr.heap.size wr w') : FxW w w' n G X K zs :=
  ⟨h.own.below hb, h.res.below hb h.res.lt, h.grd.below hb h.grd.lt, h.kin.below hb h.kin.lt, h.bel.trans (hb.mono h.bel.size)⟩
theorem FxW.dr {w wr w' : World} {n G X K : Nat} {zs zs' : List Int} (h : FxW w wr n G X K zs) (hd : Dr G wr w') (ho : OwnL w' (w.heap.size + 1) (.slice (some ⟨G, 0, none⟩) (n * n) (n * n)) zs') (hX : X ≠ G) (hK : K ≠ G) : FxW w w' n G X K zs' := by
  have hG := (ho.2.lt G rfl).1
  exact ⟨ho, h.res.dr hd (by omega), h.grd.dr hd hX, h.kin.dr hd hK, h.bel.trans (hd.below (by omega) h.bel.size)⟩
end Go.Proofs.YtdcmebegnekkcaaGreat
/-
  The grid of fixed cells, in the program.
-/
namespace Go.Proofs.YtdcmebegnekkcaaGreat
open Go.RowKit
set_option linter.unusedVariables false

set_option maxHeartbeats 8000000 in
set_option maxRecDepth 20000 in
theorem fixed_any {n : Nat} (h1 : 17 ≤ n) (h2 : n ≤ 41) (w : World) :
    Calls Tryz.prog 172 #[.int .i64 (n : Int)] w fun e w' => Below w.heap.size w w' ∧ ∃ G zs, e = .returned (.agg #[.int .i64 (n : Int), .int .i64 (n : Int), .slice (some ⟨G, 0, none⟩) (n * n) (n * n)]) ∧ OwnL w' w.heap.size (.slice (some ⟨G, 0, none⟩) (n * n) (n * n)) zs ∧ FxZ n (n * n) zs := by
  have HN := Lib.hid (And.intro h1 h2)
  have HC := Lib.hid (blank_any (m0 := n) (by omega) h2)
  have HRES := Lib.hid (show Tryz.f172.results = #[.cell 2 GrT] by kernel_rfl)
  have hn41 : (n : Int) ≤ 41 := by omega
  clear h1 h2
  go_enter Tryz.func172, Tryz.ntmps172
  go_wp2_with fail
  have ha : (w.alloc (.cells #[.int .i64 0, .int .i64 0, .slice none 0 0] GrT)).heap.size = w.heap.size + 1 := by simp
  refine (HC.out _).mono ?_
  rintro e w1 ⟨hb1, G, zs, rfl, hO, hZ1, hZ2⟩
  rw [ha] at hO hb1
  have hsz := hb1.size
  rw [ha] at hsz
  have S1 := Lib.hid (And.intro hO (And.intro ((Tf.mkd w #[.int .i64 0, .int .i64 0, .slice none 0 0] GrT).below hb1 (by omega)) ((below_al1 w (.cells #[.int .i64 0, .int .i64 0, .slice none 0 0] GrT)).trans (hb1.mono (by omega)))))
  have HG := Lib.hid (hO.2.lt G rfl)
  have HZ0 := Lib.hid (show FxZ n (0 * n) zs from ⟨hZ1, fun j hj => by omega, fun j _ hj => hZ2 j hj⟩)
  clear hO hb1 hZ1 hZ2 ha
  go_wp2_with fail
  refine (patterns_any _).mono ?_
  rintro e w2 ⟨rfl, rfl⟩
  have hX : (w1.alloc (.cells #[.int .i64 (n : Int), .int .i64 (n : Int), .slice (some ⟨G, 0, none⟩) (n * n) (n * n)] GrT)).heap.size = w1.heap.size + 1 := by simp
  rw [hX]
  have bA := below_al1 w1 (.cells #[.int .i64 (n : Int), .int .i64 (n : Int), .slice (some ⟨G, 0, none⟩) (n * n) (n * n)] GrT)
  have bB : Below (w1.heap.size + 1) (w1.alloc (.cells #[.int .i64 (n : Int), .int .i64 (n : Int), .slice (some ⟨G, 0, none⟩) (n * n) (n * n)] GrT)) ((w1.alloc (.cells #[.int .i64 (n : Int), .int .i64 (n : Int), .slice (some ⟨G, 0, none⟩) (n * n) (n * n)] GrT)).alloc (.cells patC PtT)) := by
    have := below_al1 (w1.alloc (.cells #[.int .i64 (n : Int), .int .i64 (n : Int), .slice (some ⟨G, 0, none⟩) (n * n) (n * n)] GrT)) (.cells patC PtT)
    rwa [hX] at this
  have bC := bA.trans (bB.mono (Nat.le_succ _))
  have tK := Tf.mkd (w1.alloc (.cells #[.int .i64 (n : Int), .int .i64 (n : Int), .slice (some ⟨G, 0, none⟩) (n * n) (n * n)] GrT)) patC PtT
  rw [hX] at tK
  have F0 := Lib.hid (show FxW w ((w1.alloc (.cells #[.int .i64 (n : Int), .int .i64 (n : Int), .slice (some ⟨G, 0, none⟩) (n * n) (n * n)] GrT)).alloc (.cells patC PtT)) n G w1.heap.size (w1.heap.size + 1) zs from
    ⟨S1.out.1.below bC, S1.out.2.1.below bC (by omega), (Tf.mkd w1 #[.int .i64 (n : Int), .int .i64 (n : Int), .slice (some ⟨G, 0, none⟩) (n * n) (n * n)] GrT).below bB (by omega), tK, S1.out.2.2.trans (bC.mono (by omega))⟩)
  have hne : w1.heap.size ≠ G ∧ w1.heap.size + 1 ≠ G := by have := HG.out.2; omega
  have HNE := Lib.hid hne
  clear bA bB bC tK hX hne S1 HG hsz
  generalize ((w1.alloc (.cells #[.int .i64 (n : Int), .int .i64 (n : Int), .slice (some ⟨G, 0, none⟩) (n * n) (n * n)] GrT)).alloc (.cells patC PtT)) = W at *
  generalize w1.heap.size = X at *
  go_wp2_with fail
  go_loopw [5] (fun t wr => ∃ r : Nat, r ≤ n ∧ t = .int .i64 (r : Int) ∧ ∃ zs, Hid (FxW w wr n G X (X + 1) zs) ∧ Hid (FxZ n (r * n) zs)) (fun t _ => n - (intOf t).toNat)
  case atStart => exact ⟨0, by omega, rfl, _, F0, HZ0⟩
  case round =>
    clear HZ0 F0
    obtain ⟨r, hr, rfl, zs, HF, HZ⟩ := hrel
    by_cases hlt : r < n
    · have hlt2 : (r : Int) < (n : Int) := by omega
      have hwr := (wrp (x := (r : Int) + 1) (by omega)).1
      go_wp2_with fail
      go_loopw [6] (fun t ws => ∃ c : Nat, c ≤ n ∧ t = .int .i64 (c : Int) ∧ ∃ zs, Hid (FxW w ws n G X (X + 1) zs) ∧ Hid (FxZ n (r * n + c) zs)) (fun t _ => n - (intOf t).toNat)
      case atStart => exact ⟨0, by omega, rfl, _, HF, HZ⟩
      case round =>
        clear HZ HF
        obtain ⟨c, hc, rfl, zs, HF, HZ⟩ := hrel
        by_cases hlc : c < n
        · have hlc2 : (c : Int) < (n : Int) := by omega
          have hwc := (wrp (x := (c : Int) + 1) (by omega)).1
          go_wp2_with fail
          have hGlt := (HF.out.own.2.lt G rfl).2
          have FP := Lib.hid (HF.out.below (below_al1 wr (.cells #[.int .i64 (r : Int), .int .i64 (c : Int)] PlT)))
          have TP := Lib.hid (Tf.mkd wr #[.int .i64 (r : Int), .int .i64 (c : Int)] PlT)
          have HPG := Lib.hid (show wr.heap.size ≠ G by omega)
          have PIN := Lib.hid (fun (j : Nat) (hj : j < 4) => patIn_any (n := (n : Int)) (r := (r : Int)) (c := (c : Int)) (by have := HN.out; omega) (by omega) (by omega) hj)
          have PDK := Lib.hid (fun (j : Nat) (hj : j < 4) => patDk_any (n := (n : Int)) (r := (r : Int)) (c := (c : Int)) (by have := HN.out; omega) (by omega) (by omega) hj)
          clear hGlt HF
          generalize wr.alloc (.cells #[.int .i64 (r : Int), .int .i64 (c : Int)] PlT) = W3 at *
          generalize wr.heap.size = P at *
          go_loopw [29] (fun t ws => ∃ j : Nat, j ≤ 4 ∧ t = .int .i64 (j : Int) ∧ Hid (FxW w ws n G X (X + 1) zs) ∧ Hid (Tf ws P 2 PlT fun i => (#[.int .i64 (r : Int), .int .i64 (c : Int)] : Array Value)[i]!) ∧ Hid (∀ i, i < j → patK i (n : Int) (r : Int) (c : Int) = false)) (fun t _ => 4 - (intOf t).toNat)
          case atStart => exact ⟨0, by omega, rfl, FP, TP, Lib.hid (by omega)⟩
          case round =>
            clear FP TP
            obtain ⟨j, hj, rfl, HF, HP, HJ⟩ := hrel
            by_cases hlj : j < 4
            · have hlj2 : (j : Int) < 4 := by omega
              have c0 : wr.cell? ⟨X + 1, j * 2, none⟩ = some (.func (.func (finK j)) #[] #[]) := by
                have := HF.out.kin.cell (i := 2 * j) (by omega)
                rw [patC_in hlj] at this; rwa [Nat.mul_comm j 2]
              have c1 : wr.cell? ⟨X + 1, j * 2 + 1, none⟩ = some (.func (.func (fdkK j)) #[] #[]) := by
                have := HF.out.kin.cell (i := 2 * j + 1) (by omega)
                rw [patC_dk hlj] at this; rwa [Nat.mul_comm j 2]
              have hsf := fun (V : World) (a : Addr) (i : Nat) => (run_store Tryz.prog V a (.func (.func i) #[] #[]) .plain rfl)
              have hen1 := enters_in hlj
              have hen2 := enters_dk hlj
              have hin := PIN.out j hlj
              have hdk := PDK.out j hlj
              unfold plV at hin hdk
              have HIN := Lib.hid hin
              have HDK := Lib.hid hdk
              clear hin hdk
              clear PIN PDK
              have b4 := below_al1 wr (.cells #[.func (.func (finK j)) #[] #[], .func (.func (fdkK j)) #[] #[]] PtT)
              have F4 := Lib.hid (HF.out.below b4)
              have P4 := HP.out.below b4 HP.out.lt
              have K4 := Tf.mkd wr #[.func (.func (finK j)) #[] #[], .func (.func (fdkK j)) #[] #[]] PtT
              have hPlt := HP.out.lt
              have hGlt := (HF.out.own.2.lt G rfl).2
              have p0 : (wr.alloc (.cells #[.func (.func (finK j)) #[] #[], .func (.func (fdkK j)) #[] #[]] PtT)).cell? ⟨P, 0, none⟩ = some (.int .i64 (r : Int)) := P4.cell (i := 0) (by omega)
              have p1 : (wr.alloc (.cells #[.func (.func (finK j)) #[] #[], .func (.func (fdkK j)) #[] #[]] PtT)).cell? ⟨P, 1, none⟩ = some (.int .i64 (c : Int)) := P4.cell (i := 1) (by omega)
              have HP4 := Lib.hid (And.intro P4 (And.intro K4 (And.intro hPlt hGlt)))
              clear b4 P4 K4 hPlt hGlt
              go_wp2_with fail
              refine (HIN.out _).mono ?_
              rintro e w5 ⟨rfl, hb5⟩
              have hks : (wr.alloc (.cells #[.func (.func (finK j)) #[] #[], .func (.func (fdkK j)) #[] #[]] PtT)).heap.size = wr.heap.size + 1 := by simp
              have hb5s := hb5.size
              rw [hks] at hb5s
              have F5 := Lib.hid (F4.out.below hb5)
              have P5 := Lib.hid (HP4.out.1.below hb5 HP4.out.1.lt)
              have K5 := Lib.hid (HP4.out.2.1.below hb5 (by simp))
              have HLT := Lib.hid (show P < w5.heap.size ∧ wr.heap.size < w5.heap.size ∧ wr.heap.size ≠ G ∧ G < w5.heap.size from ⟨by have := HP4.out.2.2.1; omega, by omega, by have := HP4.out.2.2.2; omega, by have := HP4.out.2.2.2; omega⟩)
              clear hb5 hb5s hks p0 p1 c0 c1 HP4 F4 HF HP
              generalize wr.heap.size = Q at *
              cases hp : patK j (n : Int) (r : Int) (c : Int) with
              | false =>
                go_wp2_with fail
                go_roundw
                case rel => exact ⟨j + 1, by omega, by go_num, F5, P5, Lib.hid (fun i hi => by
                  by_cases e : i = j
                  · subst e; exact hp
                  · exact HJ.out i (by omega))⟩
                case measure => simp [intOf]; omega
              | true =>
                have q0 : w5.cell? ⟨X, 0, none⟩ = some (.int .i64 (n : Int)) := F5.out.grd.cell (i := 0) (by omega)
                have q1 : w5.cell? ⟨X, 1, none⟩ = some (.int .i64 (n : Int)) := F5.out.grd.cell (i := 1) (by omega)
                have q2 : w5.cell? ⟨X, 2, none⟩ = some (.slice (some ⟨G, 0, none⟩) (n * n) (n * n)) := F5.out.grd.cell (i := 2) (by omega)
                have q3 : w5.cell? ⟨P, 0, none⟩ = some (.int .i64 (r : Int)) := P5.out.cell (i := 0) (by omega)
                have q4 : w5.cell? ⟨P, 1, none⟩ = some (.int .i64 (c : Int)) := P5.out.cell (i := 1) (by omega)
                have q5 : w5.cell? ⟨Q, 1, none⟩ = some (.func (.func (fdkK j)) #[] #[]) := K5.out.cell (i := 1) (by simp)
                have HPY := Lib.hid (patP_yes hlj hp)
                have hzl := HZ.out.1
                clear hp
                have z0 : w5.drew.cell? ⟨X, 0, none⟩ = some (.int .i64 (n : Int)) := q0
                have z1 : w5.drew.cell? ⟨X, 1, none⟩ = some (.int .i64 (n : Int)) := q1
                have z2 : w5.drew.cell? ⟨X, 2, none⟩ = some (.slice (some ⟨G, 0, none⟩) (n * n) (n * n)) := q2
                have z3 : w5.drew.cell? ⟨P, 0, none⟩ = some (.int .i64 (r : Int)) := q3
                have z4 : w5.drew.cell? ⟨P, 1, none⟩ = some (.int .i64 (c : Int)) := q4
                have z5 : w5.drew.cell? ⟨Q, 1, none⟩ = some (.func (.func (fdkK j)) #[] #[]) := q5
                have bd := (drew1 w5).below w5.heap.size
                have F5d := Lib.hid (F5.out.below bd)
                have P5d := Lib.hid (P5.out.below bd HLT.out.1)
                have K5d := Lib.hid (K5.out.below bd HLT.out.2.1)
                clear bd q0 q1 q2 q3 q4 q5
                go_wp2_with fail
                refine wp_region_S (S := (fun w' => w'.cell? ⟨X, 0, none⟩ = some (.int .i64 (n : Int)) ∧ w'.cell? ⟨X, 1, none⟩ = some (.int .i64 (n : Int)) ∧ w'.cell? ⟨X, 2, none⟩ = some (.slice (some ⟨G, 0, none⟩) (n * n) (n * n)) ∧ w'.cell? ⟨P, 0, none⟩ = some (.int .i64 (r : Int)) ∧ w'.cell? ⟨P, 1, none⟩ = some (.int .i64 (c : Int)) ∧ w'.cell? ⟨Q, 1, none⟩ = some (.func (.func (fdkK j)) #[] #[]))) 8 rfl (by kernel_rfl) ?_ (fun hHeld => ?_)
                · (try dsimp only); exact ⟨z0, z1, z2, z3, z4, z5⟩
                refine wpAnyH_take (i := 0) (oi := _) (v := ?_) rfl (by kernel_rfl) (by kernel_rfl) (by kernel_rfl) (fun _ _ _ h => h) (Or.inl ⟨by kernel_rfl, ?_⟩) hHeld ?_
                rotate_left
                · intro w0 hSw; (try dsimp only at hSw); go_simp; (try with_reducible rfl)
                (try dsimp only [Act.put, List.setIfInBounds_toArray, List.set_cons_zero, List.set_cons_succ])
                refine wpAnyH_take (i := 1) (oi := _) (v := ?_) rfl (by kernel_rfl) (by kernel_rfl) (by kernel_rfl) (fun _ _ _ h => h) (Or.inl ⟨by kernel_rfl, ?_⟩) hHeld ?_
                rotate_left
                · intro w0 hSw; (try dsimp only at hSw); go_simp; (try with_reducible rfl)
                (try dsimp only [Act.put, List.setIfInBounds_toArray, List.set_cons_zero, List.set_cons_succ])
                refine wpAnyH_take (i := 2) (oi := _) (v := ?_) rfl (by kernel_rfl) (by kernel_rfl) (by kernel_rfl) (fun _ _ _ h => h) (Or.inl ⟨by kernel_rfl, ?_⟩) hHeld ?_
                rotate_left
                · intro w0 hSw; (try dsimp only at hSw); go_simp; (try with_reducible rfl)
                (try dsimp only [Act.put, List.setIfInBounds_toArray, List.set_cons_zero, List.set_cons_succ])
                refine wpAnyH_take (i := 3) (oi := _) (v := ?_) rfl (by kernel_rfl) (by kernel_rfl) (by kernel_rfl) (fun _ _ _ h => h) (Or.inl ⟨by kernel_rfl, ?_⟩) hHeld ?_
                rotate_left
                · intro w0 hSw; (try dsimp only at hSw); go_simp; (try with_reducible rfl)
                (try dsimp only [Act.put, List.setIfInBounds_toArray, List.set_cons_zero, List.set_cons_succ])
                refine wpAnyH_take (i := 4) (oi := _) (v := ?_) rfl (by kernel_rfl) (by kernel_rfl) (by kernel_rfl) (fun _ _ _ h => h) (Or.inl ⟨by kernel_rfl, ?_⟩) hHeld ?_
                rotate_left
                · intro w0 hSw; (try dsimp only at hSw); go_simp; (try with_reducible rfl)
                (try dsimp only [Act.put, List.setIfInBounds_toArray, List.set_cons_zero, List.set_cons_succ])
                refine wpAnyH_take (i := 5) (oi := _) (v := ?_) rfl (by kernel_rfl) (by kernel_rfl) (by kernel_rfl) (fun _ _ _ h => h) (Or.inl ⟨by kernel_rfl, ?_⟩) hHeld ?_
                rotate_left
                · intro w0 hSw; (try dsimp only at hSw); go_simp; (try with_reducible rfl)
                (try dsimp only [Act.put, List.setIfInBounds_toArray, List.set_cons_zero, List.set_cons_succ])
                refine wpAnyH_ready (rs := [6]) (by kernel_rfl) (by simp) ?_
                refine AllReadyH.cons (o := _) rfl (fun K hK => ?_) AllReadyH.nil
                go_simp
                refine (HDK.out _).mono ?_
                rintro e w6 ⟨⟨x, hx, rfl⟩, hb6⟩
                have F6 := Lib.hid (F5d.out.below hb6)
                have P6 := Lib.hid (P5d.out.below hb6 HLT.out.1)
                have K6 := Lib.hid (K5d.out.below hb6 HLT.out.2.1)
                have HX := Lib.hid hx
                have hsz6 := hb6.size
                clear hb6 hx
                have y0 : w6.cell? ⟨X, 0, none⟩ = some (.int .i64 (n : Int)) := F6.out.grd.cell (i := 0) (by omega)
                have y1 : w6.cell? ⟨X, 1, none⟩ = some (.int .i64 (n : Int)) := F6.out.grd.cell (i := 1) (by omega)
                have y2 : w6.cell? ⟨X, 2, none⟩ = some (.slice (some ⟨G, 0, none⟩) (n * n) (n * n)) := F6.out.grd.cell (i := 2) (by omega)
                have y3 : w6.cell? ⟨P, 0, none⟩ = some (.int .i64 (r : Int)) := P6.out.cell (i := 0) (by omega)
                have y4 : w6.cell? ⟨P, 1, none⟩ = some (.int .i64 (c : Int)) := P6.out.cell (i := 1) (by omega)
                have y5 : w6.cell? ⟨Q, 1, none⟩ = some (.func (.func (fdkK j)) #[] #[]) := K6.out.cell (i := 1) (by simp)
                go_simp
                refine hK.out _ _ ?_ (fun hHeld => ?_)
                · (try dsimp only); exact ⟨y0, y1, y2, y3, y4, y5⟩
                clear hK K
                (try dsimp only [Act.put, List.setIfInBounds_toArray, List.set_cons_zero, List.set_cons_succ])
                refine wpAnyH_ready (rs := [7]) (by kernel_rfl) (by simp) ?_
                refine AllReadyH.cons (o := _) rfl (fun K hK => ?_) AllReadyH.nil
                go_simp
                clear y0 y1 y2 y3 y4 y5
                refine (gridSet_any (x := x) HN.out.2 hlt hlc F6.out.own hzl).mono ?_
                rintro e w7 ⟨rfl, ho7, hd7⟩
                have F7 := Lib.hid (F6.out.dr hd7 ho7 HNE.out.1 HNE.out.2)
                have P7 := Lib.hid (P6.out.dr hd7 HPG.out)
                have K7 := Lib.hid (K6.out.dr hd7 HLT.out.2.2.1)
                clear ho7 hd7
                have y0 : w7.cell? ⟨X, 0, none⟩ = some (.int .i64 (n : Int)) := F7.out.grd.cell (i := 0) (by omega)
                have y1 : w7.cell? ⟨X, 1, none⟩ = some (.int .i64 (n : Int)) := F7.out.grd.cell (i := 1) (by omega)
                have y2 : w7.cell? ⟨X, 2, none⟩ = some (.slice (some ⟨G, 0, none⟩) (n * n) (n * n)) := F7.out.grd.cell (i := 2) (by omega)
                have y3 : w7.cell? ⟨P, 0, none⟩ = some (.int .i64 (r : Int)) := P7.out.cell (i := 0) (by omega)
                have y4 : w7.cell? ⟨P, 1, none⟩ = some (.int .i64 (c : Int)) := P7.out.cell (i := 1) (by omega)
                have y5 : w7.cell? ⟨Q, 1, none⟩ = some (.func (.func (fdkK j)) #[] #[]) := K7.out.cell (i := 1) (by simp)
                go_simp
                refine hK.out _ _ ?_ (fun hHeld => ?_)
                · (try dsimp only); exact ⟨y0, y1, y2, y3, y4, y5⟩
                clear hK K
                (try dsimp only [Act.put, List.setIfInBounds_toArray, List.set_cons_zero, List.set_cons_succ])
                refine wpAnyH_done (by kernel_rfl) ?_ _
                go_simp
                go_wp2_with fail
                go_roundw
                case rel => exact ⟨c + 1, by omega, by go_num, _, F7, Lib.hid (FxZ.put hlt hlc HZ.out HPY.out HX.out)⟩
                case measure => simp [intOf]; omega
            · obtain rfl : j = 4 := by omega
              go_wp2_with fail
              go_roundw
              case rel => exact ⟨c + 1, by omega, by go_num, _, HF, Lib.hid (FxZ.keep hlt hlc HZ.out (patP_no HJ.out))⟩
              case measure => simp [intOf]; omega
        · obtain rfl : c = n := by omega
          go_wp2_with fail
          go_roundw
          case rel => exact ⟨r + 1, by omega, by go_num, _, HF, by rw [Nat.add_mul, Nat.one_mul]; exact HZ⟩
          case measure => simp [intOf]; omega
    · obtain rfl : r = n := by omega
      have HT := HF.out.res
      have q0 : wr.cell? ⟨X, 0, none⟩ = some (.int .i64 (r : Int)) := HF.out.grd.cell (i := 0) (by omega)
      have q1 : wr.cell? ⟨X, 1, none⟩ = some (.int .i64 (r : Int)) := HF.out.grd.cell (i := 1) (by omega)
      have q2 : wr.cell? ⟨X, 2, none⟩ = some (.slice (some ⟨G, 0, none⟩) (r * r) (r * r)) := HF.out.grd.cell (i := 2) (by omega)
      have d0 : wr.cell? ⟨w.heap.size, 0, none⟩ = some (.int .i64 0) := HT.cell (i := 0) (by omega)
      have d1 : wr.cell? ⟨w.heap.size, 1, none⟩ = some (.int .i64 0) := HT.cell (i := 1) (by omega)
      have d2 : wr.cell? ⟨w.heap.size, 2, none⟩ = some (.slice none 0 0) := HT.cell (i := 2) (by omega)
      have f0 := HT.fz 0
      have f1 := HT.fz 1
      have f2 := HT.fz 2
      have TS := Lib.hid (tf_obj (((HT.set 0 (.int .i64 (r : Int))).set 1 (.int .i64 (r : Int))).set 2 (.slice (some ⟨G, 0, none⟩) (r * r) (r * r))) [.int .i64 (r : Int), .int .i64 (r : Int), .slice (some ⟨G, 0, none⟩) (r * r) (r * r)] rfl (fun i hi => by
        rcases (show i = 0 ∨ i = 1 ∨ i = 2 by omega) with rfl | rfl | rfl <;> rfl))
      have hne : ∀ k, (Value.slice (some ⟨G, 0, none⟩) (r * r) (r * r)).ownBlock = some k → k ≠ w.heap.size := fun k hk => by have := (HF.out.own.2.lt k hk).1; omega
      have OS := Lib.hid ((((HF.out.own.other (j := 0) (x := .int .i64 (r : Int)) hne).other (j := 1) (x := .int .i64 (r : Int)) hne).other (j := 2) (x := .slice (some ⟨G, 0, none⟩) (r * r) (r * r)) hne).lower (show w.heap.size ≤ w.heap.size + 1 by omega))
      have BS := Lib.hid (((HF.out.bel.setCell (p := ⟨w.heap.size, 0, none⟩) (Nat.le_refl _) (.int .i64 (r : Int))).setCell (p := ⟨w.heap.size, 1, none⟩) (Nat.le_refl _) (.int .i64 (r : Int))).setCell (p := ⟨w.heap.size, 2, none⟩) (Nat.le_refl _) (.slice (some ⟨G, 0, none⟩) (r * r) (r * r)))
      clear hne HT
      go_wp2_with fail
      exact ret_cell1 HRES.out Tryz.underlying142 rfl (by kernel_rfl) rfl rfl TS.out ⟨BS.out, _, _, rfl, OS.out, HZ.out⟩
end Go.Proofs.YtdcmebegnekkcaaGreat
