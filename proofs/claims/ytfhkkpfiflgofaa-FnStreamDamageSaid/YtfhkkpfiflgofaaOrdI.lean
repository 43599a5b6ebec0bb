/-
  The order of a stream, as the implementation yields it: an iterator.
-/
import Derived.RangeFuncNested
import Derived.RangeFuncBound
import Derived.RangeFuncCalls
import Derived.RangeFuncLeaves
import Derived.Shelf.Abstract
import Derived.Shelf.RegionOpen
import Derived.WalkKit
import Derived.OwnWalkIn
import Derived.TacticsInMore
import Derived.LoopNIn
import Derived.LoopIn
import Derived.Test.YtfhkkpfiflgofaaLay
namespace Go.Proofs.Ytfhkkpfiflgofaa
open Go.RowKit
set_option linter.unusedVariables false
attribute [local go_sem] Oper.semAt_some

theorem dat_long {q r n : Nat} (hr : r < n) : datP (shN q r n) n (shN q r n (n - 1)) = datP (shN q r n) n (q + 1) := by
  by_cases h : 1 ≤ r
  · have : shN q r n (n - 1) = q + 1 := by unfold shN; rw [if_pos (by omega)]
    rw [this]
  · obtain rfl : r = 0 := by omega
    have : shN q 0 n (n - 1) = q := by unfold shN; rw [if_neg (by omega)]; rfl
    rw [this, datS_same]
theorem rowP_pre (sh : Nat → Nat) (e k : Nat) : ∀ d, ∃ t, rowP sh e (k + d) = rowP sh e k ++ t
  | 0 => ⟨[], by simp⟩
  | d + 1 => by
    obtain ⟨t, ht⟩ := rowP_pre sh e k d
    by_cases h : e < sh (k + d)
    · exact ⟨t ++ [(k + d, e)], by rw [show k + (d + 1) = (k + d) + 1 from rfl, rowP_yes h, ht, List.append_assoc]⟩
    · exact ⟨t, by rw [show k + (d + 1) = (k + d) + 1 from rfl, rowP_no h, ht]⟩
theorem datP_pre (sh : Nat → Nat) (n e : Nat) : ∀ d, ∃ t, datP sh n (e + d) = datP sh n e ++ t
  | 0 => ⟨[], by simp⟩
  | d + 1 => by
    obtain ⟨t, ht⟩ := datP_pre sh n e d
    exact ⟨t ++ rowP sh (e + d) n, by rw [show e + (d + 1) = (e + d) + 1 from rfl, datP_succ, ht, List.append_assoc]⟩
theorem chkR_pre (sh : Nat → Nat) (e k : Nat) : ∀ d, ∃ t, chkR sh e (k + d) = chkR sh e k ++ t
  | 0 => ⟨[], by simp⟩
  | d + 1 => by
    obtain ⟨t, ht⟩ := chkR_pre sh e k d
    exact ⟨t ++ [(k + d, sh (k + d) + e)], by rw [show k + (d + 1) = (k + d) + 1 from rfl, chkR_succ, ht, List.append_assoc]⟩
theorem chkP_pre (sh : Nat → Nat) (n e : Nat) : ∀ d, ∃ t, chkP sh n (e + d) = chkP sh n e ++ t
  | 0 => ⟨[], by simp⟩
  | d + 1 => by
    obtain ⟨t, ht⟩ := chkP_pre sh n e d
    exact ⟨t ++ chkR sh (e + d) n, by rw [show e + (d + 1) = (e + d) + 1 from rfl, chkP_succ, ht, List.append_assoc]⟩
theorem dat_prefix {q r n c e b : Nat} (he : e ≤ q) (hb : b < n) (hs : e < shN q r n b) : (datP (shN q r n) n e ++ rowP (shN q r n) e b) ++ [(b, e)] <+: ordS q r n c := by
  obtain ⟨t1, h1⟩ := rowP_pre (shN q r n) e (b + 1) (n - (b + 1))
  obtain ⟨t2, h2⟩ := datP_pre (shN q r n) n (e + 1) (q + 1 - (e + 1))
  rw [show b + 1 + (n - (b + 1)) = n by omega, rowP_yes hs] at h1
  have h3 := datP_succ (shN q r n) n e
  rw [h1] at h3
  rw [show e + 1 + (q + 1 - (e + 1)) = q + 1 by omega, h3] at h2
  refine ⟨t1 ++ (t2 ++ chkP (shN q r n) n c), ?_⟩
  unfold ordS ordP
  rw [h2]; simp only [List.append_assoc]
theorem chk_prefix {q r n c e b : Nat} (he : e < c) (hb : b < n) : (datP (shN q r n) n (q + 1) ++ chkP (shN q r n) n e ++ chkR (shN q r n) e b) ++ [(b, shN q r n b + e)] <+: ordS q r n c := by
  obtain ⟨t1, h1⟩ := chkR_pre (shN q r n) e (b + 1) (n - (b + 1))
  obtain ⟨t2, h2⟩ := chkP_pre (shN q r n) n (e + 1) (c - (e + 1))
  rw [show b + 1 + (n - (b + 1)) = n by omega, chkR_succ] at h1
  have h3 := chkP_succ (shN q r n) n e
  rw [h1] at h3
  rw [show e + 1 + (c - (e + 1)) = c by omega, h3] at h2
  refine ⟨t1 ++ t2, ?_⟩
  unfold ordS ordP
  rw [h2]; simp only [List.append_assoc]
theorem prefix_lt {α : Type} {l m : List α} {x : α} (h : l ++ [x] <+: m) : l.length < m.length := by
  have := h.length_le
  simp at this; omega
theorem grown_of_below {w w' : World} (h : Below w.heap.size w w') : w.grownBy w' none := ⟨h.os, h.tape, h.output, h.size, fun k hk _ => h.block k hk⟩
theorem abides_carry {β : Type} {B : Nat} {J : β → World → Prop} (h : AbidesFrom B J) {s : β} {w w' : World} (hs : J s w) (hb : Below w.heap.size w w') : J s w' :=
  h s w w' none hs (grown_of_below hb) (fun r e => by cases e)
/-- Block B lies as it lay. -/
def KeepsAt (B : Nat) (W W' : World) : Prop := W'.heap[B]? = W.heap[B]?
theorem LB.keeps {w w' : World} {B : Nat} {p pw g D C N : Int} (h : LB w B p pw g D C N) (hk : KeepsAt B w w') : LB w' B p pw g D C N := ⟨hk.trans h.blk⟩
theorem keepsAt_t {B : Nat} {X Y Z : World} (h : KeepsAt B X Y) (k : KeepsAt B Y Z) : KeepsAt B X Z := k.trans h
theorem keepsAt_b {B : Nat} {w : World} (hB : B < w.heap.size) (W : World) (l : Nat) (o o' : Obj) (hl : w.heap.size ≤ l) (h : W.heap[l]? = some o) (_ : o.isCells = false) (_ : o.isWalk = false) : KeepsAt B W (W.putObj l o') :=
  World.putObj_heap_other (by omega)
abbrev encP (x : Nat × Nat) : Array Value := #[.int .i64 (x.1 : Nat), .int .i64 (x.2 : Nat)]
set_option maxHeartbeats 8000000 in
set_option maxRecDepth 100000 in
theorem order1_in (p pw g : Int) {D C N : Int} {q r n c : Nat} (hl : LN D C N q r n c) (m : Nat) (hm : 1 ≤ m) (l Bn : Nat) (J Jx : List (Nat × Nat) → World → Prop) (W : World) (hJ : AbidesFrom W.heap.size J)
    (hY : ∀ pre x W, J pre W → pre ++ [x] <+: ordS q r n c → YieldAt Fence.wide (m - 1) Try.prog l #[.int .i64 (x.1 : Nat), .int .i64 (x.2 : Nat)] W fun e W' =>
      (e = .returned (.bool true) ∧ J (pre ++ [x]) W' ∧ KeepsAt Bn W W') ∨ (e = .returned (.bool false) ∧ Jx (pre ++ [x]) W'))
    (hL : LB W Bn p pw g D C N) (h0 : J [] W) :
    CallsIn Fence.wide m Try.prog 118 #[.func (.yield l) #[] #[], .pointer (some ⟨Bn, 0, none⟩)] W fun e W' => (∃ v, e = .returned v) ∧
      ((∃ ys, ys = ordS q r n c ∧ J ys W') ∨ (∃ pre, pre <+: ordS q r n c ∧ Jx pre W')) := by
  have HL := Lib.hid hl
  have HJ := Lib.hid hJ
  have HLB := Lib.hid hL
  have H0 := Lib.hid h0
  have hq := hl.qle
  have hn1 := hl.n1
  have hn16 := hl.n16
  have hrn := hl.rn
  have hc64 := hl.c64
  obtain rfl : N = (n : Int) := hl.hN
  obtain rfl : C = (c : Int) := hl.hC
  have k0 := hL.c0
  have k1 := hL.c1
  have k2 := hL.c2
  have k3 := hL.c3
  have k4 := hL.c4
  have k5 := hL.c5
  have hN1 : (n : Int) - 1 = ((n - 1 : Nat) : Int) := by omega
  have y5 : -1000000 ≤ ((n - 1 : Nat) : Int) ∧ ((n - 1 : Nat) : Int) ≤ 1000000 := by omega
  obtain ⟨v1, v2⟩ := wraps y5
  have hsl := shN_le q r n (n - 1)
  have HLO := Lib.hid (dat_long (q := q) hrn)
  obtain ⟨X, hX⟩ : ∃ X, shN q r n (n - 1) = X := ⟨_, rfl⟩
  have HX := Lib.hid hX
  rw [hX] at hsl HLO
  have HSH := Lib.hid (shN_le q r n)
  clear y5 hl hJ hL h0 hX
  refine callsIn_of_wp Try.func118 rfl trivial ?_ rfl
  simp only [Try.ntmps118, List.size_toArray, List.length_cons, List.length_nil, Nat.reduceAdd, Nat.reduceSub, Array.replicate_succ, Array.replicate_zero, List.push_toArray, List.append_toArray, List.nil_append, List.cons_append]
  gi_wp2
  refine ⟨trivial, (callsIn_wide.2 (share_any p pw g HL.out (n - 1) _ rfl (by omega) _)).mono ?_⟩
  rintro e w1 ⟨rfl, hb1⟩
  rw [HX.out]
  have HB1 := Lib.hid hb1
  have L1 := Lib.hid (HLB.out.below hb1 HLB.out.lt)
  have J1 := Lib.hid (abides_carry HJ.out H0.out hb1)
  clear hb1 k0 k1 k2 k3 k4 k5 hN1 v1 v2 HX
  gi_wp2
  gi_loopw [4] (fun t wr => ∃ e : Nat, e ≤ X ∧ t = .int .i64 e ∧ Hid (J (datP (shN q r n) n e) wr) ∧ Hid (LB wr Bn p pw g D c n)) (fun t _ => X - (intOf t).toNat)
  case atStart => exact ⟨0, by omega, rfl, J1, L1⟩
  case round =>
    clear J1 L1
    obtain ⟨e, he, rfl, hj, hL⟩ := hrel
    have k3 := hL.out.c3
    have k5 := hL.out.c5
    by_cases hlt : e < X
    · have hei : (e : Int) < (X : Int) := by omega
      gi_wp2
      clear k3 k5
      gi_loopw [5] (fun t wr => ∃ b : Nat, b ≤ n ∧ t = .int .i64 b ∧ Hid (J (datP (shN q r n) n e ++ rowP (shN q r n) e b) wr) ∧ Hid (LB wr Bn p pw g D c n)) (fun t _ => n - (intOf t).toNat)
      case atStart => exact ⟨0, by omega, rfl, Lib.hid (by rw [rowP_zero, List.append_nil]; exact hj.out), hL⟩
      case round =>
        clear hj hL
        obtain ⟨b, hb, rfl, hj, hL⟩ := hrel
        have k0 := hL.out.c0
        have k1 := hL.out.c1
        have k2 := hL.out.c2
        have k3 := hL.out.c3
        have k4 := hL.out.c4
        have k5 := hL.out.c5
        by_cases hbn : b < n
        · have hbi : (b : Int) < (n : Int) := by omega
          gi_wp2
          refine ⟨trivial, (callsIn_wide.2 (share_any p pw g HL.out b _ rfl (by omega) _)).mono ?_⟩
          rintro e' w5 ⟨rfl, hb5⟩
          have L5 := Lib.hid (hL.out.below hb5 hL.out.lt)
          have J5 := Lib.hid (abides_carry HJ.out hj.out hb5)
          clear hb5 k0 k1 k2 k3 k4 k5 hj hL
          by_cases hsh : e < shN q r n b
          · have hshi : (e : Int) < (shN q r n b : Int) := by omega
            have HPX := Lib.hid (dat_prefix (q := q) (r := r) (n := n) (c := c) (e := e) (b := b) (by omega) hbn hsh)
            have HRY := Lib.hid (rowP_yes (sh := shN q r n) (e := e) (k := b) hsh)
            obtain ⟨fn, tmps, assign, body, hy, hR⟩ := hY _ (b, e) w5 J5.out HPX.out
            clear hsh
            gi_wp2
            refine hR.mono ?_
            rintro e' w6 (⟨rfl, hJ6, hk6⟩ | ⟨rfl, hJx6⟩)
            · have L6 := Lib.hid (L5.out.keeps hk6)
              have J6 := Lib.hid hJ6
              clear hJ6 hk6 L5 J5 hy hR
              gi_wp2
              go_roundw
              case rel => exact ⟨b + 1, by omega, by go_num, Lib.hid (by rw [HRY.out, ← List.append_assoc]; exact J6.out), L6⟩
              case measure => simp [intOf]; omega
            · have JX6 := Lib.hid hJx6
              clear hJx6 L5 J5 hy hR
              gi_wp2
              refine bodyPost_ret (results_none rfl _ _ _) rfl ?_
              exact ⟨⟨_, rfl⟩, .inr ⟨_, HPX.out, JX6.out⟩⟩
          · have hshi : ¬ (e : Int) < (shN q r n b : Int) := by omega
            have HRN := Lib.hid (rowP_no (sh := shN q r n) (e := e) (k := b) hsh)
            clear hsh
            gi_wp2
            refine ⟨fun _ h => (by cases h), ?_⟩
            gi_wp2
            go_roundw
            case rel => exact ⟨b + 1, by omega, by go_num, Lib.hid (by rw [HRN.out]; exact J5.out), L5⟩
            case measure => simp [intOf]; omega
        · obtain rfl : b = n := by omega
          have hbi : ¬ (b : Int) < (b : Int) := by omega
          have HDS := Lib.hid (datP_succ (shN q r b) b e)
          clear k0 k1 k2 k3 k4
          gi_wp2
          go_roundw
          case rel => exact ⟨e + 1, by omega, by go_num, Lib.hid (by rw [HDS.out]; exact hj.out), hL⟩
          case measure => simp [intOf]; omega
    · obtain rfl : e = X := by omega
      have hei : ¬ (e : Int) < (e : Int) := by omega
      have J2 := Lib.hid (show J (datP (shN q r n) n (q + 1) ++ chkP (shN q r n) n 0) wr by rw [chkP_zero, List.append_nil, ← HLO.out]; exact hj.out)
      gi_wp2
      clear k3 k5 hj
      gi_loopw [6] (fun t wr => ∃ e : Nat, e ≤ c ∧ t = .int .i64 e ∧ Hid (J (datP (shN q r n) n (q + 1) ++ chkP (shN q r n) n e) wr) ∧ Hid (LB wr Bn p pw g D c n)) (fun t _ => c - (intOf t).toNat)
      case atStart => exact ⟨0, by omega, rfl, J2, hL⟩
      case round =>
        clear J2 hL
        obtain ⟨e2, he2, rfl, hj, hL⟩ := hrel
        have k4 := hL.out.c4
        by_cases hlt2 : e2 < c
        · have hei2 : (e2 : Int) < (c : Int) := by omega
          gi_wp2
          clear k4
          gi_loopw [7] (fun t wr => ∃ b : Nat, b ≤ n ∧ t = .int .i64 b ∧ Hid (J (datP (shN q r n) n (q + 1) ++ chkP (shN q r n) n e2 ++ chkR (shN q r n) e2 b) wr) ∧ Hid (LB wr Bn p pw g D c n)) (fun t _ => n - (intOf t).toNat)
          case atStart => exact ⟨0, by omega, rfl, Lib.hid (by rw [chkR_zero, List.append_nil]; exact hj.out), hL⟩
          case round =>
            clear hj hL
            obtain ⟨b, hb, rfl, hj, hL⟩ := hrel
            have k0 := hL.out.c0
            have k1 := hL.out.c1
            have k2 := hL.out.c2
            have k3 := hL.out.c3
            have k4 := hL.out.c4
            have k5 := hL.out.c5
            by_cases hbn : b < n
            · have hbi : (b : Int) < (n : Int) := by omega
              gi_wp2
              refine ⟨trivial, (callsIn_wide.2 (share_any p pw g HL.out b _ rfl (by omega) _)).mono ?_⟩
              rintro e' w5 ⟨rfl, hb5⟩
              have L5 := Lib.hid (hL.out.below hb5 hL.out.lt)
              have J5 := Lib.hid (abides_carry HJ.out hj.out hb5)
              clear hb5 k0 k1 k2 k3 k4 k5 hj hL
              have HPX := Lib.hid (chk_prefix (q := q) (r := r) (n := n) (c := c) (e := e2) (b := b) hlt2 hbn)
              have HRY := Lib.hid (chkR_succ (shN q r n) e2 b)
              obtain ⟨hs1, hs2⟩ := HSH.out b
              obtain ⟨fn, tmps, assign, body, hy, hR⟩ := hY _ (b, shN q r n b + e2) w5 J5.out HPX.out
              obtain ⟨Sb, hSb⟩ : ∃ Sb, shN q r n b = Sb := ⟨_, rfl⟩
              rw [hSb] at hs1 hs2 HRY HPX hy hR ⊢
              have y1 : -1000000 ≤ (Sb : Int) + (e2 : Int) ∧ (Sb : Int) + (e2 : Int) ≤ 1000000 := by omega
              obtain ⟨v1, v2⟩ := wraps y1
              clear y1 hSb
              simp only [Int.natCast_add] at hy
              gi_wp2
              refine hR.mono ?_
              rintro e' w6 (⟨rfl, hJ6, hk6⟩ | ⟨rfl, hJx6⟩)
              · have L6 := Lib.hid (L5.out.keeps hk6)
                have J6 := Lib.hid hJ6
                clear hJ6 hk6 L5 J5 hy hR v1 v2
                gi_wp2
                go_roundw
                case rel => exact ⟨b + 1, by omega, by go_num, Lib.hid (by rw [HRY.out, ← List.append_assoc]; exact J6.out), L6⟩
                case measure => simp [intOf]; omega
              · have JX6 := Lib.hid hJx6
                clear hJx6 L5 J5 hy hR v1 v2
                gi_wp2
                refine bodyPost_ret (results_none rfl _ _ _) rfl ?_
                exact ⟨⟨_, rfl⟩, .inr ⟨_, HPX.out, JX6.out⟩⟩
            · obtain rfl : b = n := by omega
              have hbi : ¬ (b : Int) < (b : Int) := by omega
              have HDS := Lib.hid (chkP_succ (shN q r b) b e2)
              clear k0 k1 k2 k3 k4
              gi_wp2
              go_roundw
              case rel => exact ⟨e2 + 1, by omega, by go_num, Lib.hid (by rw [HDS.out, ← List.append_assoc]; exact hj.out), hL⟩
              case measure => simp [intOf]; omega
        · obtain rfl : e2 = c := by omega
          have hei2 : ¬ (e2 : Int) < (e2 : Int) := by omega
          gi_wp2
          go_end0
          exact ⟨⟨_, rfl⟩, .inl hj.out⟩
set_option maxHeartbeats 1000000 in
/-- The iterator's value: the layout is boxed. -/
theorem order_in (m : Nat) (p pw g D C N : Int) (w : World) :
    CallsIn Fence.wide m Try.prog 57 #[lV p pw g D C N] w fun e w' => e = .returned (.func (.func 118) #[] #[.pointer (some ⟨w.heap.size, 0, none⟩)]) ∧ w' = w.alloc (.cells #[.int .i64 p, .int .i64 pw, .int .i64 g, .int .i64 D, .int .i64 C, .int .i64 N] LT) := by
  refine callsIn_of_wp Try.func57 rfl trivial ?_ rfl
  simp only [Try.ntmps57, List.size_toArray, List.length_cons, List.length_nil, Nat.reduceAdd, Nat.reduceSub, Array.replicate_succ, Array.replicate_zero, List.push_toArray, List.append_toArray, List.nil_append, List.cons_append]
  gi_wp2
  go_ret
  exact ⟨rfl, rfl⟩
/-- A place in a stream. -/
abbrev OrdX (q r n c : Nat) : Type := { x : Nat × Nat // x ∈ ordS q r n c }
abbrev encX {q r n c : Nat} (x : OrdX q r n c) : Array Value := #[.int .i64 (x.1.1 : Nat), .int .i64 (x.1.2 : Nat)]
/-- What order hands back stops. -/
theorem order_stops (p pw g : Int) {D C N : Int} {q r n c : Nat} (hl : LN D C N q r n c) (m : Nat) (hm : 1 ≤ m) (Bn : Nat) (w : World) (hn₀ : Bn < w.heap.size) (hL : LB w Bn p pw g D C N) :
    SeqStopsK Fence.wide m Try.prog 118 #[.pointer (some ⟨Bn, 0, none⟩)] (encX (q := q) (r := r) (n := n) (c := c)) (KeepsAt Bn) (fun ys => ys.map Subtype.val = ordS q r n c) (fun pre => pre.map Subtype.val <+: ordS q r n c) (ordS q r n c).length w := fun l J Jx W hW hJ _ hY h0 => by
  refine (order1_in p pw g hl m hm l Bn (fun s W => ∃ s' : List (OrdX q r n c), s'.map Subtype.val = s ∧ J s' W) (fun s W => ∃ s' : List (OrdX q r n c), s'.map Subtype.val = s ∧ Jx s' W) W ?_ ?_ (hL.below hW hn₀) ⟨[], rfl, h0⟩).mono ?_
  · rintro s A B row ⟨s', e, hs⟩ hg hr
    exact ⟨s', e, hJ s' A B row hs hg hr⟩
  · rintro pre x W' ⟨s', rfl, hs⟩ hp
    have hx : x ∈ ordS q r n c := hp.subset (List.mem_append.2 (.inr (by simp)))
    have hlen : s'.length < (ordS q r n c).length := by have := prefix_lt hp; rwa [List.length_map] at this
    refine YieldAt.mono (hY s' ⟨x, hx⟩ W' hs hlen) ?_
    rintro e W2 (⟨rfl, h1, h2⟩ | ⟨rfl, h1⟩)
    · exact .inl ⟨rfl, ⟨s' ++ [⟨x, hx⟩], by simp, h1⟩, h2⟩
    · exact .inr ⟨rfl, ⟨s' ++ [⟨x, hx⟩], by simp, h1⟩⟩
  · rintro e W' ⟨hv, ⟨ys, rfl, s', e', hs⟩ | ⟨pre, hp, s', rfl, hs⟩⟩
    · exact ⟨hv, .inl ⟨s', e', hs⟩⟩
    · exact ⟨hv, .inr ⟨s', hp, hs⟩⟩
theorem marks_ret {F : Fence} {n : Nat} {P : Program} {fn : Func} {R : Ending → World → Prop} {a : Act} {w : World} {v : Value} (hd : a.defers = []) (hr : (results fn a.tmps).run P w = .ok v w) (h : R (.returned v) w) : bodyPostM F n P fn R .ret a w := by
  show LeavesInM F n P fn a.tmps R a.defers .returning w
  rw [hd]
  exact ⟨v, hr, h⟩
theorem marks_retD {F : Fence} {n : Nat} {P : Program} {fn : Func} {R : Ending → World → Prop} {a : Act} {w : World} {v : Value} {D : Nat} {xs : Array Value} (hd : a.defers = [{ target := .collected D, args := xs }]) (hK : w.heap[D]? = some (.deferred (some [])))
    (hr : (results fn a.tmps).run P (w.putObj D (.deferred none)) = .ok v (w.putObj D (.deferred none))) (h : R (.returned v) (w.putObj D (.deferred none))) : bodyPostM F n P fn R .ret a w := by
  show LeavesInM F n P fn a.tmps R a.defers .returning w
  rw [hd]
  exact ⟨by simp, .inl ⟨D, _, rfl, run_takeDeferred hK, v, hr, h⟩⟩
theorem own_at {β : Type} (B : Nat) (bl : Obj) (hc : bl.isCells = true) : Go.Own (fun (_ : β) (W : World) => W.heap[B]? = some bl) := fun s X Y row h hg hr => by
  have hlt : B < X.heap.size := (Array.getElem?_eq_some_iff.1 h).1
  refine (hg.block B hlt (fun e => ?_)).trans h
  obtain ⟨o, ho, hn⟩ := hr B e.symm
  rw [h] at ho; cases ho
  rw [hc] at hn; cases hn
end Go.Proofs.Ytfhkkpfiflgofaa
