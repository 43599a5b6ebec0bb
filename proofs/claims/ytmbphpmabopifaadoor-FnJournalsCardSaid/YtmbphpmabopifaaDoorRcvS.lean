/-
  The reference reads journals: splitting, values, lines.
-/
import Derived.Test.YtmbphpmabopifaaDoorRcvP
import Derived.Laws.Rows
import Derived.Deep.CutRange
namespace Go.Proofs.YtmbphpmabopifaaDoor
open Go.RowKit
set_option linter.unusedVariables false

theorem str_toList (l : List UInt8) : (str l).toList = l := by rw [ByteArray.toList_eq]; exact str_list l
theorem str_eqB (a b : List UInt8) : ((str a).toList == (str b).toList) = decide (a = b) := by rw [str_toList, str_toList]; by_cases h : a = b <;> simp [h]
theorem str_extract (l : List UInt8) (a b : Nat) : (str l).extract a b = str ((l.take b).drop a) := by
  apply ByteArray.ext
  simp [str, ByteArray.data_extract, List.drop_take]
theorem splF_suf (b : UInt8) (m : List UInt8) (d : List (List UInt8)) (c : List UInt8) : (splF b (d, c) m).2 <:+ (c ++ m) := by
  induction m generalizing d c with
  | nil => simp [splF]
  | cons x m ih =>
    by_cases hx : x = b
    · have h2 : splF b (d, c) (x :: m) = splF b (d ++ [c], []) m := by unfold splF; simp [hx]
      rw [h2]
      exact (ih (d ++ [c]) []).trans ⟨c ++ [x], by simp⟩
    · have h2 : splF b (d, c) (x :: m) = splF b (d, c ++ [x]) m := by unfold splF; simp [hx]
      rw [h2]
      have := ih d (c ++ [x])
      rwa [List.append_assoc] at this
/-- A slice of strings of the call's own. -/
def OwnS (w : World) (B : Nat) (v : Value) (ps : List (List UInt8)) : Prop := B ≤ w.heap.size ∧ w.ownsRow B 9 1 v ps.length (ps.map fun p => Value.string (str p))
theorem OwnS.empty (w : World) (B : Nat) (hB : B ≤ w.heap.size) (b : Nat) (hb : b = w.heap.size) : OwnS (w.alloc (.cells #[] 9)) B (.slice (some ⟨b, 0, none⟩) 0 0) [] := by
  subst hb
  exact ⟨by simp; omega, World.ownsRow_made w #[] 0 hB (by unfold maxLen; omega) rfl⟩
theorem OwnS.below {w w' : World} {B : Nat} {v : Value} {ps : List (List UInt8)} (h : OwnS w B v ps) (hb : Below w.heap.size w w') : OwnS w' B v ps := by
  have hs := hb.size
  refine ⟨by have := h.1; omega, h.2.1, ?_⟩
  rcases h.2.2 with h2 | ⟨g, cap, cur, rfl, hg, hh, r⟩
  · exact .inl h2
  · exact .inr ⟨g, cap, cur, rfl, hg, (hb.block g (Array.getElem?_eq_some_iff.1 hh).1).trans hh, r⟩
theorem info_str : (Tryd.prog.info? 9).map (fun i => (i.zero, i.size, i.bytes)) = some (some (.string { data := #[] }), 1, 16) := by kernel_rfl
/-- One more string. -/
theorem appendS_one {W0 : World} {ops : Array Oper} {rest : List Oper} {o : Oper} {a : Act} {Q : Exit → Act → World → Prop} (hgd : o.guard = none) (s x : Operand) (t : TypeId)
    (ho : o.op = .call { callee := .builtin .append, args := #[s, x], argTypes := #[t, t] }) (ht : Tryd.prog.underlying t = some (.slice 9))
    {B : Nat} {v : Value} {ps : List (List UInt8)} (S : ByteArray) (p : List UInt8) (hS : S = str p) (hown : OwnS W0 B v ps) (hs : a.eval s = v) (b : Nat) (hb : b = W0.heap.size) (hx : a.eval x = .slice (some ⟨b, 0, none⟩) 1 1) (hn : ps.length ≤ 16777216)
    (h : ∀ v' w', OwnS w' B v' (ps ++ [p]) → Below B W0 w' → wpList Tryd.prog ops Q rest (a.put o.dst v') w') : wpList Tryd.prog ops Q (o :: rest) a (W0.alloc (.cells #[.string S] 9)) := by
  subst hb
  subst hS
  obtain ⟨i0, hi, hz0, hz1, hz2⟩ := info_parts info_str
  obtain ⟨hB, hown⟩ := hown
  refine wpList_append_own _ hgd s x t ho B 9 i0 (.string { data := #[] }) 1 16 ht hi hz0 hz1 hz2 rfl (by decide) v ps.length _ hs (hown.alloc _) ⟨W0.heap.size, 0, none⟩ 1 1 [.string (str p)] hx rfl ?_ ?_ (by unfold maxLen; omega) (by omega) (by simp; omega) ?_
  · intro j u hj
    match j, hj with
    | 0, hj => simp at hj; subst hj; simp [Addr.add, go_sem]
  · intro u hu; simp at hu; subst hu; rfl
  · intro v' w' h1 hg _
    exact h v' w' ⟨by have := hg.size; simp at this; omega, by rw [List.length_append, List.map_append]; exact h1⟩ (append_below hB hg fun k hk => (hown.lt k hk).1)
theorem splF_snoc (b : UInt8) (l : List UInt8) (k : Nat) (h : k < l.length) : splF b ([], []) (l.take (k + 1)) = if l[k] = b then ((splF b ([], []) (l.take k)).1 ++ [(splF b ([], []) (l.take k)).2], []) else ((splF b ([], []) (l.take k)).1, (splF b ([], []) (l.take k)).2 ++ [l[k]]) := by
  rw [List.take_succ_eq_append_getElem h, splF_app]
  rfl
set_option maxHeartbeats 4000000 in
set_option maxRecDepth 100000 in
theorem l01Split_any (l : List UInt8) (hl : l.length ≤ 1000000) (b : UInt8) (z : Int) (hz : z = (b.toNat : Int)) (w : World) :
    Calls Tryd.prog 43 #[.string (str l), .int .u8 z] w fun e w' => ∃ v, e = .returned v ∧ Below w.heap.size w w' ∧ OwnS w' w.heap.size v (splitL b l) := by
  subst hz
  have hsz := str_size l
  have O0 := Lib.hid (OwnS.empty w w.heap.size (Nat.le_refl _) w.heap.size rfl)
  have B0 := Lib.hid (below1 w (.cells #[] 9))
  go_enter Tryd.func43, Tryd.ntmps43
  go_wp2_with fail
  go_loopw [5, 6, 7] (fun tv tf ti wr => ∃ (fr i : Nat) (ps : List (List UInt8)), i ≤ l.length + 1 ∧ fr ≤ i ∧ tf = .int .i64 fr ∧ ti = .int .i64 i ∧ ps.length ≤ i ∧ Hid ((i ≤ l.length ∧ ps = (splF b ([], []) (l.take i)).1 ∧ fr + (splF b ([], []) (l.take i)).2.length = i) ∨ (i = l.length + 1 ∧ ps = splitL b l)) ∧ Hid (OwnS wr w.heap.size tv ps) ∧ Hid (Below w.heap.size w wr)) (fun _ _ ti _ => l.length + 1 - (intOf ti).toNat)
  case atStart => exact ⟨0, 0, [], by omega, by omega, rfl, rfl, by simp, Lib.hid (.inl ⟨by omega, rfl, rfl⟩), O0, B0⟩
  case round =>
    clear O0 B0
    obtain ⟨fr, i, ps, hi, hfr, rfl, rfl, hpl, hst, ho, hb⟩ := hrel
    by_cases hlt : i ≤ l.length
    · obtain ⟨hp1, hp2⟩ : ps = (splF b ([], []) (l.take i)).1 ∧ fr + (splF b ([], []) (l.take i)).2.length = i := by
        rcases hst.out with h | h
        · exact h.2
        · omega
      have hli : (i : Int) ≤ (l.length : Int) := by omega
      have hcur : (splF b ([], []) (l.take i)).2 = (l.take i).drop fr := by
        have h1 := splF_suf b (l.take i) [] []
        rw [List.nil_append] at h1
        have h2 := List.suffix_iff_eq_drop.1 h1
        rw [List.length_take, Nat.min_eq_left hlt] at h2
        rw [show i - (splF b ([], []) (l.take i)).2.length = fr by omega] at h2
        exact h2
      have HCUR := Lib.hid hcur
      have HP1 := Lib.hid hp1
      have HP2 := Lib.hid hp2
      clear hst hcur hp1 hp2
      by_cases heq : i = l.length
      · have hie : (i : Int) = (l.length : Int) := by omega
        have hieb : ((i : Int) == (l.length : Int)) = true := by simp [hie]
        clear hie
        have HFIN := Lib.hid (show splitL b l = ps ++ [(l.take i).drop fr] from by
          unfold splitL
          have e1 := HP1.out
          have e2 := HCUR.out
          rw [heq, List.take_length] at e1 e2
          rw [e1, e2, heq, List.take_length])
        have HEX := Lib.hid (str_extract l fr i)
        have hpl2 : ps.length ≤ 16777216 := by omega
        rw [heq] at HEX hfr HFIN
        clear HCUR HP1 HP2
        subst heq
        go_wp2_with (at_builtin; refine appendS_one rfl _ _ _ rfl Tryd.underlying71 _ ((l.take l.length).drop fr) HEX.out ho.out rfl _ rfl rfl hpl2 ?_; intro v' w7 hown7 hb7; refine Hid.out ?_)
        have O7 := Lib.hid hown7
        have B7 := Lib.hid (hb.out.trans hb7)
        clear hown7 hb7 ho hb HEX
        refine Lib.hid ?_
        go_wp2_with fail
        go_roundw
        case rel => exact ⟨l.length + 1, l.length + 1, ps ++ [(l.take l.length).drop fr], by omega, by omega, by go_num, by go_num, by simp; omega, Lib.hid (.inr ⟨rfl, HFIN.out.symm⟩), O7, B7⟩
        case measure => simp [intOf]
      · have hin : i < l.length := by omega
        have hie : ((i : Int) == (l.length : Int)) = false := by simp; omega
        have HSN := Lib.hid (splF_snoc b l i hin)
        by_cases hcb : l[i] = b
        · have HC2 := Lib.hid (show splF b ([], []) (l.take (i + 1)) = (ps ++ [(l.take i).drop fr], []) from by rw [HSN.out, if_pos hcb, ← HP1.out, HCUR.out])
          have hbe : ((((str l)[i]'(by rw [hsz]; exact hin)).toNat : Int) == (b.toNat : Int)) = true := by rw [str_get, hcb]; simp
          have HEX := Lib.hid (str_extract l fr i)
          have hpl2 : ps.length ≤ 16777216 := by omega
          clear HCUR HP1 HP2 HSN hcb
          go_wp2_with (at_builtin; refine appendS_one rfl _ _ _ rfl Tryd.underlying71 _ ((l.take i).drop fr) HEX.out ho.out rfl _ rfl rfl hpl2 ?_; intro v' w7 hown7 hb7; refine Hid.out ?_)
          have O7 := Lib.hid hown7
          have B7 := Lib.hid (hb.out.trans hb7)
          clear hown7 hb7 ho hb HEX
          refine Lib.hid ?_
          go_wp2_with fail
          go_roundw
          case rel => exact ⟨i + 1, i + 1, ps ++ [(l.take i).drop fr], by omega, by omega, by go_num, by go_num, by simp; omega, Lib.hid (.inl ⟨by omega, by rw [HC2.out], by rw [HC2.out]; rfl⟩), O7, B7⟩
          case measure => simp [intOf]; omega
        · have HC2 := Lib.hid (show splF b ([], []) (l.take (i + 1)) = (ps, (splF b ([], []) (l.take i)).2 ++ [l[i]]) from by rw [HSN.out, if_neg hcb, ← HP1.out])
          have hbe : ((((str l)[i]'(by rw [hsz]; exact hin)).toNat : Int) == (b.toNat : Int)) = false := by
            rw [str_get]
            simp only [beq_eq_false_iff_ne, ne_eq, Int.natCast_inj]
            exact fun e => hcb (UInt8.toNat_inj.1 e)
          clear HCUR HP1 HSN hcb
          go_wp2_with fail
          go_roundw
          case rel => exact ⟨fr, i + 1, ps, by omega, by omega, rfl, by go_num, by omega, Lib.hid (.inl ⟨by omega, by rw [HC2.out], by rw [HC2.out, List.length_append]; have := HP2.out; simp; omega⟩), ho, hb⟩
          case measure => simp [intOf]; omega
    · have hps : ps = splitL b l := by
        rcases hst.out with h | h
        · omega
        · exact h.2
      have HPS := Lib.hid hps
      have hli : ¬ (i : Int) ≤ (l.length : Int) := by omega
      clear hps
      go_wp2_with fail
      go_ret
      exact ⟨_, rfl, hb.out, by rw [← HPS.out]; exact ho.out⟩
/-- What reading a number hands back: right on a numeral. -/
def ValE (l : List UInt8) (e : Ending) : Prop := ∃ (n : Int) (b : Bool), e = .returned (.tuple #[.int .i64 n, .bool b]) ∧ ∀ k : Nat, k ≤ 199 → l = Lib.decDigits k → n = (k : Int) ∧ b = true
theorem dec_not {l : List UInt8} {i : Nat} (h : i < l.length) (hc : l[i].toNat < 48 ∨ 57 < l[i].toNat) (k : Nat) : l ≠ Lib.decDigits k := by
  intro e
  have := dec_chars k (l[i]) (by rw [← e]; exact List.getElem_mem h)
  omega
set_option maxHeartbeats 4000000 in
set_option maxRecDepth 100000 in
theorem l01Value_any (l : List UInt8) (hl : l.length ≤ 1000000) (w : World) :
    Calls Tryd.prog 58 #[.string (str l)] w fun e w' => ValE l e ∧ Below w.heap.size w w' := by
  have hsz := str_size l
  by_cases hlen : 1 ≤ l.length ∧ l.length ≤ 12
  rotate_left
  · have HN := Lib.hid (show ∀ k : Nat, k ≤ 199 → l = Lib.decDigits k → (0 : Int) = (k : Int) ∧ false = true from fun k hk e => by
      exfalso
      apply hlen
      have h1 : l.length ≤ 3 ∧ 1 ≤ l.length := by
        rw [e]
        by_cases k1 : k < 10
        · rw [dec_small k1]; simp
        · rw [dec_big k1]
          by_cases k2 : k / 10 < 10
          · rw [dec_small k2]; simp
          · rw [dec_big k2, dec_small (by omega)]; simp
      omega)
    by_cases h0 : l.length < 1
    · have h0' : (l.length : Int) < 1 := by omega
      go_enter Tryd.func58, Tryd.ntmps58
      go_wp2_with fail
      go_ret2
      exact ⟨⟨0, false, rfl, HN.out⟩, Below.refl _ _⟩
    · have h0' : ¬ (l.length : Int) < 1 := by omega
      have h1' : (12 : Int) < (l.length : Int) := by omega
      go_enter Tryd.func58, Tryd.ntmps58
      go_wp2_with fail
      go_ret2
      exact ⟨⟨0, false, rfl, HN.out⟩, Below.refl _ _⟩
  obtain ⟨hl1, hl2⟩ := hlen
  have h0' : ¬ (l.length : Int) < 1 := by omega
  have h1' : ¬ (12 : Int) < (l.length : Int) := by omega
  go_enter Tryd.func58, Tryd.ntmps58
  go_wp2_with fail
  clear h0' h1'
  go_loopw [4, 5] (fun tn ti wr => ∃ n i : Nat, tn = .int .i64 n ∧ ti = .int .i64 i ∧ i ≤ l.length ∧ n ≤ 1000000000000 ∧ Hid (n < 10 ^ i) ∧ Hid (n = valF (l.take i)) ∧ wr = w) (fun _ ti _ => l.length - (intOf ti).toNat)
  case atStart => exact ⟨0, 0, rfl, rfl, by omega, by omega, Lib.hid (by simp), Lib.hid (by simp [valF]), rfl⟩
  case round =>
    obtain ⟨n, i, rfl, rfl, hi, hnb, hpw, hval, rfl⟩ := hrel
    by_cases hlt : i < l.length
    · have hli : (i : Int) < (l.length : Int) := by omega
      have hn2 : n ≤ 99999999999 := by
        have h1 := hpw.out
        have h2 : 10 ^ i ≤ 10 ^ 11 := Nat.pow_le_pow_right (by omega) (by omega)
        omega
      have hc255 := l[i].toNat_lt
      have hgt := str_get l i (by rw [hsz]; exact hlt)
      obtain ⟨c, hc⟩ : ∃ c : Nat, ((str l)[i]'(by rw [hsz]; exact hlt)).toNat = c := ⟨_, rfl⟩
      have hcl : l[i].toNat = c := by rw [← hgt]; exact hc
      rw [hcl] at hc255
      have HCL := Lib.hid hcl
      clear hgt hcl hn2
      by_cases hd : c < 48 ∨ 57 < c
      · have HN := Lib.hid (show ∀ k : Nat, k ≤ 199 → l = Lib.decDigits k → (0 : Int) = (k : Int) ∧ false = true from fun k hk e => absurd e (dec_not hlt (by rw [HCL.out]; exact hd) k))
        by_cases hd1 : c < 48
        · have hc1 : (c : Int) < 48 := by omega
          go_wp2_with fail
          go_ret2
          exact ⟨⟨0, false, rfl, HN.out⟩, Below.refl _ _⟩
        · have hc1 : ¬ (c : Int) < 48 := by omega
          have hc2 : (57 : Int) < (c : Int) := by omega
          go_wp2_with fail
          go_ret2
          exact ⟨⟨0, false, rfl, HN.out⟩, Below.refl _ _⟩
      · have hc1 : ¬ (c : Int) < 48 := by omega
        have hc2 : ¬ (57 : Int) < (c : Int) := by omega
        have hn2 : n ≤ 99999999999 := by
          have h1 := hpw.out
          have h2 : 10 ^ i ≤ 10 ^ 11 := Nat.pow_le_pow_right (by omega) (by omega)
          omega
        have HPW := Lib.hid (show 10 * n + (c - 48) < 10 ^ (i + 1) from by have h1 := hpw.out; rw [Nat.pow_succ]; omega)
        have HVL := Lib.hid (show 10 * n + (c - 48) = valF (l.take (i + 1)) from by
          rw [List.take_succ_eq_append_getElem hlt, valF_snoc, ← hval.out, HCL.out])
        have hcc : (((c : Int) - 48)) = ((c - 48 : Nat) : Int) := by omega
        clear hpw hval HCL hd
        go_wp2_with fail
        go_roundw
        case rel => exact ⟨10 * n + (c - 48), i + 1, by push_cast; rfl, by go_num, by omega, by omega, HPW, HVL, trivial⟩
        case measure => simp [intOf]; omega
    · have hli : ¬ (i : Int) < (l.length : Int) := by omega
      have HV := Lib.hid (show n = valF l from by have h1 := hval.out; rwa [List.take_of_length_le (by omega)] at h1)
      clear hpw hval
      go_wp2_with fail
      refine (l01Dec_any n (by omega) _).mono ?_
      rintro e w2 ⟨rfl, hb2⟩
      obtain ⟨bb, hbb⟩ : ∃ bb : Bool, ((str (Lib.decDigits n)).toList == (str l).toList) = bb := ⟨_, rfl⟩
      have HBB := Lib.hid hbb
      go_wp2_with fail
      go_ret2
      refine ⟨⟨n, bb, rfl, fun k hk e => ?_⟩, hb2⟩
      have hv := HV.out
      rw [e, valF_dec] at hv
      subst hv
      refine ⟨rfl, ?_⟩
      rw [← HBB.out, str_eqB, e]
      simp
theorem splF_len {b : UInt8} {N : Nat} (m : List UInt8) (d : List (List UInt8)) (c : List UInt8) (hd : ∀ p ∈ d, p.length ≤ N) (hc : c.length + m.length ≤ N) : ∀ p ∈ (splF b (d, c) m).1 ++ [(splF b (d, c) m).2], p.length ≤ N := by
  induction m generalizing d c with
  | nil =>
    intro p hp
    have e : splF b (d, c) [] = (d, c) := rfl
    rw [e] at hp
    rcases List.mem_append.1 hp with h | h
    · exact hd p h
    · rw [List.mem_singleton.1 h]; simp at hc; omega
  | cons x m ih =>
    simp only [List.length_cons] at hc
    by_cases hx : x = b
    · have h2 : splF b (d, c) (x :: m) = splF b (d ++ [c], []) m := by unfold splF; simp [hx]
      rw [h2]
      exact ih _ _ (fun p hp => by rcases List.mem_append.1 hp with h | h; exact hd p h; rw [List.mem_singleton.1 h]; omega) (by simp; omega)
    · have h2 : splF b (d, c) (x :: m) = splF b (d, c ++ [x]) m := by unfold splF; simp [hx]
      rw [h2]
      exact ih _ _ hd (by rw [List.length_append]; simp; omega)
theorem splitL_len (b : UInt8) (l : List UInt8) : ∀ p ∈ splitL b l, p.length ≤ l.length := splF_len l [] [] (by intro p hp; cases hp) (by simp)
abbrev RT : TypeId := 36
/-- A record's own block. -/
structure RB (w : World) (B : Nat) (k i : Int) : Prop where
  blk : w.heap[B]? = some (.cells #[.int .i64 k, .int .i64 i] RT (0, 0))
section
variable {w w' : World} {B M : Nat} {k i : Int}
theorem RB.lt (h : RB w B k i) : B < w.heap.size := lt_of_heap h.blk
theorem RB.new (w : World) (k i : Int) : RB (w.alloc (.cells #[.int .i64 k, .int .i64 i] RT)) w.heap.size k i := ⟨heap_alloc_new w _⟩
theorem RB.c0 (h : RB w B k i) : w.cell? ⟨B, 0, none⟩ = some (.int .i64 k) := by unfold World.cell?; rw [h.blk]; rfl
theorem RB.c1 (h : RB w B k i) : w.cell? ⟨B, 1, none⟩ = some (.int .i64 i) := by unfold World.cell?; rw [h.blk]; rfl
theorem RB.fz (h : RB w B k i) (o : Nat) : w.frozen? ⟨B, o, none⟩ = false := by unfold World.frozen?; rw [h.blk]; simp
theorem RB.below (h : RB w B k i) (hb : Below M w w') (hC : B < M) : RB w' B k i := ⟨(hb.block B hC).trans h.blk⟩
theorem RB.other (h : RB w B k i) {C o : Nat} (hn : B ≠ C) (v : Value) : RB (w.setCell ⟨C, o, none⟩ v) B k i := ⟨(Below.heap_setCell _ _ _ _ hn).trans h.blk⟩
theorem RB.set0 (h : RB w B k i) (x : Int) : RB (w.setCell ⟨B, 0, none⟩ (.int .i64 x)) B x i := ⟨by rw [heap_setCell_self _ _ _ _ _ _ _ h.blk]; rfl⟩
theorem RB.set1 (h : RB w B k i) (x : Int) : RB (w.setCell ⟨B, 1, none⟩ (.int .i64 x)) B k x := ⟨by rw [heap_setCell_self _ _ _ _ _ _ _ h.blk]; rfl⟩
theorem RB.set (h : RB w B k i) (x y : Int) : RB ((w.setCell ⟨B, 0, none⟩ (.int .i64 x)).setCell ⟨B, 1, none⟩ (.int .i64 y)) B x y := (h.set0 x).set1 y
end
section
variable {P : Program} {fn : Func} {R : Ending → World → Prop} {a : Act} {w : World} {t u u2 : Tmp} {ty t0 : TypeId} {B : Nat} {cs : Array Value} {fr : Nat × Nat} {d : TypeDesc}
theorem ret_cellJ1 (h : fn.results = #[.cell t ty]) (hu : P.underlying ty = some d) (hd : (match d with | .struct _ | .array _ _ => true | _ => false) = true) (hi : (P.info? ty).map (·.size) = some cs.size) (hp : a.tmps.getD t undef = .pointer (some ⟨B, 0, none⟩)) (hdef : a.defers = [])
    (hg : w.heap[B]? = some (.cells cs t0 fr)) (hR : R (.returned (.agg cs)) w) : bodyPost P fn R .ret a w := by
  have hp' : a.tmps[t]?.getD undef = .pointer (some ⟨B, 0, none⟩) := by simpa using hp
  exact bodyPost_ret (by simp [results, h, hp', asAddr, run_loadVar_row w B t0 ty cs fr d hg hu hd hi]) hdef hR
theorem ret_cellJ2 (h : fn.results = #[.cell t ty, .tmp u]) (hu : P.underlying ty = some d) (hd : (match d with | .struct _ | .array _ _ => true | _ => false) = true) (hi : (P.info? ty).map (·.size) = some cs.size) (hp : a.tmps.getD t undef = .pointer (some ⟨B, 0, none⟩)) (hdef : a.defers = [])
    (hg : w.heap[B]? = some (.cells cs t0 fr)) (hR : R (.returned (.tuple #[.agg cs, a.tmps.getD u undef])) w) : bodyPost P fn R .ret a w := by
  have hp' : a.tmps[t]?.getD undef = .pointer (some ⟨B, 0, none⟩) := by simpa using hp
  exact bodyPost_ret (by simp [results, h, hp', asAddr, run_loadVar_row w B t0 ty cs fr d hg hu hd hi, Result.andThen]) hdef hR
end
theorem OwnS.form {w : World} {B : Nat} {v : Value} {ps : List (List UInt8)} (h : OwnS w B v ps) (hn : 0 < ps.length) :
    ∃ g cap, v = .slice (some ⟨g, 0, none⟩) ps.length cap ∧ B ≤ g ∧ g < w.heap.size ∧ ps.length ≤ cap ∧ ∀ j (hj : j < ps.length), w.cell? ⟨g, j, none⟩ = some (.string (str ps[j])) := by
  rcases h.2.2 with ⟨rfl, h0⟩ | ⟨g, cap, cur, rfl, hg, hh, hc, hm, hs, ht⟩
  · omega
  · refine ⟨g, cap, rfl, hg, lt_of_heap hh, hc, fun j hj => ?_⟩
    have h1 := h.2.cells (g := g) rfl j (.string (str ps[j])) (by simp [hj])
    have e : (⟨g, 0, none⟩ : Addr).add j = ⟨g, j, none⟩ := by unfold Addr.add; split <;> simp_all
    rw [e] at h1; exact h1
/-- What reading a line hands back: right on a line as it is written. -/
def RdE (l : List UInt8) (e : Ending) : Prop := ∃ k i : Int, e = .returned (rV k i) ∧ ∀ (n : Nat) (r : Int × Int) (s : Int), recB r.1 r.2 = true → 0 ≤ s → s < 65521 → l = lineL (n : Int) r s → (k, i) = r
set_option maxHeartbeats 4000000 in
set_option maxRecDepth 100000 in
theorem l32Read_any (l : List UInt8) (hl : l.length ≤ 1000000) (w : World) :
    Calls Tryd.prog 44 #[.string (str l)] w fun e w' => RdE l e ∧ Below w.heap.size w w' := by
  have HRES := Lib.hid (show Tryd.f44.results = #[.cell 2 RT] by kernel_rfl)
  have HWD := Lib.hid (show ∀ (n : Nat) (r : Int × Int) (s : Int), recB r.1 r.2 = true → 0 ≤ s → s < 65521 → l = lineL (n : Int) r s → splitL 32 l = [Lib.itoa (n : Int), wrdL r.1, Lib.itoa r.2, Lib.itoa (sumL s (bodyL (n : Int) r))] from fun n r s hr h0 h1 e => by rw [e]; exact words_line (by omega) (recB_bd hr).2.2.1 h0 h1)
  have R0 := Lib.hid (RB.new w 0 0)
  have B0 := Lib.hid (below1 w (.cells #[.int .i64 0, .int .i64 0] RT))
  go_enter Tryd.func44, Tryd.ntmps44
  go_wp2_with fail
  generalize w.alloc (.cells #[.int .i64 0, .int .i64 0] RT) = w1 at *
  refine (l01Split_any l hl 32 32 rfl _).mono ?_
  rintro e w2 ⟨v, rfl, hb2, ho2⟩
  have hw1 : w.heap.size < w1.heap.size := R0.out.lt
  have R2 := Lib.hid (R0.out.below hb2 R0.out.lt)
  have B2 := Lib.hid (B0.out.trans (hb2.mono B0.out.size))
  have O2 := Lib.hid ho2
  have hw2 : w.heap.size < w2.heap.size := R2.out.lt
  obtain ⟨X, hX⟩ : ∃ X, X = w2.heap.size := ⟨_, rfl⟩
  have BX := below1 w2 (.cells #[.int .i64 0, .int .i64 0] RT)
  have X3 := Lib.hid (RB.new w2 0 0)
  have R3 := Lib.hid (R2.out.below BX R2.out.lt)
  have B3 := Lib.hid (B2.out.trans (BX.mono B2.out.size))
  have O3 := Lib.hid (O2.out.below BX)
  have hO2 := Lib.hid (fun k (hk : v.ownBlock = some k) => (O2.out.2.lt k hk).2)
  rw [← hX] at X3 hO2
  have hRX : w.heap.size < X := by omega
  have hpos := splitL_pos 32 l
  have HPL := Lib.hid (splitL_len 32 l)
  clear ho2 hb2 R0 B0 R2 B2 O2 BX
  generalize splitL 32 l = ps at *
  obtain ⟨g, cap, rfl, hg1, hg2, hcap, hcells⟩ := O3.out.form hpos
  have hgX : g < X := hO2.out g rfl
  have HCS := Lib.hid hcells
  clear hcells hO2 O3
  go_upto_region 3 with (fail)
  rw [← hX]
  clear hX
  generalize w2.alloc (.cells #[.int .i64 0, .int .i64 0] RT) = w3 at *
  by_cases h4 : ps.length = 4
  rotate_left
  · have hne : (((ps.length : Nat) : Int) != 4) = true := by simp; omega
    have HN := Lib.hid (show ∀ (n : Nat) (r : Int × Int) (s : Int), recB r.1 r.2 = true → 0 ≤ s → s < 65521 → l = lineL (n : Int) r s → ((0 : Int), (0 : Int)) = r from fun n r s hr h0 h1 e => by
      exfalso; apply h4; rw [HWD.out n r s hr h0 h1 e]; rfl)
    have x0 := X3.out.c0
    have x1 := X3.out.c1
    have r0 := R3.out.c0
    have r1 := R3.out.c1
    have f0 := R3.out.fz 0
    have f1 := R3.out.fz 1
    go_wp2_with fail
    (try simp only [Exit.inBlock, Exit.then])
    exact ret_cellJ1 HRES.out Tryd.underlying36 rfl (by kernel_rfl) rfl rfl (R3.out.set 0 0).blk ⟨⟨0, 0, rfl, HN.out⟩, (B3.out.setCell (p := ⟨w.heap.size, 0, none⟩) (Nat.le_refl _) _).setCell (p := ⟨w.heap.size, 1, none⟩) (Nat.le_refl _) _⟩
  · obtain ⟨p0, p1, p2, p3, rfl⟩ : ∃ a b c d, ps = [a, b, c, d] := by
      match ps, h4 with
      | [a, b, c, d], _ => exact ⟨a, b, c, d, rfl⟩
    have hc1 := HCS.out 1 (by simp)
    have hc2 := HCS.out 2 (by simp)
    simp only [List.getElem_cons_succ, List.getElem_cons_zero] at hc1 hc2
    have HP := Lib.hid (show ∀ (n : Nat) (r : Int × Int) (s : Int), recB r.1 r.2 = true → 0 ≤ s → s < 65521 → l = lineL (n : Int) r s → p1 = wrdL r.1 ∧ p2 = Lib.itoa r.2 from fun n r s hr h0 h1 e => by
      have := HWD.out n r s hr h0 h1 e
      simp only [List.cons.injEq] at this
      exact ⟨this.2.1, this.2.2.1⟩)
    have hp2 : p2.length ≤ 1000000 := Nat.le_trans (HPL.out p2 (by simp)) hl
    have HC1 := Lib.hid hc1
    have HC2 := Lib.hid hc2
    simp only [List.length_cons, List.length_nil, Nat.zero_add, Nat.reduceAdd] at hcap ⊢
    have W3 := Lib.hid (Below.refl w3.heap.size w3)
    have hX3 : X < w3.heap.size := X3.out.lt
    clear HCS HWD hc1 hc2 h4 hpos HPL W3
    go_wp2_with fail
    go_loopw [5] (fun tk wr => ∃ (k : Nat) (kd : Int), tk = .int .i64 k ∧ k ≤ 4 ∧ Hid (∀ j : Int, 1 ≤ j → j ≤ (k : Int) → p1 = wrdL j → kd = j) ∧ Hid (RB wr X kd 0) ∧ Hid (RB wr w.heap.size 0 0) ∧ Hid (wr.cell? ⟨g, 1, none⟩ = some (.string (str p1))) ∧ Hid (wr.cell? ⟨g, 2, none⟩ = some (.string (str p2))) ∧ Hid (Below w.heap.size w wr)) (fun tk _ => 4 - (intOf tk).toNat)
    case atStart => exact ⟨0, 0, rfl, by omega, Lib.hid (fun j h1 h2 => by exfalso; simp at h2; omega), X3, R3, HC1, HC2, B3⟩
    case round =>
      clear X3 R3 HC1 HC2 B3
      obtain ⟨k, kd, rfl, hk, hkd, hX, hR, h1, h2, hB⟩ := hrel
      by_cases hlt : k < 4
      · have hli : (k : Int) < 4 := by omega
        have hc1 := h1.out
        have v1 : IntKind.i64.wrap (k : Int) = (k : Int) := IntWalk.i64_in _ (by omega)
        go_wp2_with fail
        refine wp_region_S (S := (fun w' => w'.cell? ⟨g, 1, none⟩ = some (.string (str p1)))) 8 rfl (by kernel_rfl) ?_ (fun hHeld => ?_)
        · first | (exact keep_cell (drewB _ _) hc1) | ((try dsimp only); exact keep_cell (drewB _ _) hc1)
        refine wpAnyH_take (i := 1) (oi := _) (v := ?_) rfl (by kernel_rfl) (by kernel_rfl) (by kernel_rfl) (fun _ _ _ h => h) (Or.inl ⟨by kernel_rfl, ?_⟩) hHeld ?_
        rotate_left
        · intro w0 hSw; (try dsimp only at hSw); go_simp; (try with_reducible rfl)
        (try dsimp only [Act.put, List.setIfInBounds_toArray, List.set_cons_zero, List.set_cons_succ])
        refine wpAnyH_take (i := 4) (oi := _) (v := ?_) rfl (by kernel_rfl) (by kernel_rfl) (by kernel_rfl) (fun _ _ _ h => h) (Or.inl ⟨by kernel_rfl, ?_⟩) hHeld ?_
        rotate_left
        · intro w0 hSw; (try dsimp only at hSw); go_simp; (try with_reducible rfl)
        (try dsimp only [Act.put, List.setIfInBounds_toArray, List.set_cons_zero, List.set_cons_succ])
        refine wpAnyH_take (i := 5) (oi := _) (v := ?_) rfl (by kernel_rfl) (by kernel_rfl) (by kernel_rfl) (fun _ _ _ h => h) (Or.inl ⟨by kernel_rfl, ?_⟩) hHeld ?_
        rotate_left
        · intro w0 hSw; (try dsimp only at hSw); go_simp; (try with_reducible rfl)
        (try dsimp only [Act.put, List.setIfInBounds_toArray, List.set_cons_zero, List.set_cons_succ])
        refine wpAnyH_take (i := 6) (oi := _) (v := ?_) rfl (by kernel_rfl) (by kernel_rfl) (by kernel_rfl) (fun _ _ _ h => h) (Or.inl ⟨by kernel_rfl, ?_⟩) hHeld ?_
        rotate_left
        · intro w0 hSw; (try dsimp only at hSw); go_simp; (try with_reducible rfl)
        (try dsimp only [Act.put, List.setIfInBounds_toArray, List.set_cons_zero, List.set_cons_succ])
        refine wpAnyH_ready (rs := [0]) (by kernel_rfl) (by simp) ?_
        refine AllReadyH.cons (o := _) rfl (fun K hK => ?_) AllReadyH.nil
        go_simp
        refine (l32Words_any _).mono ?_
        rintro e w5 ⟨rfl, hb5, hc5⟩
        have hcw := hc5 ((k : Int) + 1) (by omega) (by omega)
        rw [show ((k : Int) + 1 - 1).toNat = k by omega] at hcw
        have hcw2 : w5.cell? ⟨wr.heap.size, k, none⟩ = some (.string (str (wrdL ((k : Int) + 1)))) := hcw
        clear hcw hc5
        refine hK.out _ _ ?_ (fun hHeld => ?_)
        · first | (exact keep_cell hb5 hHeld) | ((try dsimp only); exact keep_cell hb5 hHeld)
        clear hK K
        (try dsimp only [Act.put, List.setIfInBounds_toArray, List.set_cons_zero, List.set_cons_succ])
        refine wpAnyH_take (i := 2) (oi := _) (v := ?_) rfl (by kernel_rfl) (by kernel_rfl) (by kernel_rfl) (fun _ _ _ h => h) (Or.inl ⟨by kernel_rfl, ?_⟩) hHeld ?_
        rotate_left
        · intro w0 hSw; (try dsimp only at hSw); go_simp; (try with_reducible rfl)
        (try dsimp only [Act.put, List.setIfInBounds_toArray, List.set_cons_zero, List.set_cons_succ])
        refine wpAnyH_ready (rs := [3]) (by kernel_rfl) (by simp) ?_
        refine AllReadyH.cons (o := _) rfl (fun K hK => ?_) AllReadyH.nil
        go_simp
        refine hK.out _ _ ?_ (fun hHeld => ?_)
        · first | (exact hHeld) | ((try dsimp only); exact hHeld)
        clear hK K
        (try dsimp only [Act.put, List.setIfInBounds_toArray, List.set_cons_zero, List.set_cons_succ])
        refine wpAnyH_take (i := 7) (oi := _) (v := ?_) rfl (by kernel_rfl) (by kernel_rfl) (by kernel_rfl) (fun _ _ _ h => h) (Or.inl ⟨by kernel_rfl, ?_⟩) hHeld ?_
        rotate_left
        · intro w0 hSw; (try dsimp only at hSw); go_simp; (try with_reducible rfl)
        (try dsimp only [Act.put, List.setIfInBounds_toArray, List.set_cons_zero, List.set_cons_succ])
        refine wpAnyH_done (by kernel_rfl) ?_ _
        go_simp
        have hbd : Below wr.heap.size wr w5 := (drewB wr wr.heap.size).trans hb5
        have X5 := Lib.hid (hX.out.below hbd hX.out.lt)
        have R5 := Lib.hid (hR.out.below hbd hR.out.lt)
        have B5 := Lib.hid (hB.out.trans (hbd.mono hB.out.size))
        have H15 := Lib.hid (keep_cell hbd h1.out)
        have H25 := Lib.hid (keep_cell hbd h2.out)
        have hEB := str_eqB (wrdL ((k : Int) + 1)) p1
        have hgl : g ≠ X := Nat.ne_of_lt hgX
        clear hbd hb5 hX hR hB h1 h2 hc1 hcw2 v1 hHeld
        by_cases hw : wrdL ((k : Int) + 1) = p1
        · rw [decide_eq_true hw] at hEB
          have x0 := X5.out.c0
          have xf0 := X5.out.fz 0
          have X6 := Lib.hid (X5.out.set0 ((k : Int) + 1))
          have R6 := Lib.hid (R5.out.other (C := X) (o := 0) (Nat.ne_of_lt hRX) (.int .i64 ((k : Int) + 1)))
          have B6 := Lib.hid (B5.out.setCell (p := ⟨X, 0, none⟩) (Nat.le_of_lt hRX) (.int .i64 ((k : Int) + 1)))
          have H16 := Lib.hid ((World.cell?_setCell_far w5 ⟨X, 0, none⟩ ⟨g, 1, none⟩ (.int .i64 ((k : Int) + 1)) (Ne.symm hgl)).trans H15.out)
          have H26 := Lib.hid ((World.cell?_setCell_far w5 ⟨X, 0, none⟩ ⟨g, 2, none⟩ (.int .i64 ((k : Int) + 1)) (Ne.symm hgl)).trans H25.out)
          have HKD := Lib.hid (show ∀ j : Int, 1 ≤ j → j ≤ ((k + 1 : Nat) : Int) → p1 = wrdL j → (k : Int) + 1 = j from fun j h1 h2 e => wrdL_inj ⟨by omega, by omega⟩ ⟨h1, by omega⟩ (hw.trans e))
          rw [hEB]
          clear hw hEB
          go_wp2_with fail
          go_roundw
          case rel => exact ⟨k + 1, (k : Int) + 1, by go_num, by omega, HKD, X6, R6, H16, H26, B6⟩
          case measure => simp [intOf]; omega
        · rw [decide_eq_false hw] at hEB
          have HKD := Lib.hid (show ∀ j : Int, 1 ≤ j → j ≤ ((k + 1 : Nat) : Int) → p1 = wrdL j → kd = j from fun j h1 h2 e => by
            by_cases hj : j ≤ (k : Int)
            · exact hkd.out j h1 hj e
            · obtain rfl : j = (k : Int) + 1 := by omega
              exact absurd e.symm hw)
          rw [hEB]
          clear hw hEB
          go_wp2_with fail
          go_roundw
          case rel => exact ⟨k + 1, kd, by go_num, by omega, HKD, X5, R5, H15, H25, B5⟩
          case measure => simp [intOf]; omega
      · have hli : ¬ (k : Int) < 4 := by omega
        obtain rfl : k = 4 := by omega
        have hc2 := h2.out
        go_wp2_with fail
        refine (l01Value_any p2 hp2 _).mono ?_
        rintro e w5 ⟨⟨nv, bv, rfl, hv⟩, hb5⟩
        have X5 := Lib.hid (hX.out.below hb5 hX.out.lt)
        have R5 := Lib.hid (hR.out.below hb5 hR.out.lt)
        have B5 := Lib.hid (hB.out.trans (hb5.mono hB.out.size))
        have HV := Lib.hid hv
        clear hb5 hX hR hB hv hc2 h1 h2
        have r0 := R5.out.c0
        have r1 := R5.out.c1
        have f0 := R5.out.fz 0
        have f1 := R5.out.fz 1
        cases bv with
        | false =>
          go_wp2_with fail
          (try simp only [Exit.inBlock, Exit.then])
          refine ret_cellJ1 HRES.out Tryd.underlying36 rfl (by kernel_rfl) rfl rfl (R5.out.set 0 0).blk ⟨⟨0, 0, rfl, fun n r s hr h0 h1 e => ?_⟩, (B5.out.setCell (p := ⟨w.heap.size, 0, none⟩) (Nat.le_refl _) _).setCell (p := ⟨w.heap.size, 1, none⟩) (Nat.le_refl _) _⟩
          have hb := recB_bd hr
          have e2 := (HP.out n r s hr h0 h1 e).2
          rw [itoa_nat hb.2.2.1] at e2
          exact absurd (HV.out r.2.toNat (by omega) e2).2 (by simp)
        | true =>
          have x0 := X5.out.c0
          have x1 := X5.out.c1
          have xf1 := X5.out.fz 1
          have X6 := Lib.hid (X5.out.set1 nv)
          have R6 := Lib.hid (R5.out.other (C := X) (o := 1) (Nat.ne_of_lt hRX) (.int .i64 nv))
          have B6 := Lib.hid (B5.out.setCell (p := ⟨X, 1, none⟩) (Nat.le_of_lt hRX) (.int .i64 nv))
          go_wp2_with fail
          (try simp only [Exit.inBlock, Exit.then])
          refine ret_cellJ1 HRES.out Tryd.underlying36 rfl (by kernel_rfl) rfl rfl (R6.out.set kd nv).blk ⟨⟨kd, nv, rfl, fun n r s hr h0 h1 e => ?_⟩, (B6.out.setCell (p := ⟨w.heap.size, 0, none⟩) (Nat.le_refl _) _).setCell (p := ⟨w.heap.size, 1, none⟩) (Nat.le_refl _) _⟩
          have hb := recB_bd hr
          obtain ⟨e1, e2⟩ := HP.out n r s hr h0 h1 e
          rw [itoa_nat hb.2.2.1] at e2
          have h3 := (HV.out r.2.toNat (by omega) e2).1
          have h4 := hkd.out r.1 hb.1 (by have := hb.2.1; simpa using this) e1
          exact Prod.ext h4 (by rw [h3]; show ((r.2.toNat : Nat) : Int) = r.2; omega)
/-- The cells of a list of records. -/
def recC (L : List (Int × Int)) : List Value := L.flatMap fun r => [Value.int .i64 r.1, Value.int .i64 r.2]
theorem recC_length (L : List (Int × Int)) : (recC L).length = L.length * 2 := by
  induction L with
  | nil => rfl
  | cons r L ih => show ([Value.int .i64 r.1, Value.int .i64 r.2] ++ recC L).length = _; rw [List.length_append, ih]; simp; omega
theorem recC_app (L M : List (Int × Int)) : recC (L ++ M) = recC L ++ recC M := by unfold recC; rw [List.flatMap_append]
/-- A slice of records of the call's own that may be appended to. -/
def OwnR (w : World) (B : Nat) (v : Value) (L : List (Int × Int)) : Prop := B ≤ w.heap.size ∧ w.ownsRow B RT 2 v L.length (recC L)
theorem OwnR.nil (w : World) (B : Nat) (hB : B ≤ w.heap.size) : OwnR w B (.slice none 0 0) [] := ⟨hB, World.ownsRow_nil _ _ _ _⟩
theorem OwnR.empty (w : World) (B : Nat) (hB : B ≤ w.heap.size) (b : Nat) (hb : b = w.heap.size) : OwnR (w.alloc (.cells #[] RT)) B (.slice (some ⟨b, 0, none⟩) 0 0) [] := by
  subst hb
  exact ⟨by simp; omega, World.ownsRow_made w #[] 0 hB (by unfold maxLen; omega) rfl⟩
theorem OwnR.belowV {w w' : World} {B M : Nat} {v : Value} {L : List (Int × Int)} (h : OwnR w B v L) (hb : Below M w w') (hg : ∀ k, v.ownBlock = some k → k < M) : OwnR w' B v L := by
  obtain ⟨hB, hl, h2⟩ := h
  refine ⟨Nat.le_trans hB hb.size, hl, ?_⟩
  rcases h2 with h0 | ⟨g', cp, cur, rfl, hg', hh, rest⟩
  · exact .inl h0
  · exact .inr ⟨g', cp, cur, rfl, hg', (hb.block g' (hg g' rfl)).trans hh, rest⟩
theorem OwnR.below {w w' : World} {B : Nat} {v : Value} {L : List (Int × Int)} (h : OwnR w B v L) (hb : Below w.heap.size w w') : OwnR w' B v L := h.belowV hb fun k hk => (h.2.lt k hk).2
theorem OwnR.lower {w : World} {B C : Nat} {v : Value} {L : List (Int × Int)} (h : OwnR w B v L) (hC : C ≤ B) : OwnR w C v L := by
  obtain ⟨hB, hl, h2⟩ := h
  refine ⟨by omega, hl, ?_⟩
  rcases h2 with h2 | ⟨g, cap, cur, rfl, hg, r⟩
  · exact .inl h2
  · exact .inr ⟨g, cap, cur, rfl, by omega, r⟩
theorem OwnR.slice {w : World} {B : Nat} {v : Value} {L : List (Int × Int)} (h : OwnR w B v L) : ∃ a cap, v = .slice a L.length cap := by
  rcases h.2.2 with ⟨rfl, h0⟩ | ⟨g, cap, cur, rfl, _⟩
  · exact ⟨none, 0, by rw [h0]⟩
  · exact ⟨_, _, rfl⟩
/-- One more record. -/
theorem appendR_one {W0 : World} {ops : Array Oper} {rest : List Oper} {o : Oper} {a : Act} {Q : Exit → Act → World → Prop} (hgd : o.guard = none) (s x : Operand) (t : TypeId)
    (ho : o.op = .call { callee := .builtin .append, args := #[s, x], argTypes := #[t, t] }) (ht : Tryd.prog.underlying t = some (.slice RT))
    {B : Nat} {v : Value} {L : List (Int × Int)} (k i : Int) (hown : OwnR W0 B v L) (hs : a.eval s = v) (b : Nat) (hb : b = W0.heap.size) (hx : a.eval x = .slice (some ⟨b, 0, none⟩) 1 1) (hn : L.length ≤ 16777216)
    (h : ∀ v' w', OwnR w' B v' (L ++ [(k, i)]) → Below B W0 w' → wpList Tryd.prog ops Q rest (a.put o.dst v') w') : wpList Tryd.prog ops Q (o :: rest) a (W0.alloc (.cells #[.int .i64 k, .int .i64 i] RT)) := by
  subst hb
  obtain ⟨i0, hi, hz0, hz1, hz2⟩ := info_parts info_rec
  obtain ⟨hB, hown⟩ := hown
  refine wpList_append_own _ hgd s x t ho B RT i0 (.agg #[.int .i64 0, .int .i64 0]) 2 16 ht hi hz0 hz1 hz2 rfl (by decide) v L.length _ hs (hown.alloc _) ⟨W0.heap.size, 0, none⟩ 1 1 [.int .i64 k, .int .i64 i] hx rfl ?_ ?_ (by unfold maxLen; omega) (by omega) (by simp; omega) ?_
  · intro j u hj
    match j, hj with
    | 0, hj => simp at hj; subst hj; simp [Addr.add, go_sem]
    | 1, hj => simp at hj; subst hj; simp [Addr.add, go_sem]
  · intro u hu; simp at hu; rcases hu with rfl | rfl <;> rfl
  · intro v' w' h1 hg _
    refine h v' w' ⟨by have := hg.size; simp at this; omega, ?_⟩ (append_below hB hg fun k hk => (hown.lt k hk).1)
    rw [List.length_append, recC_app]
    exact h1
/-- What recovering hands back. -/
def RecE (S : List UInt8) (w0 w : World) (e : Ending) : Prop := ∃ (L : List (Int × Int)) (v : Value), RecP S L ∧ e = .returned (.tuple #[v, .int .i64 ((jouL L L.length).1.length : Int)]) ∧ OwnR w w0.heap.size v L
set_option maxHeartbeats 4000000 in
set_option maxRecDepth 100000 in
theorem l32Recover_any (S : List UInt8) (hS : S.length ≤ 100000) (w : World) :
    Calls Tryd.prog 35 #[.string (str S)] w fun e w' => RecE S w w' e ∧ Below w.heap.size w w' := by
  go_enter Tryd.func35, Tryd.ntmps35
  go_wp2_with fail
  refine (l01Split_any S (by omega) 10 10 rfl _).mono ?_
  rintro e w1 ⟨v1, rfl, hb1, ho1⟩
  have hpos := splitL_pos 10 S
  have hcnt := splitL_cnt 10 S
  have HNL := Lib.hid (fun (L : List (Int × Int)) (hL : okL L) hp hn r => no_line (S := S) hL hp hn r)
  have HNX := Lib.hid (fun (L : List (Int × Int)) (hL : okL L) hp hn => next_line (S := S) hL hp hn)
  have HPL := Lib.hid (splitL_len 10 S)
  generalize splitL 10 S = ps at *
  obtain ⟨g, cap, rfl, hg1, hg2, hcap, hcells⟩ := ho1.form hpos
  have HCS := Lib.hid hcells
  have B1 := Lib.hid hb1
  have BE := below1 w1 (.cells #[] RT)
  have B2 := Lib.hid (hb1.trans (BE.mono hb1.size))
  have D2 := Lib.hid BE
  have O2 := Lib.hid (OwnR.empty w1 w1.heap.size (Nat.le_refl _) w1.heap.size rfl)
  have hw1 : w.heap.size ≤ w1.heap.size := hb1.size
  clear hcells ho1 hb1 BE hpos
  have hpsb : ps.length ≤ 1000000 := by omega
  clear hcnt
  go_wp2_with fail
  go_loopw [5, 6, 7, 8] (fun tv ts tz ti wr => ∃ (s z : Int) (i : Nat), ts = .int .i64 s ∧ tz = .int .i64 z ∧ ti = .int .i64 i ∧ i ≤ 300 ∧ 0 ≤ s ∧ s < 65521 ∧ 0 ≤ z ∧ z ≤ 100000 ∧ Hid (∃ L : List (Int × Int), L.length = i ∧ okL L ∧ (jouL L L.length).1 <+: S ∧ s = (jouL L L.length).2 ∧ z = ((jouL L L.length).1.length : Int) ∧ OwnR wr w1.heap.size tv L) ∧ Hid (Below w1.heap.size w1 wr)) (fun _ _ _ ti _ => 301 - (intOf ti).toNat)
  case atStart => exact ⟨0, 0, 0, rfl, rfl, rfl, by omega, by omega, by omega, by omega, by omega, Lib.hid ⟨[], rfl, by intro k hk; simp at hk, List.nil_prefix, rfl, rfl, O2.out⟩, D2⟩
  case round =>
    clear O2 B2 D2
    obtain ⟨s, z, i, rfl, rfl, rfl, hi, hs0, hs1, hz0, hz1, hst, hb⟩ := hrel
    obtain ⟨L, rfl, hL, hp, hse, hze, ho⟩ := hst.out
    obtain ⟨aL, cL, rfl⟩ := ho.slice
    have HL := Lib.hid hL
    have HP := Lib.hid hp
    have HSE := Lib.hid hse
    have HZE := Lib.hid hze
    have HO := Lib.hid ho
    have HFB := Lib.hid (B1.out.trans (hb.out.mono hw1))
    clear hst hL hp hse hze ho
    by_cases hA : L.length + 1 < ps.length
    rotate_left
    · have hA' : ¬ (L.length : Int) + 1 < (ps.length : Int) := by omega
      have HR := Lib.hid (show RecP S L from ⟨hi, HL.out, HP.out, .inr fun r _ => HNL.out L HL.out HP.out hA r⟩)
      clear hA
      go_wp2_with fail
      go_ret2
      exact ⟨⟨L, _, HR.out, by rw [HZE.out]; rfl, HO.out.lower hw1⟩, HFB.out⟩
    have hA' : (L.length : Int) + 1 < (ps.length : Int) := by omega
    by_cases hB : L.length < 300
    rotate_left
    · have hB' : ¬ (L.length : Int) < 300 := by omega
      have HR := Lib.hid (show RecP S L from ⟨hi, HL.out, HP.out, .inl (by omega)⟩)
      clear hA hB
      go_wp2_with fail
      go_ret2
      exact ⟨⟨L, _, HR.out, by rw [HZE.out]; rfl, HO.out.lower hw1⟩, HFB.out⟩
    have hB' : (L.length : Int) < 300 := by omega
    obtain ⟨p, m, hSe, hnp, hat⟩ := HNX.out L HL.out HP.out hA
    have hgc : wr.cell? ⟨g, L.length, none⟩ = some (.string (str p)) := by
      have h1 := HCS.out L.length (by omega)
      obtain ⟨h2, h3⟩ := List.getElem?_eq_some_iff.1 hat
      rw [h3] at h1
      exact (hb.out.cell (p := ⟨g, L.length, none⟩) hg2).trans h1
    have hpl : p.length ≤ 1000000 := Nat.le_trans (HPL.out p (List.mem_of_getElem? hat)) (by omega)
    have HLI := Lib.hid (fun (r : Int × Int) (hr : recB r.1 r.2 = true) h => line_is (n := (L.length : Int)) (s := s) (r := r) hSe hnp (by omega) hr hs0 hs1 h)
    have HLP := Lib.hid (line_pre hSe)
    clear hSe hnp hat
    go_wp2_with fail
    refine (l32Read_any p hpl _).mono ?_
    rintro e w3 ⟨⟨k', i', rfl, hrd⟩, hb3⟩
    have HRD := Lib.hid (show ∀ r : Int × Int, recB r.1 r.2 = true → p = lineL (L.length : Int) r s → (k', i') = r from fun r hr e => hrd L.length r s hr hs0 hs1 e)
    have hgc3 := keep_cell hb3 hgc
    have hs3 : w1.heap.size ≤ wr.heap.size := hb.out.size
    have B3 := Lib.hid (hb.out.trans (hb3.mono hs3))
    have O3 := Lib.hid (HO.out.below hb3)
    obtain ⟨X, hX⟩ : ∃ X, X = w3.heap.size := ⟨_, rfl⟩
    have BX := below1 w3 (.cells #[.int .i64 k', .int .i64 i'] RT)
    have X4 := Lib.hid (RB.new w3 k' i')
    have O4 := Lib.hid (O3.out.below BX)
    have B4 := Lib.hid (B3.out.trans (BX.mono B3.out.size))
    have hgc4 := Lib.hid (keep_cell BX hgc3)
    rw [← hX] at X4
    clear hb3 hb HO hgc hgc3 BX B3 O3 hrd
    go_upto_region 8 with (fail)
    rw [← hX]
    clear hX
    generalize w3.alloc (.cells #[.int .i64 k', .int .i64 i'] RT) = w4 at *
    have x0 := X4.out.c0
    have x1 := X4.out.c1
    go_wp2_with fail
    refine (specIsRecord_any k' i' _).mono ?_
    rintro e w5 ⟨rfl, hb5⟩
    have X5 := Lib.hid (X4.out.below hb5 X4.out.lt)
    have O5 := Lib.hid (O4.out.below hb5)
    have B5 := Lib.hid (B4.out.trans (hb5.mono B4.out.size))
    have hgc5 := Lib.hid (keep_cell hb5 hgc4.out)
    have F5 := Lib.hid (B1.out.trans (B5.out.mono hw1))
    clear hb5 X4 O4 B4 hgc4 x0 x1
    cases hrv : recB k' i' with
    | false =>
      have HR := Lib.hid (show RecP S L from ⟨hi, HL.out, HP.out, .inr fun r hr h => by
        rw [← HSE.out] at h
        have e1 := HRD.out r hr (HLI.out r hr h)
        rw [← e1] at hr
        rw [hrv] at hr; cases hr⟩)
      clear hrv
      go_wp2_with fail
      go_ret2
      exact ⟨⟨L, _, HR.out, by rw [HZE.out]; rfl, O5.out.lower hw1⟩, F5.out⟩
    | true =>
      have x0 := X5.out.c0
      have x1 := X5.out.c1
      go_wp2_with fail
      refine (l32Line_any L.length (by omega) hrv hs0 hs1 _).mono ?_
      rintro e w6 ⟨rfl, hb6⟩
      have X6 := Lib.hid (X5.out.below hb6 X5.out.lt)
      have O6 := Lib.hid (O5.out.below hb6)
      have B6 := Lib.hid (B5.out.trans (hb6.mono B5.out.size))
      have hgc6 := keep_cell hb6 hgc5.out
      have F6 := Lib.hid (B1.out.trans (B6.out.mono hw1))
      have hbd := recB_bd hrv
      have hlnl := lineL_le (n := (L.length : Int)) (r := (k', i')) (s := s) (by omega) (by omega) hbd.2.2.1 (by omega) hs0 hs1
      have hsb := sumL_bd hs0 hs1 (bodyL (L.length : Int) (k', i'))
      have HRV := Lib.hid hrv
      obtain ⟨ln, hln⟩ : ∃ ln, lineL (L.length : Int) (k', i') s = ln := ⟨_, rfl⟩
      obtain ⟨ns, hns⟩ : ∃ ns, sumL s (bodyL (L.length : Int) (k', i')) = ns := ⟨_, rfl⟩
      rw [hln] at hlnl
      rw [hns] at hsb
      rw [hln, hns]
      have HLN := Lib.hid hln
      have HNS := Lib.hid hns
      have hsz := str_size ln
      clear hb6 X5 O5 B5 F5 hgc5 x0 x1 hrv hbd hln hns
      by_cases hw : ln = p
      rotate_left
      · have hne : (!((str ln).toList == (str p).toList)) = true := by rw [str_eqB, decide_eq_false hw]; rfl
        have HR := Lib.hid (show RecP S L from ⟨hi, HL.out, HP.out, .inr fun r hr h => by
          rw [← HSE.out] at h
          have e0 := HLI.out r hr h
          have e1 := HRD.out r hr e0
          rw [← e1, HLN.out] at e0
          exact hw e0.symm⟩)
        clear hw
        go_wp2_with fail
        go_ret2
        exact ⟨⟨L, _, HR.out, by rw [HZE.out]; rfl, O6.out.lower hw1⟩, F6.out⟩
      · subst hw
        have x0 := X6.out.c0
        have x1 := X6.out.c1
        have hLb : L.length ≤ 16777216 := by omega
        have HS2 := Lib.hid (jouL_snoc L (k', i'))
        have HLP2 := Lib.hid (show (jouL (L ++ [(k', i')]) (L.length + 1)).1 <+: S from by
          rw [HS2.out, ← HSE.out, HLN.out]; exact HLP.out)
        have hz2 : z + ln.length + 1 ≤ 100000 := by
          have h1 := HLP2.out.length_le
          rw [HS2.out, ← HSE.out, HLN.out, List.length_append, List.length_append] at h1
          have h2 := HZE.out
          simp at h1
          omega
        go_wp2_with (at_builtin; refine appendR_one rfl _ _ _ rfl Tryd.underlying26 k' i' O6.out rfl _ rfl rfl hLb ?_; intro v' w7 hown7 hb7; refine Hid.out ?_)
        have O7 := Lib.hid hown7
        have B7 := Lib.hid (B6.out.trans hb7)
        clear hown7 hb7 O6 B6 F6 x0 x1 hgc6 X6
        refine Lib.hid ?_
        go_wp2_with fail
        go_roundw
        case rel => exact ⟨ns, z + ln.length + 1, L.length + 1, rfl, rfl, by go_num, by omega, hsb.1, hsb.2, by omega, hz2, Lib.hid ⟨L ++ [(k', i')], by simp, okL_snoc HL.out HRV.out, by rw [List.length_append]; exact HLP2.out, by rw [List.length_append]; show ns = (jouL (L ++ [(k', i')]) (L.length + 1)).2; rw [HS2.out, ← HSE.out]; exact HNS.out.symm, by rw [List.length_append]; show z + ln.length + 1 = (((jouL (L ++ [(k', i')]) (L.length + 1)).1.length : Nat) : Int); rw [HS2.out, ← HSE.out, HLN.out, List.length_append, List.length_append, HZE.out]; simp; omega, O7.out⟩, B7⟩
        case measure => simp [intOf]; omega
end Go.Proofs.YtmbphpmabopifaaDoor
