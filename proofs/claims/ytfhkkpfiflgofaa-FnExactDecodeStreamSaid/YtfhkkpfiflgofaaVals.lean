/-
  The walks of the reference's derivative, remainders, words of values, and values.
-/
import Derived.Test.YtfhkkpfiflgofaaEucP
import Derived.Test.YtfhkkpfiflgofaaEnc
namespace Go.Proofs.Ytfhkkpfiflgofaa
open Go.RowKit
set_option linter.unusedVariables false

/-- n times 1, as a number. -/
def nkI (V : VF) (n : Nat) : Int := (PS.nk n : El V).val
theorem nkI_el (V : VF) (n : Nat) : V.F.el (nkI V n) := (PS.nk n : El V).el
theorem of_nkI (V : VF) (n : Nat) : VF.of V (nkI V n) = PS.nk n := VF.val_of _
theorem nkI_prime {V : VF} (hb : V.F.bin = false) (n : Nat) : nkI V n = (n : Int) % V.F.size := by
  have hlo := V.ok.lo
  induction n with
  | zero => show (0 : El V).val = _; rw [VF.zero_val]; simp
  | succ n ih =>
    show ((PS.nk n : El V) + 1).val = _
    rw [VF.add_val, VF.one_val]
    show V.F.add (nkI V n) 1 = _
    rw [ih]
    unfold FF.add
    rw [if_neg (by simp [hb])]
    rw [Int.emod_add_emod]
    congr 1
theorem nkI_bin {V : VF} (hb : V.F.bin = true) (n : Nat) : nkI V n = ((n % 2 : Nat) : Int) := by
  induction n with
  | zero => show (0 : El V).val = _; rw [VF.zero_val]; simp
  | succ n ih =>
    show ((PS.nk n : El V) + 1).val = _
    rw [VF.add_val, VF.one_val]
    show V.F.add (nkI V n) 1 = _
    rw [ih]
    unfold FF.add
    rw [if_pos hb]
    rcases (show n % 2 = 0 ∨ n % 2 = 1 by omega) with h | h
    · rw [h, show (n + 1) % 2 = 1 by omega]; rfl
    · rw [h, show (n + 1) % 2 = 0 by omega]; rfl
theorem ffOf_bin (p pw g : Int) : (ffOf p pw g).bin = !(pw == 1) := by unfold ffOf; split <;> simp_all
theorem l03Times_any {V : VF} {p pw g : Int} (hs : SF V p pw g) (a : Int) (ha : V.F.el a) (n : Nat) (hn : n ≤ 100000) (w : World) :
    Calls Try.prog 158 #[fV p pw g, .int .i64 a, .int .i64 n] w fun e w' => e = .returned (.int .i64 (V.F.mul a (nkI V n))) ∧ Below w.heap.size w w' := by
  have hhi := V.ok.hi
  have hlo := V.ok.lo
  obtain ⟨ha0, ha1⟩ := ha
  by_cases h1 : pw = 1
  · subst h1
    have hb : V.F.bin = false := by rw [hs.hV, ffOf_bin]; rfl
    have hsz : V.F.size = p := by rw [hs.hV]; unfold ffOf; rw [if_pos rfl]
    have hm : (0 : Int) ≤ (n : Int) % p ∧ (n : Int) % p < p := ⟨Int.emod_nonneg _ (by omega), Int.emod_lt_of_pos _ (by omega)⟩
    have hf := Lib.hid (show V.F.mul a (nkI V n) = a * ((n : Int) % p) % p by
      rw [nkI_prime hb, hsz, ← mulP_eq V.F V.ok hb a ((n : Int) % p) ⟨ha0, ha1⟩ (by rw [FF.el, hsz]; exact hm), hsz])
    have hb1 : 0 ≤ a * ((n : Int) % p) := Int.mul_nonneg ha0 hm.1
    have hb2 : a * ((n : Int) % p) ≤ 1021 * 1021 := Int.mul_le_mul (by omega) (by omega) hm.1 (by omega)
    have q1 : IntKind.i64.wrap (a * ((n : Int) % p)) = a * ((n : Int) % p) := IntWalk.i64_in _ (by omega)
    rw [hsz] at hhi hlo
    go_enter Try.func158, Try.ntmps158
    go_wp2_with fail
    go_quiet (fail)
    go_wp2_with fail
    go_ret
    exact ⟨ret_int hf.out.symm, (below1 _ _).trans (Drew.below (drew4 _ _) _)⟩
  · have hb : V.F.bin = true := by rw [hs.hV, ffOf_bin]; simp [h1]
    have hpb : (pw == 1) = false := by simp [h1]
    have hf := Lib.hid (show V.F.mul a (nkI V n) = a * ((n : Int) % 2) by
      rw [nkI_bin hb]
      rcases (show n % 2 = 0 ∨ n % 2 = 1 by omega) with h | h
      · rw [h, show (n : Int) % 2 = 0 by omega]; simp [FF.mul_zero']
      · rw [h, show (n : Int) % 2 = 1 by omega]; simp [FF.mul_one' V.ok ⟨ha0, ha1⟩])
    have hm : (0 : Int) ≤ (n : Int) % 2 ∧ (n : Int) % 2 ≤ 1 := by omega
    have hb1 : 0 ≤ a * ((n : Int) % 2) := Int.mul_nonneg ha0 hm.1
    have hb2 : a * ((n : Int) % 2) ≤ 1021 * 1 := Int.mul_le_mul (by omega) (by omega) hm.1 (by omega)
    have q1 : IntKind.i64.wrap (a * ((n : Int) % 2)) = a * ((n : Int) % 2) := IntWalk.i64_in _ (by omega)
    go_enter Try.func158, Try.ntmps158
    go_wp2_with fail
    go_ret
    exact ⟨ret_int hf.out.symm, below1 _ _⟩
/-- The first k coefficients of a derivative. -/
def derTo (V : VF) (zs : List Int) (k : Nat) : List Int := (List.range k).map fun i => V.F.mul (gi zs (i + 1)) (nkI V (i + 1))
theorem derTo_length (V : VF) (zs : List Int) (k : Nat) : (derTo V zs k).length = k := by unfold derTo; simp
theorem derTo_succ (V : VF) (zs : List Int) (k : Nat) : derTo V zs (k + 1) = derTo V zs k ++ [V.F.mul (gi zs (k + 1)) (nkI V (k + 1))] := by unfold derTo; rw [List.range_succ, List.map_append]; rfl
theorem derTo_els (V : VF) (zs : List Int) (k : Nat) : VF.els V (derTo V zs k) := fun z hz => by
  obtain ⟨i, _, rfl⟩ := List.mem_map.1 hz
  exact FF.mul_el V.ok _ _
theorem derTo_ps {V : VF} {zs : List Int} (hz : VF.els V zs) : VF.ps V (derTo V zs (zs.length - 1)) = PS.D (VF.ps V zs) := PS.ext' fun i => by
  show VF.of V (gi (derTo V zs (zs.length - 1)) i) = PS.nk (i + 1) * VF.of V (gi zs (i + 1))
  rcases Nat.lt_or_ge i (zs.length - 1) with h | h
  · have e : gi (derTo V zs (zs.length - 1)) i = V.F.mul (gi zs (i + 1)) (nkI V (i + 1)) := by
      unfold derTo gi
      rw [List.getD_eq_getElem?_getD, List.getElem?_map, List.getElem?_range h]; rfl
    rw [e, VF.of_mul (show V.F.el (gi zs (i + 1)) from hz.getD _) (nkI_el V _), of_nkI]; grind
  · rw [gi_none (l := derTo V zs (zs.length - 1)) (by rw [derTo_length]; exact h), gi_none (l := zs) (by omega), VF.of_zero]; grind
theorem der_trim {V : VF} {zs : List Int} (hz : VF.els V zs) : VF.trim (derTo V zs (zs.length - 1)) = VF.lst V (PS.D (VF.ps V zs)) := by
  rw [VF.trim_lst (derTo_els V zs _), derTo_ps hz]
set_option maxHeartbeats 2000000 in
theorem l03Derivative_any {V : VF} {p pw g : Int} (hs : SF V p pw g) {w : World} {a : Option Addr} {n cap : Nat} {zs : List Int} (hr : RowAt w a n zs) (hn : n ≤ 4096) (hz : VF.els V zs) :
    Calls Try.prog 136 #[fV p pw g, .slice a n cap] w fun e w' => ∃ v, e = .returned v ∧ Below w.heap.size w w' ∧ OwnL w' w.heap.size v (VF.lst V (PS.D (VF.ps V zs))) := by
  have HR := Lib.hid hr
  have HZ := Lib.hid hz
  have hlen := Lib.hid hr.len
  clear hr hz
  have HO0 := Lib.hid (OwnL.empty (w.alloc (.cells #[.int .i64 p, .int .i64 pw, .int .i64 g] FTa)) (w.heap.size + 1) (by simp) (w.heap.size + 1) (by simp))
  have HB0 := Lib.hid ((below1 w (.cells #[.int .i64 p, .int .i64 pw, .int .i64 g] FTa)).alloc (by simp) (.cells #[] 2))
  have HX0 := Lib.hid ((box_new w p pw g FTa).below (below1 _ (.cells #[] 2)) (by simp))
  go_enter Try.func136, Try.ntmps136
  go_wp2_with fail
  go_loopw [5, 6] (fun o t wr => ∃ (k : Nat), 1 ≤ k ∧ (k ≤ n ∨ k = 1) ∧ t = .int .i64 k ∧ Hid (OwnL wr (w.heap.size + 1) o (derTo V zs (k - 1))) ∧ Hid (Below w.heap.size w wr) ∧ Hid (Box wr w.heap.size p pw g)) (fun _ t _ => (n + 1 - intOf t).toNat)
  case atStart => exact ⟨1, by omega, by omega, rfl, HO0, HB0, HX0⟩
  case round =>
    obtain ⟨k, hk1, hk, rfl, ho, hbel, hbox⟩ := hrel
    clear HO0 HB0 HX0
    obtain ⟨hlx, c0, c1, c2⟩ := hbox.out
    by_cases hlt : k < n
    · obtain ⟨b1, o1, rfl, _, hcs⟩ := (HR.out.below' hbel.out).at' (by omega)
      have hcell := hcs k hlt
      have hb1 : b1 < w.heap.size := by obtain ⟨_, _, e, h, _⟩ := HR.out.at' (by omega); cases e; exact h
      have HST := Lib.hid (show derTo V zs (k - 1) ++ [V.F.mul (gi zs k) (nkI V k)] = derTo V zs (k + 1 - 1) by
        obtain ⟨k', rfl⟩ : ∃ k', k = k' + 1 := ⟨k - 1, by omega⟩
        rw [Nat.add_sub_cancel, Nat.add_sub_cancel, derTo_succ])
      have hll : (derTo V zs (k - 1)).length ≤ 16777216 := by rw [derTo_length]; omega
      have hze : V.F.el (gi zs k) := HZ.out.getD k
      have HT := Lib.hid (fun W => l03Times_any hs (gi zs k) hze k (by omega) W)
      clear hcs hze
      generalize derTo V zs (k - 1) = lj at *
      generalize V.F.mul (gi zs k) (nkI V k) = tm at *
      generalize gi zs k = zk at *
      go_wp2_with fail
      go_region_held3 (fun w' => w'.cell? ⟨b1, o1 + k, none⟩ = some (.int .i64 zk) ∧ w'.cell? ⟨w.heap.size, 0, none⟩ = some (.int .i64 p) ∧ w'.cell? ⟨w.heap.size, 1, none⟩ = some (.int .i64 pw) ∧ w'.cell? ⟨w.heap.size, 2, none⟩ = some (.int .i64 g))
        (first | go_keep | ((try (dsimp only)); go_split_ands; (repeat' apply And.intro); all_goals (first | go_keep | exact keep_cell hbN (by assumption) | (rw [hb8.cell (by first | (simp; done) | (simp; omega))]; first | assumption | exact keep_cell hbN (by assumption)))))
        (first | (go_at_call 158; refine (HT.out _).mono ?_; rintro e w6 ⟨rfl, hbN⟩) | (have hbNx := hbN; refine step_one rfl _ _ _ rfl Try.underlying26 tm (ho.out.below ((Drew.below (drew1 wr) _).trans hbN)) rfl _ rfl rfl hll ?_; intro v' w8 hown8 hb8))
      all_goals
        rw [HST.out] at hown8
        have HB8 := Lib.hid (hbel.out.trans (((Drew.below (drew1 wr) w.heap.size).trans (hbN.mono hbel.out.size)).trans (hb8.mono (by omega))))
        have HX8 := Lib.hid ((hbox.out.below ((Drew.below (drew1 wr) _).trans hbN) hlx).below hb8 (by omega))
        have HO8 := Lib.hid hown8
        clear hown8 hb8 hbN
        go_wp2_with fail
        go_roundw
        case rel => exact ⟨k + 1, by omega, by omega, by go_num, HO8, HB8, HX8⟩
        case measure => simp [intOf]; omega
    · have HFI := Lib.hid (show VF.trim (derTo V zs (k - 1)) = VF.lst V (PS.D (VF.ps V zs)) by
        rw [← der_trim HZ.out, hlen.out]
        have : k - 1 = n - 1 := by omega
        rw [this])
      have hdl := derTo_length V zs (k - 1)
      obtain ⟨ao, co, rfl, hno, hro⟩ := ho.out.shape
      obtain ⟨_, _, e, hcc, _⟩ := ho.out.cap
      simp only [Value.slice.injEq] at e
      obtain ⟨-, -, rfl⟩ := e
      have HTR := Lib.hid (l03Trim_any (cap := co) hro.row hcc hno (by rw [hdl]; omega))
      rw [HFI.out] at HTR
      clear hcc hno hro hdl
      generalize (derTo V zs (k - 1)).length = ld at *
      go_wp2_with fail
      refine HTR.out.mono ?_
      rintro e w3 ⟨v3, rfl, hb3, ho3⟩
      have HB3 := Lib.hid (hbel.out.trans (hb3.mono hbel.out.size))
      have HO3 := Lib.hid (ho3.lower (C := w.heap.size) hbel.out.size)
      clear hb3 ho3
      go_wp2_with fail
      go_ret
      exact ⟨_, rfl, HB3.out, HO3.out⟩
theorem l05Mod_any {w : World} {a : Option Addr} {n cap : Nat} {zs : List Int} (hr : RowAt w a n zs) (hcap : n ≤ cap) (hca : a = none → cap = 0) (hn : n ≤ 16000000) (c : Nat) (hc : c ≤ 1000) :
    Calls Try.prog 133 #[.slice a n cap, .int .i64 c] w fun e w' => ∃ v, e = .returned v ∧ Below w.heap.size w w' ∧ OwnL w' w.heap.size v (VF.trim (zs.take c)) := by
  have HR := Lib.hid hr
  have HCA := Lib.hid hca
  have hl := Lib.hid hr.len
  have hsm := hr.small
  clear hr hca
  by_cases hcn : n < c
  · have HF := Lib.hid (show zs.take c = zs from List.take_of_length_le (by rw [hl.out]; omega))
    have hcn' : ¬ (c : Int) ≤ (n : Int) := by omega
    have HT := Lib.hid (l03Trim_any HR.out hcap HCA.out hn)
    rw [HF.out]
    go_enter Try.func133, Try.ntmps133
    go_wp2_with fail
    refine HT.out.mono ?_
    rintro e w3 ⟨v3, rfl, hb3, ho3⟩
    have HB3 := Lib.hid hb3
    have HO3 := Lib.hid ho3
    clear hb3 ho3
    go_wp2_with fail
    go_ret
    exact ⟨_, rfl, HB3.out, HO3.out⟩
  · have hrt : RowAt w a c (zs.take c) := ⟨by rw [List.length_take, hl.out]; omega, by omega, fun h0 => by
      obtain ⟨b, off, e, hb, hcs⟩ := HR.out.at' (by omega)
      exact ⟨b, off, e, hb, fun j hj => by rw [gi_take (show j < c by omega)]; exact hcs j (by omega)⟩⟩
    have hcn' : (c : Int) ≤ (n : Int) := by omega
    have HT := Lib.hid (l03Trim_any (cap := cap) hrt (by omega) HCA.out (by omega))
    clear hrt
    go_enter Try.func133, Try.ntmps133
    go_wp2_with fail
    all_goals
      refine HT.out.mono ?_
      rintro e w3 ⟨v3, rfl, hb3, ho3⟩
      have HB3 := Lib.hid hb3
      have HO3 := Lib.hid ho3
      clear hb3 ho3
      go_wp2_with fail
      go_ret
      exact ⟨_, rfl, HB3.out, HO3.out⟩
set_option maxHeartbeats 1000000 in
theorem l05Spread_any (p pw g c : Int) (L : Nat) (hL : L ≤ 255) {w : World} {a : Option Addr} {n cap : Nat} {idx : List Int} (hr : RowAt w a n idx) {a' : Option Addr} {n' cap' : Nat} {vals : List Int} (hr' : RowAt w a' n' vals) (hn : n ≤ n') (hris : RisTo 0 ((L : Int) - 1) idx n) :
    Calls Try.prog 81 #[cV p pw g L c, .slice a n cap, .slice a' n' cap'] w fun e w' => ∃ v, e = .returned v ∧ Below w.heap.size w w' ∧ OwnL w' w.heap.size v (spread L idx vals) := by
  have HR := Lib.hid hr
  have HR' := Lib.hid hr'
  have HRIS := Lib.hid hris
  have hlen := Lib.hid hr.len
  have hsm := hr.small
  clear hr hr' hris
  have hmk := fun w => run_make_ints w 26 Try.underlying26 (L : Int) (by omega) (by omega)
  simp only [Int.toNat_natCast] at hmk
  go_enter Try.func81, Try.ntmps81
  go_wp2_with fail
  clear hmk
  have HO0 := Lib.hid (show OwnL ((w.alloc (.cells #[.int .i64 p, .int .i64 pw, .int .i64 g, .int .i64 (L : Int), .int .i64 c] CT)).alloc (.cells (madeCells #[.int .i64 0] L) 2)) w.heap.size (.slice (some ⟨w.heap.size + 1, 0, none⟩) L L) (spTo L idx vals 0) by
    have := OwnL.zeros (w.alloc (.cells #[.int .i64 p, .int .i64 pw, .int .i64 g, .int .i64 (L : Int), .int .i64 c] CT)) w.heap.size (by simp) L (by omega)
    rw [show (w.alloc (.cells #[.int .i64 p, .int .i64 pw, .int .i64 g, .int .i64 (L : Int), .int .i64 c] CT)).heap.size = w.heap.size + 1 by simp] at this
    exact this)
  have HB0 := Lib.hid ((below1 w (.cells #[.int .i64 p, .int .i64 pw, .int .i64 g, .int .i64 (L : Int), .int .i64 c] CT)).alloc (by simp) (.cells (madeCells #[.int .i64 0] L) 2))
  go_loopw [8] (fun t wr => ∃ k : Nat, k ≤ n ∧ t = .int .i64 k ∧ Hid (OwnL wr w.heap.size (.slice (some ⟨w.heap.size + 1, 0, none⟩) L L) (spTo L idx vals k)) ∧ Hid (Below w.heap.size w wr)) (fun t _ => (n - intOf t).toNat)
  case atStart => exact ⟨0, by omega, rfl, HO0, HB0⟩
  case round =>
    obtain ⟨k, hk, rfl, ho, hbel⟩ := hrel
    clear HO0 HB0
    by_cases hlt : k < n
    · obtain ⟨b1, o1, rfl, _, hcs⟩ := (HR.out.below' hbel.out).at' (by omega)
      have hc1 := hcs k hlt
      obtain ⟨b2, o2, rfl, _, hcs2⟩ := (HR'.out.below' hbel.out).at' (by omega)
      have hc2 := hcs2 k (by omega)
      obtain ⟨hi0, hi1, _⟩ := HRIS.out k hlt
      have hsp := spTo_length L idx vals k
      obtain ⟨J, hJ⟩ : ∃ J : Nat, gi idx k = (J : Int) := ⟨(gi idx k).toNat, by omega⟩
      have hJL : J < L := by omega
      obtain ⟨_, _, ea, -, hra⟩ := ho.out.shape
      simp only [Value.slice.injEq] at ea
      obtain ⟨rfl, -, -⟩ := ea
      obtain ⟨hp, hfz, hlt1⟩ := hra.place (i := J) (by rw [hsp]; exact hJL)
      have HS := Lib.hid (show OwnL (wr.setCell ⟨w.heap.size + 1, J, none⟩ (.int .i64 (gi vals k))) w.heap.size (.slice (some ⟨w.heap.size + 1, 0, none⟩) L L) (spTo L idx vals (k + 1)) by
        have := ho.out.set (k := J) (by rw [hsp]; exact hJL) (gi vals k)
        show OwnL _ _ _ ((spTo L idx vals k).set (gi idx k).toNat (gi vals k))
        rw [hJ, Int.toNat_natCast]; exact this)
      have HB := Lib.hid (hbel.out.setCell (p := ⟨w.heap.size + 1, J, none⟩) (by simp) (.int .i64 (gi vals k)))
      rw [hJ] at hc1
      have q2 : (J : Int) < (L : Int) := by omega
      clear hcs hcs2 hra hsp hi0 hi1 hJ
      go_wp2_with fail
      go_region
      go_wp2_with fail
      go_roundw
      case rel => exact ⟨k + 1, by omega, by go_num, Lib.hid (HS.out.below (Drew.below (drew1 _) _)), Lib.hid (HB.out.trans (Drew.below (drew1 _) _))⟩
      case measure => simp [intOf]; omega
    · obtain rfl : k = n := by omega
      have HFI := Lib.hid (show spTo L idx vals k = spread L idx vals by unfold spread; rw [hlen.out])
      rw [HFI.out] at ho
      go_wp2_with fail
      go_ret
      exact ⟨_, rfl, hbel.out, ho.out⟩
set_option maxHeartbeats 4000000 in
theorem l05Values_any {V : VF} {p pw g c : Int} {L : Nat} (hs : SC V p pw g L c) {w : World} {a : Option Addr} {n cap : Nat} {S : List Int} (hr : RowAt w a n S) (hcap : n ≤ cap) (hca : a = none → cap = 0) (hz : VF.els V S) (hn : (n : Int) = c)
    {a' : Option Addr} {n' cap' : Nat} {idx : List Int} (hr' : RowAt w a' n' idx) (hris : RisTo 0 ((L : Int) - 1) idx n') :
    Calls Try.prog 86 #[cV p pw g L c, .slice a n cap, .slice a' n' cap'] w fun e w' => ∃ v, e = .returned v ∧ Below w.heap.size w w' ∧ OwnL w' w.heap.size v (valsL V L n S idx) := by
  obtain ⟨_, hc1, hc2, hcl, hl1, hlz⟩ := validC_iff hs.valid
  obtain rfl : c = (n : Int) := hn.symm
  have hlV : (L : Int) < V.F.size := by rw [hs.sf.hV]; exact hlz
  have HR := Lib.hid hr
  have HCA := Lib.hid hca
  have HZ := Lib.hid hz
  have HR' := Lib.hid hr'
  have HRIS := Lib.hid hris
  have hlen := Lib.hid hr'.len
  have hnl : (n' : Int) ≤ L := by
    have := hris
    rw [← hr'.len] at this
    have := ris_len this (by omega)
    have := hr'.len; omega
  clear hr hr' hris hca hz
  go_enter Try.func86, Try.ntmps86
  go_wp2_with fail
  have HB0 := Lib.hid ((below1 w (.cells #[.int .i64 p, .int .i64 pw, .int .i64 g, .int .i64 (L : Int), .int .i64 (n : Int)] CT)).alloc (by simp) (.cells #[.int .i64 p, .int .i64 pw, .int .i64 g] FTa))
  have HX0 := Lib.hid ((boxC_new w p pw g L n CT).below (below1 _ (.cells #[.int .i64 p, .int .i64 pw, .int .i64 g] FTa)) (by simp))
  have HF0 := Lib.hid (show Box ((w.alloc (.cells #[.int .i64 p, .int .i64 pw, .int .i64 g, .int .i64 (L : Int), .int .i64 (n : Int)] CT)).alloc (.cells #[.int .i64 p, .int .i64 pw, .int .i64 g] FTa)) (w.heap.size + 1) p pw g by
    have := box_new (w.alloc (.cells #[.int .i64 p, .int .i64 pw, .int .i64 g, .int .i64 (L : Int), .int .i64 (n : Int)] CT)) p pw g FTa
    rw [show (w.alloc (.cells #[.int .i64 p, .int .i64 pw, .int .i64 g, .int .i64 (L : Int), .int .i64 (n : Int)] CT)).heap.size = w.heap.size + 1 by simp] at this
    exact this)
  refine (l05Polynomial_any (c := (n : Int)) hs.sf hl1 (cap := cap') (HR'.out.below' HB0.out) (by omega) HRIS.out).mono ?_
  rintro e w1 ⟨v1, rfl, hb1, ho1⟩
  obtain ⟨a1, k1, rfl, hk1, hr1⟩ := ho1.shape
  obtain ⟨_, _, ee, hkc1, _⟩ := ho1.cap
  simp only [Value.slice.injEq] at ee
  obtain ⟨-, -, rfl⟩ := ee
  have HR1 := Lib.hid hr1.row
  have HK1 := Lib.hid hk1
  have HB1 := Lib.hid (HB0.out.trans (hb1.mono HB0.out.size))
  have HX1 := Lib.hid (HX0.out.below hb1 HX0.out.lt)
  have HF1 := Lib.hid (HF0.out.below hb1 HF0.out.lt)
  have hlp := locP_len V (L : Int) idx
  rw [hlen.out] at hlp
  have HLE := Lib.hid (VF.lst_isP (locP_poly V (L : Int) idx)).els
  have HLP := Lib.hid (VF.lst_eq (locP_poly V (L : Int) idx))
  have hml := VF.lst_mul_len (V := V) (VF.trim S) (VF.lst V (locP V (L : Int) idx))
  have htl : (VF.trim S).length ≤ n := by rw [VF.trim_length, HR.out.len]; exact VF.tlen_le _ _
  have HTE := Lib.hid (trim_els HZ.out)
  clear hb1 ho1 hr1 hk1 hkc1 HB0 HX0 HF0
  have HT := Lib.hid (fun W (hb : Below w1.heap.size w1 W) => l03Trim_any (cap := cap) ((HR.out.below' HB1.out).below' hb) hcap HCA.out (by omega))
  obtain ⟨ll, hll⟩ : ∃ ll, (VF.lst V (locP V (L : Int) idx)).length = ll := ⟨_, rfl⟩
  rw [hll] at HR1 hlp hml ⊢
  have HMU := Lib.hid (fun W (hb : Below w1.heap.size w1 W) (a7 : Option Addr) (c7 : Nat) (h7 : RowAt W a7 (VF.trim S).length (VF.trim S)) => hs.sf.lmul (cap := c7) (cap' := k1) h7 (by omega) (HR1.out.below' hb) (by omega) HTE.out HLE.out)
  rw [HLP.out] at HMU hml
  have HMO := Lib.hid (fun W (a8 : Option Addr) (n8 c8 : Nat) (h8 : RowAt W a8 n8 (VF.lst V (VF.ps V (VF.trim S) * locP V (L : Int) idx))) (h1 : n8 ≤ c8) (h2 : a8 = none → c8 = 0) (h3 : n8 ≤ 4000) => l05Mod_any h8 h1 h2 (by omega) n (by omega))
  have HOM := Lib.hid (show VF.trim ((VF.lst V (VF.ps V (VF.trim S) * locP V (L : Int) idx)).take n) = omL V L n S idx from rfl)
  rw [HOM.out] at HMO
  obtain ⟨_, x0, x1, x2, x3, x4⟩ := HX1.out
  obtain ⟨_, f0, f1, f2⟩ := HF1.out
  have HLL := Lib.hid hll
  clear hll
  generalize VF.lst V (VF.ps V (VF.trim S) * locP V (L : Int) idx) = pm at *
  generalize VF.trim S = ts at *
  go_wp2_with fail
  go_region_held3 (fun w' => w'.cell? ⟨w.heap.size + 1, 0, none⟩ = some (.int .i64 p) ∧ w'.cell? ⟨w.heap.size + 1, 1, none⟩ = some (.int .i64 pw) ∧ w'.cell? ⟨w.heap.size + 1, 2, none⟩ = some (.int .i64 g) ∧ w'.cell? ⟨w.heap.size, 4, none⟩ = some (.int .i64 (n : Int)))
    (first | go_keep | ((try (dsimp only)); go_split_ands; (repeat' apply And.intro); all_goals (first | go_keep | exact keep_cell hbO (by assumption) | exact keep_cell hbM (by assumption) | exact keep_cell hbT (by assumption))))
    (first | (go_at_call 135; refine (HT.out _ (Drew.below (drew1 w1) _)).mono ?_; rintro e w3 ⟨v3, rfl, hbT, hoT⟩; have hb3 := Below.more (Drew.below (drew1 w1) w1.heap.size) (Nat.le_refl _) hbT; obtain ⟨a3, c3', rfl, -, h3⟩ := hoT.shape) | (go_at_call 134; refine (HMU.out _ hb3 a3 c3' h3.row).mono ?_; rintro e w4 ⟨v4, rfl, hbM, hoM⟩; obtain ⟨a4, c4', rfl, hc4, h4⟩ := hoM.shape; obtain ⟨_, _, e4, hcc4, _⟩ := hoM.cap; simp only [Value.slice.injEq] at e4; obtain ⟨-, -, rfl⟩ := e4) | (go_at_call 133; refine (HMO.out w4 a4 _ c4' h4.row hcc4 hc4 ?_).mono ?_; (first | omega | skip); rintro e w5 ⟨v5, rfl, hbO, hoO⟩))
  have hb5 := Below.more (Below.more hb3 (Nat.le_refl _) hbM) (Nat.le_refl _) hbO
  have HB5 := Lib.hid (HB1.out.trans (hb5.mono HB1.out.size))
  have HX5 := Lib.hid (HX1.out.below hb5 HX1.out.lt)
  have HF5 := Lib.hid (HF1.out.below hb5 HF1.out.lt)
  obtain ⟨ao, co, rfl, -, hro⟩ := hoO.shape
  have HRO := Lib.hid hro.row
  have HD := Lib.hid (l03Derivative_any hs.sf (cap := k1) (HR1.out.below' hb5) (by omega) HLE.out)
  rw [HLP.out, show VF.lst V (PS.D (locP V (L : Int) idx)) = slL V L idx from rfl] at HD
  have HOE := Lib.hid (omL_els V L n S idx)
  have HSE := Lib.hid (show VF.els V (slL V L idx) from (VF.lst_isP (PS.isPoly_D (locP_poly V (L : Int) idx))).els)
  clear hbT hbM hbO hoT hoM hoO h3 h4 hcc4 hc4 hro hb3 hb5 x0 x1 x2 x3 x4 f0 f1 f2 HT HMU HMO
  obtain ⟨_, f0, f1, f2⟩ := HF5.out
  go_wp2_with fail
  refine HD.out.mono ?_
  rintro e w6 ⟨v6, rfl, hb6, ho6⟩
  have HB6 := Lib.hid (HB5.out.trans (hb6.mono HB5.out.size))
  have HX6 := Lib.hid (HX5.out.below hb6 HX5.out.lt)
  have HF6 := Lib.hid (HF5.out.below hb6 HF5.out.lt)
  have HRO6 := Lib.hid (HRO.out.below' hb6)
  obtain ⟨a6, c6, rfl, -, h6⟩ := ho6.shape
  have HRS6 := Lib.hid h6.row
  clear hb6 ho6 h6 f0 f1 f2 HD HRO
  obtain ⟨nO, hnO⟩ : ∃ nO, (omL V L n S idx).length = nO := ⟨_, rfl⟩
  obtain ⟨nS, hnS⟩ : ∃ nS, (slL V L idx).length = nS := ⟨_, rfl⟩
  rw [hnO] at HRO6 ⊢
  rw [hnS] at HRS6 ⊢
  clear hnO hnS
  have HO7 := Lib.hid (OwnL.empty w6 _ (Nat.le_refl _) _ rfl)
  have HB7 := Lib.hid (below1 w6 (.cells #[] 2))
  go_wp2_with fail
  go_loopw [11, 12] (fun o t wr => ∃ k : Nat, k ≤ n' ∧ t = .int .i64 k ∧ Hid (OwnL wr w6.heap.size o ((valsL V L n S idx).take k)) ∧ Hid (Below w6.heap.size w6 wr)) (fun _ t _ => (n' - intOf t).toNat)
  case atStart => exact ⟨0, by omega, rfl, HO7, HB7⟩
  case round =>
    obtain ⟨k, hk, rfl, ho, hbel⟩ := hrel
    clear HO7 HB7
    have hvl : (valsL V L n S idx).length = n' := by unfold valsL; rw [List.length_map, hlen.out]
    by_cases hlt : k < n'
    · have HBW := Lib.hid (HB6.out.trans (hbel.out.mono HB6.out.size))
      obtain ⟨b1, o1, rfl, _, hcs⟩ := (HR'.out.below' HBW.out).at' (by omega)
      have hcell := hcs k hlt
      obtain ⟨hi0, hi1, _⟩ := HRIS.out k hlt
      have hle := locI_el V (L : Int) (gi idx k)
      have hln := locI_ne (V := V) (L : Int) (gi idx k)
      have hie := FF.inv_el V.ok (locI V.F L (gi idx k))
      have hmem : gi idx k ∈ idx := by
        unfold gi
        rw [List.getD_eq_getElem?_getD, List.getElem?_eq_getElem (by rw [hlen.out]; exact hlt)]
        exact List.getElem_mem _
      have hsv := slope_val (V := V) hlV (by rw [hlen.out]; exact HRIS.out) hmem
      have HP := Lib.hid (fun W => l05Locator_any (c := (n : Int)) hs.sf hl1 (gi idx k) hi0 hi1 W)
      have HI := Lib.hid (fun W => hs.sf.inv (locI V.F L (gi idx k)) hle hln W)
      have heo := evI_el V.ok HOE.out (V.F.inv (locI V.F L (gi idx k)))
      have hes := evI_el V.ok HSE.out (V.F.inv (locI V.F L (gi idx k)))
      have HE1 := Lib.hid (fun W (hb : Below wr.heap.size wr W) => l03Eval_any p pw g (SF.hv hs.sf) (cap := co) ((HRO6.out.below' hbel.out).below' hb) (by rw [← hs.sf.hV]; exact HOE.out) (V.F.inv (locI V.F L (gi idx k))) (by rw [← hs.sf.hV]; exact hie))
      have HE2 := Lib.hid (fun W (hb : Below wr.heap.size wr W) => l03Eval_any p pw g (SF.hv hs.sf) (cap := c6) ((HRS6.out.below' hbel.out).below' hb) (by rw [← hs.sf.hV]; exact HSE.out) (V.F.inv (locI V.F L (gi idx k))) (by rw [← hs.sf.hV]; exact hie))
      rw [← hs.sf.hV] at HE1 HE2
      have HI2 := Lib.hid (fun W => hs.sf.inv _ hes hsv W)
      have hi2 := FF.inv_el V.ok (evI V.F (slL V L idx) (V.F.inv (locI V.F L (gi idx k))))
      have HM := Lib.hid (fun W => hs.sf.mul _ _ heo hi2 W)
      have hme := FF.mul_el V.ok (evI V.F (omL V L n S idx) (V.F.inv (locI V.F L (gi idx k)))) (V.F.inv (evI V.F (slL V L idx) (V.F.inv (locI V.F L (gi idx k)))))
      have HN := Lib.hid (fun W => hs.sf.neg _ hme W)
      have HST := Lib.hid (show (valsL V L n S idx).take k ++ [V.F.neg (V.F.mul (evI V.F (omL V L n S idx) (V.F.inv (locI V.F L (gi idx k)))) (V.F.inv (evI V.F (slL V L idx) (V.F.inv (locI V.F L (gi idx k))))))] = (valsL V L n S idx).take (k + 1) by
        rw [VF.take_succ_getD _ k (by rw [hvl]; exact hlt)]
        congr 2
        exact (valsL_gi _ _ _ _ _ (by rw [hlen.out]; exact hlt)).symm)
      have hll : ((valsL V L n S idx).take k).length ≤ 16777216 := by rw [List.length_take]; omega
      obtain ⟨_, x0, x1, x2, x3, x4⟩ := HX6.out.below hbel.out HX6.out.lt
      obtain ⟨_, f0, f1, f2⟩ := HF6.out.below hbel.out HF6.out.lt
      clear hcs hle hln hie hmem hsv heo hes hi2 hme hvl hi0 hi1
      generalize (valsL V L n S idx).take k = r at *
      generalize V.F.inv (locI V.F L (gi idx k)) = iv at *
      generalize locI V.F L (gi idx k) = lv at *
      generalize gi idx k = z at *
      go_wp2_with fail
      go_region_held3 (fun w' => w'.cell? ⟨b1, o1 + k, none⟩ = some (.int .i64 z) ∧ w'.cell? ⟨w.heap.size + 1, 0, none⟩ = some (.int .i64 p) ∧ w'.cell? ⟨w.heap.size + 1, 1, none⟩ = some (.int .i64 pw) ∧ w'.cell? ⟨w.heap.size + 1, 2, none⟩ = some (.int .i64 g) ∧ w'.cell? ⟨w.heap.size, 0, none⟩ = some (.int .i64 p) ∧ w'.cell? ⟨w.heap.size, 1, none⟩ = some (.int .i64 pw) ∧ w'.cell? ⟨w.heap.size, 2, none⟩ = some (.int .i64 g) ∧ w'.cell? ⟨w.heap.size, 3, none⟩ = some (.int .i64 (L : Int)) ∧ w'.cell? ⟨w.heap.size, 4, none⟩ = some (.int .i64 (n : Int)))
        (first | go_keep | ((try (dsimp only)); go_split_ands; (repeat' apply And.intro); all_goals (first | go_keep | exact keep_cell hbI (by assumption) | exact keep_cell hbP (by assumption))))
        (first | (go_at_call 138; refine (HP.out _).mono ?_; rintro e w8 ⟨rfl, hbP⟩) | (go_at_call 137; refine (HI.out _).mono ?_; rintro e w9 ⟨rfl, hbI⟩))
      have hb9 := Below.more (Below.trans (Drew.below (drew1 wr) wr.heap.size) hbP) (Nat.le_refl _) hbI
      have HB9 := Lib.hid hb9
      have HBC9 := Lib.hid (hbel.out.trans (hb9.mono hbel.out.size))
      clear hbP hbI x0 x1 x2 x3 x4 f0 f1 f2 hcell hb9
      have HE1' := Lib.hid (fun W (hb : Below w9.heap.size w9 W) => HE1.out W (HB9.out.trans (hb.mono HB9.out.size)))
      have HE2' := Lib.hid (fun W (hb : Below w9.heap.size w9 W) => HE2.out W (HB9.out.trans (hb.mono HB9.out.size)))
      clear HE1 HE2 HP HI
      obtain ⟨_, f0, f1, f2⟩ := HF6.out.below HBC9.out HF6.out.lt
      go_wp2_with fail
      go_region_held3 (fun w' => w'.cell? ⟨w.heap.size + 1, 0, none⟩ = some (.int .i64 p) ∧ w'.cell? ⟨w.heap.size + 1, 1, none⟩ = some (.int .i64 pw) ∧ w'.cell? ⟨w.heap.size + 1, 2, none⟩ = some (.int .i64 g))
        (first | go_keep | ((try (dsimp only)); go_split_ands; (repeat' apply And.intro); all_goals (first | go_keep | exact keep_cell hbM (by assumption) | exact keep_cell hbI (by assumption) | exact keep_cell hbE (by assumption))))
        (first | (go_at_call 139; with_reducible refine (HE1'.out _ ?_).mono ?_; (first | exact hacc | exact Drew.below (drew1 w9) _); rintro e wa ⟨rfl, hbE⟩; (first | (have hacc := Below.more hacc (Nat.le_refl _) hbE) | (have hacc := Below.more (Drew.below (drew1 w9) w9.heap.size) (Nat.le_refl _) hbE))) | (go_at_call 139; with_reducible refine (HE2'.out _ ?_).mono ?_; (first | exact hacc | exact Drew.below (drew1 w9) _); rintro e wa ⟨rfl, hbE⟩; (first | (have hacc := Below.more hacc (Nat.le_refl _) hbE) | (have hacc := Below.more (Drew.below (drew1 w9) w9.heap.size) (Nat.le_refl _) hbE))) | (go_at_call 137; refine (HI2.out _).mono ?_; rintro e wa ⟨rfl, hbI⟩; have hacc := Below.more hacc (Nat.le_refl _) hbI) | (go_at_call 126; refine (HM.out _).mono ?_; rintro e wz ⟨rfl, hbM⟩; have hacc := Below.more hacc (Nat.le_refl _) hbM))
      have HBZ := Lib.hid (HBC9.out.trans (hacc.mono HBC9.out.size))
      have HFZ := Lib.hid (HF6.out.below HBZ.out HF6.out.lt)
      have HOZ := Lib.hid (ho.out.below (HB9.out.trans (hacc.mono HB9.out.size)))
      clear hbE hbI hbM hacc f0 f1 f2 HE1' HE2' HI2 HM
      obtain ⟨_, f0, f1, f2⟩ := HFZ.out
      go_wp2_with fail
      refine (HN.out _).mono ?_
      rintro e wn ⟨rfl, hbN⟩
      have HBN := Lib.hid (HBZ.out.trans (hbN.mono HBZ.out.size))
      have HON := Lib.hid (HOZ.out.below hbN)
      clear hbN f0 f1 f2 HN
      generalize V.F.neg (V.F.mul (evI V.F (omL V L n S idx) iv) (V.F.inv (evI V.F (slL V L idx) iv))) = y5 at *
      go_wp2_with (at_builtin; refine append_one rfl _ _ _ rfl Try.underlying26 y5 HON.out rfl _ rfl rfl hll ?_; intro v' wq hownq hbq)
      rw [HST.out] at hownq
      have HBQ := Lib.hid (HBN.out.trans hbq)
      have HOQ := Lib.hid hownq
      clear hownq hbq
      go_wp2_with fail
      exact ⟨⟨k + 1, by omega, by go_num, HOQ, HBQ⟩, by simp [intOf]; omega⟩
    · obtain rfl : k = n' := by omega
      have HFI := Lib.hid (show (valsL V L n S idx).take k = valsL V L n S idx from List.take_of_length_le (by rw [hvl]; exact Nat.le_refl _))
      rw [HFI.out] at ho
      have HBE := Lib.hid (HB6.out.trans (hbel.out.mono HB6.out.size))
      go_wp2_with fail
      go_ret
      exact ⟨_, rfl, HBE.out, ho.out.lower HB6.out.size⟩
end Go.Proofs.Ytfhkkpfiflgofaa
