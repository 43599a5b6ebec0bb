/-
  The library's functions on rows of bytes: the index of a byte, splitting, prefixes, reading an integer.
-/
import Derived.Test.YtmbphpmabopifaaDoorRcvP
import Derived.Test.YtmbphpmabopifaaDoorJouI
import Derived.Test.YtmbphpmabopifaaDoorRcvS
import Derived.BigQuiet
import Derived.Test.YtmbphpmabopifaaDoorShB
import Derived.Lib.SlSplitV
namespace Go.Proofs.YtmbphpmabopifaaDoor
open Go.RowKit
set_option linter.unusedVariables false

/-- The numbers of some bytes. -/
def numL (l : List UInt8) : List Int := l.map fun c => (c.toNat : Int)
theorem numL_length (l : List UInt8) : (numL l).length = l.length := by simp [numL]
theorem numL_bytes (l : List UInt8) : Lib.bytesOf (numL l) = l := by
  unfold Lib.bytesOf numL
  rw [List.map_map]
  conv => rhs; rw [← List.map_id l]
  apply List.map_congr_left
  intro c _
  simp
theorem numL_bd (l : List UInt8) : ∀ x ∈ numL l, 0 ≤ x ∧ x < 256 := by
  intro x hx
  unfold numL at hx
  obtain ⟨c, _, rfl⟩ := List.mem_map.1 hx
  have := c.toNat_lt
  omega
theorem numL_at (l : List UInt8) (i : Nat) (h : i < l.length) : (numL l).getD i 0 = (l[i].toNat : Int) := by
  unfold numL; rw [List.getD_eq_getElem?_getD]; simp [h]
theorem RowU.num {w : World} {ad : Addr} {n cap : Nat} {bs : List UInt8} (h : RowU w (some ad) n cap bs) : ∀ i, i < n → w.cell? (ad.add i) = some (.int .u8 ((numL bs).getD i 0)) := by
  intro i hi
  have hl := h.len
  rw [numL_at bs i (by omega)]
  exact (h.at' ad rfl).2 i (by omega)
theorem indexB_hit (p m : List UInt8) (b : UInt8) (h : noB b p) : Lib.indexByte (p ++ b :: m) b = (p.length : Int) := by
  induction p with
  | nil => simp [Lib.indexByte]
  | cons x p ih =>
    have hx : (x == b) = false := by simpa using h x (by simp)
    have h2 := ih fun c hc => h c (by simp [hc])
    show (if x == b then (0 : Int) else if Lib.indexByte (p ++ b :: m) b == -1 then -1 else Lib.indexByte (p ++ b :: m) b + 1) = _
    rw [hx, h2]
    have h3 : ((p.length : Int) == -1) = false := by (try simp) <;> omega
    rw [h3]; simp
theorem indexB_miss (p : List UInt8) (b : UInt8) (h : noB b p) : Lib.indexByte p b = -1 := by
  induction p with
  | nil => rfl
  | cons x p ih =>
    have hx : (x == b) = false := by simpa using h x (by simp)
    have h2 := ih fun c hc => h c (by simp [hc])
    show (if x == b then (0 : Int) else if Lib.indexByte p b == -1 then -1 else Lib.indexByte p b + 1) = _
    rw [hx, h2]; simp
/-- bytes.IndexByte at a newline. -/
theorem indexNL_any {w : World} {a : Option Addr} {n cap : Nat} {bs : List UInt8} (h : RowU w a n cap bs) :
    Calls Tryd.prog 54 #[.slice a n cap, .int .u8 10] w fun e w' => e = .returned (.int .i64 (Lib.indexByte bs 10)) ∧ w = w' := by
  cases a with
  | none =>
    have hc := h.no rfl
    have hl := h.len
    have hle := h.le
    obtain rfl : n = 0 := by omega
    subst hc
    have hb : bs = [] := List.eq_nil_of_length_eq_zero hl
    subst hb
    exact (Tryd.bytes_IndexByte_nil 10 w).mono fun e w' ⟨h1, h2⟩ => ⟨h1, h2.symm⟩
  | some ad =>
    refine (Tryd.bytes_IndexByte_at ad n cap (numL bs) 10 w (by rw [numL_length]; exact h.len) h.num).mono fun e w' ⟨h1, h2⟩ => ⟨?_, h2.symm⟩
    rw [h1, numL_bytes]; rfl
theorem count_split (b : UInt8) : ∀ (fuel : Nat) (l : List UInt8), l.length < fuel → Lib.countFrom [b] fuel l + 1 = (splitL b l).length := by
  intro fuel
  induction fuel with
  | zero => intro l h; omega
  | succ fuel ih =>
    intro l h
    by_cases hb : b ∈ l
    · obtain ⟨p, m, rfl, hnp⟩ := first_cut l hb
      have h1 : Lib.index (p ++ b :: m) [b] = (p.length : Int) := by rw [Lib.index_one]; exact indexB_hit p m b hnp
      have h2 : (Lib.index (p ++ b :: m) [b] == -1) = false := by rw [h1]; (try simp) <;> omega
      have h3 : (p ++ b :: m).drop ((Lib.index (p ++ b :: m) [b]).toNat + [b].length) = m := by rw [h1]; simp
      show (if Lib.index (p ++ b :: m) [b] == -1 then 0 else 1 + Lib.countFrom [b] fuel ((p ++ b :: m).drop ((Lib.index (p ++ b :: m) [b]).toNat + [b].length))) + 1 = _
      rw [h2, h3, splitL_cons hnp, List.length_cons, ← ih m (by simp at h; omega)]
      simp; omega
    · have hno : noB b l := fun c hc e => hb (e ▸ hc)
      have h1 : (Lib.index l [b] == -1) = true := by rw [Lib.index_one, indexB_miss l b hno]; rfl
      show (if Lib.index l [b] == -1 then 0 else 1 + Lib.countFrom [b] fuel (l.drop ((Lib.index l [b]).toNat + [b].length))) + 1 = _
      rw [h1, splitL_one hno]; rfl
theorem splitK_split (b : UInt8) : ∀ (k : Nat) (l : List UInt8), k + 1 = (splitL b l).length → Lib.splitK [b] 0 k l = splitL b l := by
  intro k
  induction k with
  | zero =>
    intro l h
    by_cases hb : b ∈ l
    · obtain ⟨p, m, rfl, hnp⟩ := first_cut l hb
      rw [splitL_cons hnp, List.length_cons] at h
      have := splitL_pos b m
      omega
    · have hno : noB b l := fun c hc e => hb (e ▸ hc)
      rw [splitL_one hno]; rfl
  | succ k ih =>
    intro l h
    by_cases hb : b ∈ l
    · obtain ⟨p, m, rfl, hnp⟩ := first_cut l hb
      rw [splitL_cons hnp, List.length_cons] at h
      have h1 : Lib.index (p ++ b :: m) [b] = (p.length : Int) := by rw [Lib.index_one]; exact indexB_hit p m b hnp
      have h2 : (Lib.index (p ++ b :: m) [b] == -1) = false := by rw [h1]; (try simp) <;> omega
      show (if Lib.index (p ++ b :: m) [b] == -1 then [p ++ b :: m] else (p ++ b :: m).take ((Lib.index (p ++ b :: m) [b]).toNat + 0) :: Lib.splitK [b] 0 k ((p ++ b :: m).drop ((Lib.index (p ++ b :: m) [b]).toNat + [b].length))) = _
      rw [h2, h1, splitL_cons hnp, ← ih m (by omega)]
      simp
    · have hno : noB b l := fun c hc e => hb (e ▸ hc)
      rw [splitL_one hno] at h
      simp at h
/-- A row of bytes that may be read (whatever its spare). -/
structure RowV (w : World) (a : Option Addr) (bs : List UInt8) : Prop where
  no : a = none → bs = []
  at' : ∀ ad, a = some ad → ∀ j (hj : j < bs.length), w.cell? (ad.add j) = some (.int .u8 (bs[j].toNat : Int))
theorem RowV.below {w w' : World} {a : Option Addr} {bs : List UInt8} (h : RowV w a bs) (hb : Below w.heap.size w w') : RowV w' a bs :=
  ⟨h.no, fun ad e j hj => (hb.cell (p := ad.add j) (World.block_lt_of_cell? _ _ (h.at' ad e j hj))).trans (h.at' ad e j hj)⟩
theorem run_strV {w : World} {a : Option Addr} {cap : Nat} {bs : List UInt8} (h : RowV w a bs) : (convert 42 9 (.slice a bs.length cap)).run Tryd.prog w = .ok (.string (str bs)) w := by
  obtain ⟨hno, hat⟩ := h
  cases a with
  | some ad => exact run_convert_bytes_back w _ _ _ ad cap bs Tryd.underlying42 Tryd.underlying5 Tryd.underlying9 (hat ad rfl)
  | none =>
    have h0 := hno rfl
    subst h0
    rw [run_convert_bytes_string w _ _ _ none _ _ Tryd.underlying42 Tryd.underlying5 Tryd.underlying9]
    simp [Conv.bytesToString, str]
    rfl
/-- bytes.Split at a space. -/
theorem splitSP_any {w : World} {a : Option Addr} {n cap : Nat} {bs : List UInt8} (h : RowU w a n cap bs) (hn : n ≤ 1000000) {g : Nat} (hg : w.cell? ⟨g, 0, none⟩ = some (.int .u8 32)) (hgl : g < w.heap.size) {m : Int} (hm : w.cell? ⟨0, 0, none⟩ = some (.int .i64 m)) :
    Calls Tryd.prog 55 #[.slice a n cap, .slice (some ⟨g, 0, none⟩) 1 1] w fun e w' => e = .returned (.slice (some ⟨w.heap.size, 0, none⟩) (splitL 32 bs).length (splitL 32 bs).length) ∧ Below w.heap.size w w' ∧ w.heap.size < w'.heap.size ∧
      ∀ j (hj : j < (splitL 32 bs).length), ∃ a' cp, w'.cell? ⟨w.heap.size, j, none⟩ = some (.slice a' (splitL 32 bs)[j].length cp) ∧ RowV w' a' (splitL 32 bs)[j] := by
  have hl := h.len
  have hle := h.le
  have hcs := h.small
  cases a with
  | none =>
    have hc := h.no rfl
    obtain rfl : n = 0 := by omega
    subst hc
    have hb : bs = [] := List.eq_nil_of_length_eq_zero hl
    subst hb
    refine (Tryd.bytes_Split_nil (some ⟨g, 0, none⟩) 1 1 w (by omega) (by omega) (fun _ => ⟨g, 0, 32, rfl, hg⟩)).mono ?_
    rintro e w' ⟨rfl, rfl⟩
    refine ⟨rfl, below1 _ _, by simp, fun j hj => ?_⟩
    have e0 : splitL 32 ([] : List UInt8) = [[]] := rfl
    simp only [e0] at hj ⊢
    obtain rfl : j = 0 := by simpa using hj
    exact ⟨none, 0, by simp [go_sem], fun _ => rfl, fun ad e => by cases e⟩
  | some ad =>
    have hN : Lib.count bs [32] + 1 = (splitL 32 bs).length := count_split 32 (bs.length + 1) bs (by omega)
    have hK := splitK_split 32 (Lib.count bs [32]) bs hN
    have h32 : Lib.bytesOf [32] = [32] := rfl
    refine (Tryd.bytes_Split ad ⟨g, 0, none⟩ n cap 1 1 (numL bs) [32] m w (by rw [numL_length]; exact hl) rfl (numL_bd bs) (by intro y hy; rw [List.mem_singleton.1 hy]; omega) h.num (by
      intro i hi
      obtain rfl : i = 0 := by omega
      simpa [Addr.add] using hg) hle (by omega) (by omega) hcs (by omega) hm).mono ?_
    rintro e w' ⟨rfl, q, rfl⟩
    rw [numL_bytes, h32, hN]
    have hbl := below_drewN (below1 w (.cells (Lib.splitV [32] 0 (Lib.count bs [32]) ad cap bs).toArray 42)) q
    refine ⟨rfl, hbl, by simp, fun j hj => ?_⟩
    have hvl : (Lib.splitV [32] 0 (Lib.count bs [32]) ad cap bs).length = (splitL 32 bs).length := by rw [Lib.splitV_length, hK]
    obtain ⟨v, hv⟩ : ∃ v, (Lib.splitV [32] 0 (Lib.count bs [32]) ad cap bs)[j]? = some v := ⟨_, List.getElem?_eq_getElem (by omega)⟩
    obtain ⟨a', off, len, cp, rfl, h1, h2, h3, h4⟩ := Lib.splitV_spec [32] 0 (by simp) (by simp) (Lib.count bs [32]) ad cap bs (by omega) j v hv
    rw [hK] at h3
    obtain ⟨h5, h6⟩ := List.getElem?_eq_some_iff.1 h3
    have h7 : (splitL 32 bs)[j].length = len := by rw [h6, List.length_take, List.length_drop]; omega
    have hat := h.at' ad rfl
    have hall : ∀ i (hi : i < (splitL 32 bs)[j].length), w.cell? (a'.add i) = some (.int .u8 ((splitL 32 bs)[j][i].toNat : Int)) := by
      intro i hi
      have hi2 : i < len := by omega
      rw [h4 i hi2, hat.2 (off + i) (by omega)]
      have e : (splitL 32 bs)[j][i] = bs[off + i]'(by omega) := by
        have := List.getElem_of_eq h6 hi
        rw [this, List.getElem_take, List.getElem_drop]
      rw [e]
    refine ⟨some a', cp, ?_, ⟨(fun e => by cases e), fun ad' e i hi => ?_⟩⟩
    · rw [h7]
      have hc : (w.alloc (.cells (Lib.splitV [32] 0 (Lib.count bs [32]) ad cap bs).toArray 42)).cell? ⟨w.heap.size, j, none⟩ = some (.slice (some a') len cp) := by
        simp [go_sem, hv]
      exact hc
    · cases e
      exact (hbl.cell (p := a'.add i) (World.block_lt_of_cell? _ _ (hall i hi))).trans (hall i hi)
/-- The explicit digits of a small number. -/
def dgs (k : Nat) : List UInt8 := if k < 10 then [dg k] else if k < 100 then [dg (k / 10), dg (k % 10)] else [dg (k / 100), dg (k / 10 % 10), dg (k % 10)]
theorem dec_dgs {k : Nat} (h : k ≤ 199) : Lib.decDigits k = dgs k := by
  unfold dgs
  by_cases h1 : k < 10
  · rw [if_pos h1, dec_small h1]
  · rw [if_neg h1, dec_big h1]
    by_cases h2 : k < 100
    · rw [if_pos h2, dec_small (by omega)]; rfl
    · rw [if_neg h2, dec_big (by omega), dec_small (by omega)]
      rw [show k / 10 / 10 = k / 100 by omega]; rfl
theorem parse_all : ∀ k, k < 200 → Lib.parseIntB 64 (dgs k) = .ok (k : Int) := by decide +kernel
theorem parse_dec {k : Nat} (h : k ≤ 199) : Lib.parseIntB 64 (Lib.decDigits k) = .ok (k : Int) := by rw [dec_dgs h]; exact parse_all k (by omega)
theorem lead_all : ∀ k, k < 200 → ((dgs k).length ≤ 1 ∨ (dgs k)[0]? ≠ some 48) ∧ (dgs k)[0]? ≠ some 43 ∧ (dgs k)[0]? ≠ some 45 ∧ dgs k ≠ [] := by decide +kernel
theorem lead_dec {k : Nat} (h : k ≤ 199) {l : List UInt8} (e : l = Lib.decDigits k) : (l.length ≤ 1 ∨ l[0]? ≠ some 48) ∧ l[0]? ≠ some 43 ∧ l[0]? ≠ some 45 ∧ l ≠ [] := by rw [e, dec_dgs h]; exact lead_all k (by omega)
/-- What the library's variables hold. -/
structure Glob (w : World) : Prop where
  tab : Tab w
  ml : ∃ m, w.cell? ⟨0, 0, none⟩ = some (.int .i64 m)
  es : ∃ tp p, w.cell? ⟨2, 0, none⟩ = some (.iface tp p)
  er : ∃ tp p, w.cell? ⟨3, 0, none⟩ = some (.iface tp p)
theorem Glob.below {w w' : World} (h : Glob w) (hb : Below w.heap.size w w') : Glob w' :=
  ⟨tab_below h.tab hb, let ⟨m, e⟩ := h.ml; ⟨m, keep_cell hb e⟩, let ⟨t, p, e⟩ := h.es; ⟨t, p, keep_cell hb e⟩, let ⟨t, p, e⟩ := h.er; ⟨t, p, keep_cell hb e⟩⟩
/-- strconv.ParseInt. -/
def PrsE (l : List UInt8) (e : Ending) : Prop := (∃ v : Int, Lib.parseIntB 64 l = .ok v ∧ e = .returned (.tuple #[.int .i64 v, .nilIface])) ∨ ((∀ v : Int, Lib.parseIntB 64 l ≠ .ok v) ∧ ∃ (v : Int) (t : TypeId) (q : Value), e = .returned (.tuple #[.int .i64 v, .iface t q]))
theorem parse_any {w : World} (l : List UInt8) (hl : l.length ≤ 1000000) (hG : Glob w) :
    Calls Tryd.prog 62 #[.string (str l), .int .i64 10, .int .i64 64] w fun e w' => PrsE l e ∧ Below w.heap.size w w' := by
  have hsz := str_size l
  obtain ⟨t1, p1, e1⟩ := hG.es
  obtain ⟨t2, p2, e2⟩ := hG.er
  cases hp : Lib.parseIntB 64 l with
  | ok v =>
    refine (Tryd.strconv_ParseInt_10_at64_ok (str l) (by omega) v (by rw [str_list]; exact hp) w).mono ?_
    rintro e w' ⟨rfl, h⟩
    refine ⟨.inl ⟨v, hp, rfl⟩, ?_⟩
    rcases h with rfl | ⟨t, rfl⟩
    · exact Below.refl _ _
    · exact Lib.bytesWorld_below w _ _
  | «syntax» =>
    refine (Tryd.strconv_ParseInt_10_at64_syntax (str l) (by omega) (by rw [str_list]; exact hp) _ w e1 (.inr ⟨_, _, rfl⟩)).mono ?_
    rintro e w' ⟨N, rfl, -, -, hb⟩
    exact ⟨.inr ⟨(fun v h => by rw [hp] at h; cases h), _, _, _, rfl⟩, hb⟩
  | range =>
    refine (Tryd.strconv_ParseInt_10_at64_range (str l) (by omega) (by rw [str_list]; exact hp) _ w e2 (.inr ⟨_, _, rfl⟩)).mono ?_
    rintro e w' ⟨N, rfl, -, -, hb⟩
    exact ⟨.inr ⟨(fun v h => by rw [hp] at h; cases h), _, _, _, rfl⟩, hb⟩
set_option maxHeartbeats 4000000 in
set_option maxRecDepth 100000 in
theorem readDecimal_any {w : World} (l : List UInt8) (hl : l.length ≤ 1000000) (hG : Glob w) :
    Calls Tryd.prog 56 #[.string (str l)] w fun e w' => ValE l e ∧ Below w.heap.size w w' := by
  have hsz := str_size l
  have HLD := Lib.hid (fun k (hk : k ≤ 199) (e : l = Lib.decDigits k) => lead_dec hk e)
  by_cases hnil : l = []
  · have hEmp : (str l).toList.isEmpty = true := by rw [str_toList, hnil]; rfl
    have HN := Lib.hid (show ∀ k : Nat, k ≤ 199 → l = Lib.decDigits k → (0 : Int) = (k : Int) ∧ false = true from fun k hk e => absurd hnil (HLD.out k hk e).2.2.2)
    clear hnil
    go_enter Tryd.func56, Tryd.ntmps56
    go_wp2_with fail
    go_ret2
    exact ⟨⟨0, false, rfl, HN.out⟩, Below.refl _ _⟩
  · have hEmp : (str l).toList.isEmpty = false := by rw [str_toList]; cases l with | nil => exact absurd rfl hnil | cons a b => rfl
    have hpos : 0 < l.length := List.length_pos_iff.2 hnil
    have hposI : (0 : Int) < (l.length : Int) := by omega
    have hgt := str_get l 0 (by rw [hsz]; exact hpos)
    obtain ⟨cn, hc⟩ : ∃ cn : Nat, ((str l)[0]'(by rw [hsz]; exact hpos)).toNat = cn := ⟨_, rfl⟩
    have hcl : l[0].toNat = cn := by rw [← hgt]; exact hc
    have HC0 := Lib.hid (show ∀ b : UInt8, b.toNat = cn → l[0]? = some b from fun b hb => by
      rw [List.getElem?_eq_getElem hpos, ← UInt8.toNat_inj.1 (hcl.trans hb.symm)])
    have HG := Lib.hid hG
    clear hgt hcl hnil hG
    by_cases hbad : (1 < l.length ∧ cn = 48) ∨ cn = 43 ∨ cn = 45
    · have HN := Lib.hid (show ∀ k : Nat, k ≤ 199 → l = Lib.decDigits k → (0 : Int) = (k : Int) ∧ false = true from fun k hk e => by
        obtain ⟨h1, h2, h3, -⟩ := HLD.out k hk e
        rcases hbad with ⟨h4, h5⟩ | h5 | h5
        · rcases h1 with h1 | h1
          · omega
          · exact absurd (HC0.out 48 h5.symm) h1
        · exact absurd (HC0.out 43 h5.symm) h2
        · exact absurd (HC0.out 45 h5.symm) h3)
      by_cases h1 : 1 < l.length
      · have h1' : (1 : Int) < (l.length : Int) := by omega
        rcases (show cn = 48 ∨ cn = 43 ∨ cn = 45 by omega) with rfl | rfl | rfl
        all_goals
          clear hbad
          go_enter Tryd.func56, Tryd.ntmps56
          go_wp2_with fail
          go_ret2
          exact ⟨⟨0, false, rfl, HN.out⟩, Below.refl _ _⟩
      · have h1' : ¬ (1 : Int) < (l.length : Int) := by omega
        rcases (show cn = 43 ∨ cn = 45 by omega) with rfl | rfl
        all_goals
          clear hbad
          go_enter Tryd.func56, Tryd.ntmps56
          go_wp2_with fail
          go_ret2
          exact ⟨⟨0, false, rfl, HN.out⟩, Below.refl _ _⟩
    · have b2 : ((cn : Int) == 43) = false := by simp; omega
      have b3 : ((cn : Int) == 45) = false := by simp; omega
      have HPD := Lib.hid (show ∀ k : Nat, k ≤ 199 → l = Lib.decDigits k → Lib.parseIntB 64 l = .ok (k : Int) from fun k hk e => by rw [e]; exact parse_dec hk)
      by_cases h1 : 1 < l.length
      · have h1' : (1 : Int) < (l.length : Int) := by omega
        have b1 : ((cn : Int) == 48) = false := by simp; omega
        clear hbad
        go_enter Tryd.func56, Tryd.ntmps56
        go_wp2_with fail
        refine (parse_any l hl HG.out).mono ?_
        rintro e w2 ⟨hE, hb2⟩
        rcases hE with ⟨v, hv, rfl⟩ | ⟨hv, v, ty, q, rfl⟩
        · have HN := Lib.hid (show ∀ k : Nat, k ≤ 199 → l = Lib.decDigits k → v = (k : Int) ∧ true = true from fun k hk e => by
            have := HPD.out k hk e
            rw [hv] at this
            cases this
            exact ⟨rfl, rfl⟩)
          clear hv
          go_wp2_with fail
          go_quiet (fail)
          go_wp2_with fail
          go_ret2
          exact ⟨⟨v, true, rfl, fun k hk e => ⟨(HN.out k hk e).1, rfl⟩⟩, below_drewN hb2 _⟩
        · have HN := Lib.hid (show ∀ k : Nat, k ≤ 199 → l = Lib.decDigits k → v = (k : Int) ∧ false = true from fun k hk e => absurd (HPD.out k hk e) (hv _))
          clear hv
          go_wp2_with fail
          go_quiet (fail)
          go_wp2_with fail
          go_ret2
          exact ⟨⟨v, false, rfl, fun k hk e => absurd (HN.out k hk e).2 (by simp)⟩, below_drewN hb2 _⟩
      · have h1' : ¬ (1 : Int) < (l.length : Int) := by omega
        clear hbad
        go_enter Tryd.func56, Tryd.ntmps56
        go_wp2_with fail
        refine (parse_any l hl HG.out).mono ?_
        rintro e w2 ⟨hE, hb2⟩
        rcases hE with ⟨v, hv, rfl⟩ | ⟨hv, v, ty, q, rfl⟩
        · have HN := Lib.hid (show ∀ k : Nat, k ≤ 199 → l = Lib.decDigits k → v = (k : Int) ∧ true = true from fun k hk e => by
            have := HPD.out k hk e
            rw [hv] at this
            cases this
            exact ⟨rfl, rfl⟩)
          clear hv
          go_wp2_with fail
          go_quiet (fail)
          go_wp2_with fail
          go_ret2
          exact ⟨⟨v, true, rfl, fun k hk e => ⟨(HN.out k hk e).1, rfl⟩⟩, below_drewN hb2 _⟩
        · have HN := Lib.hid (show ∀ k : Nat, k ≤ 199 → l = Lib.decDigits k → v = (k : Int) ∧ false = true from fun k hk e => absurd (HPD.out k hk e) (hv _))
          clear hv
          go_wp2_with fail
          go_quiet (fail)
          go_wp2_with fail
          go_ret2
          exact ⟨⟨v, false, rfl, fun k hk e => absurd (HN.out k hk e).2 (by simp)⟩, below_drewN hb2 _⟩
end Go.Proofs.YtmbphpmabopifaaDoor
