/-
  The walk of the reference's PolyGcd.
-/
import Derived.Test.YtnhpdenneplapaaGcds
namespace Go.Proofs.Ytnhpdenneplapaa
open Go.RowKit
set_option linter.unusedVariables false

set_option maxRecDepth 100000 in
set_option maxHeartbeats 4000000 in
theorem specPolyGcd_any (p pw g : Int) (w : World) {a : Option Addr} {n cap : Nat} {zs : List Int} (hr : RowAt w a n zs) (hca : a = none → cap = 0) {a' : Option Addr} {n' cap' : Nat} {zs' : List Int} (hr' : RowAt w a' n' zs') (hca' : a' = none → cap' = 0) :
    Calls Try.prog 43 #[fV p pw g, .slice a n cap, .slice a' n' cap'] w fun e w' => ∃ v, e = .returned (.tuple #[v, .int .i64 (gcdC p pw g zs zs')]) ∧ Below w.heap.size w w' ∧ ResL w w' v (gcdR p pw g zs zs') := by
  have HR := Lib.hid hr
  have HR' := Lib.hid hr'
  have HCA := Lib.hid hca
  have HCA' := Lib.hid hca'
  have hrows := rows_two _ 26 a n cap zs (hr.below' (below1 w (.cells #[.int .i64 p, .int .i64 pw, .int .i64 g] FT))) a' n' cap' zs' (hr'.below' (below1 w (.cells #[.int .i64 p, .int .i64 pw, .int .i64 g] FT))) (w.heap.size + 1) (by simp)
  have HROWS := Lib.hid hrows
  have HBOX := Lib.hid (box_alloc (box_new w p pw g FT) (.cells #[.slice a n cap, .slice a' n' cap'] 26))
  clear hr hr' hrows hca hca'
  go_enter Try.func43, Try.ntmps43
  go_wp2_with fail
  refine (l03Code_any p pw g _ HROWS.out).mono ?_
  rintro e w1 ⟨rfl, hb1⟩
  have HB := Lib.hid (((below1 w _).alloc (by simp) _).trans (hb1.mono (by simp; omega)))
  have HX := Lib.hid (HBOX.out.below hb1 HBOX.out.lt)
  clear hb1
  by_cases hc : codeP p pw g [zs, zs'] = 0
  · obtain ⟨V, hSF, hall, hon, _⟩ := codeP_V hc
    obtain ⟨⟨hl, hp⟩, hl', hp'⟩ := two_mem hall
    have hcn : (codeP p pw g [zs, zs'] != 0) = false := by simp [hc]
    have hn := HR.out.len
    have hn' := HR'.out.len
    by_cases h0 : zs = [] ∧ zs' = []
    · obtain ⟨hf0, hf1⟩ := gcdC_zero hc h0
      have hf1 := Lib.hid hf1
      have hf0 := Lib.hid hf0
      have h1 : ((n : Int) == 0) = true := by rw [h0.1] at hn; simp at hn; simp; omega
      have h2 : ((n' : Int) == 0) = true := by rw [h0.2] at hn'; simp at hn'; simp; omega
      clear hc hp hp' hn hn' hon hall h0 hl hl'
      go_wp2_with fail
      go_ret2
      exact ⟨_, by rw [hf0.out]; rfl, HB.out, by rw [hf1.out]; exact ResL.none _ _⟩
    · obtain ⟨hf0, hf1⟩ := gcdC_ok hc h0
      have hf1 := Lib.hid (hf1.trans (hon _))
      have hf0 := Lib.hid hf0
      have hne : zs ≠ [] ∨ zs' ≠ [] := by
        by_cases h : zs = []
        · exact .inr fun h' => h0 ⟨h, h'⟩
        · exact .inl h
      have HG := Lib.hid (GcdInv.start hp hp' hne hl hl')
      have hnn : n ≠ 0 ∨ n' ≠ 0 := by
        rcases hne with h | h
        · exact .inl (fun e => h (List.eq_nil_of_length_eq_zero (by omega)))
        · exact .inr (fun e => h (List.eq_nil_of_length_eq_zero (by omega)))
      rw [hn] at hl
      rw [hn'] at hl'
      have HN := Lib.hid hn
      have HN' := Lib.hid hn'
      have hs1 := HB.out.size
      have hor : ((n : Int) == 0) = true ∧ ((n' : Int) == 0) = false ∨ ((n : Int) == 0) = false := by
        by_cases h1 : n = 0
        · exact .inl ⟨by simp; omega, by simp; omega⟩
        · exact .inr (by simp; omega)
      have hw1 := HX.out.lt
      clear hc hp hp' hn hn' hon hall h0 hne hnn
      rcases hor with ⟨hb1, hb2⟩ | hb1
      all_goals
        go_wp2_with fail
        refine (l01Own_any (HR.out.below' HB.out) HCA.out (by omega)).mono ?_
        rintro e w2 ⟨v2, rfl, hb2, ho2⟩
        have HB12 := Lib.hid hb2
        have HO2 := Lib.hid ho2
        clear hb2 ho2
        go_wp2_with fail
        refine (l01Own_any ((HR'.out.below' HB.out).below' HB12.out) HCA'.out (by omega)).mono ?_
        rintro e w3 ⟨v3, rfl, hb3, ho3⟩
        obtain ⟨ao, co, eo, -, hno, -⟩ := HO2.out.cap
        rw [HN.out] at eo
        subst eo
        obtain ⟨ao', co', eo', -, hno', -⟩ := ho3.cap
        rw [HN'.out] at eo'
        subst eo'
        have HOA := Lib.hid (HO2.out.below hb3)
        have HOB := Lib.hid (ho3.lower HB12.out.size)
        have HNO := Lib.hid hno
        have HNO' := Lib.hid hno'
        have HB13 := Lib.hid (HB12.out.trans (hb3.mono HB12.out.size))
        have HX13 := Lib.hid (HX.out.below HB13.out HX.out.lt)
        clear ho3 hb3 hno hno'
        go_wp2_with fail
        go_loopw [9, 10] (fun va vb wr => ∃ (aa : Option Addr) (ca : Nat) (ab : Option Addr) (cb : Nat) (la lb : Nat) (za zb : List Int) (f : Nat), va = .slice aa la ca ∧ vb = .slice ab lb cb ∧ Hid (za.length = la) ∧ Hid (zb.length = lb) ∧ Hid (aa = none → ca = 0) ∧ Hid (ab = none → cb = 0) ∧ Hid (OwnL wr w1.heap.size (.slice aa la ca) za) ∧ Hid (OwnL wr w1.heap.size (.slice ab lb cb) zb) ∧ Hid (GcdInv V zs zs' f za zb) ∧ Hid (Below w1.heap.size w1 wr) ∧ Hid (Box wr w.heap.size p pw g)) (fun _ vb _ => match vb with | .slice _ l _ => l | _ => 0)
        case atStart => exact ⟨_, _, _, _, _, _, zs, zs', _, rfl, rfl, HN, HN', HNO, HNO', HOA, HOB, HG, HB13, HX13⟩
        case round =>
          obtain ⟨aa, ca, ab, cb, la, lb, za, zb, f, rfl, rfl, hla, hlb, hna, hnb, hoa, hob, hgi, hbel, hbox⟩ := hrel
          clear HOA HOB HB13 HX13 HG HNO HNO'
          have hlm := hgi.out.la
          rw [hla.out] at hlm
          have hlm2 := hgi.out.lb
          rw [hlb.out] at hlm2
          obtain ⟨_, c0, c1, c2⟩ := hbox.out
          by_cases hz : 0 < lb
          · have hz2 : (0 : Int) < (lb : Int) := by omega
            have hne : zb ≠ [] := fun h => by have := hlb.out; rw [h] at this; simp at this; omega
            obtain ⟨f', rfl⟩ : ∃ f', f = f' + 1 := ⟨f - 1, by have := hgi.out.lt; omega⟩
            obtain ⟨_, _, ea, -, hra⟩ := hoa.out.shape
            obtain ⟨_, _, eb, -, hrb⟩ := hob.out.shape
            simp only [Value.slice.injEq] at ea eb
            obtain ⟨rfl, -, -⟩ := ea
            obtain ⟨rfl, -, -⟩ := eb
            rw [hla.out] at hra
            rw [hlb.out] at hrb
            have HD := Lib.hid (hSF.ldiv (cap := ca) (cap' := cb) hra.row hna.out hlm hrb.row hlm2 hgi.out.ha hgi.out.hb hz)
            have HST := Lib.hid (fun q r h => hgi.out.step (q := q) (r := r) hne h)
            clear hra hrb hne
            go_wp2_with fail
            refine HD.out.mono ?_
            rintro e w5 ⟨v, v2, q, r, rfl, hb5, _, h6, hdv⟩
            have h7 := h6.lower (C := w1.heap.size) hbel.out.size
            obtain ⟨ar, cr, rfl, _, hnr, _⟩ := h7.cap
            have HNR := Lib.hid hnr
            have HOB5 := Lib.hid (hob.out.below hb5)
            have HB5 := Lib.hid (hbel.out.trans (hb5.mono hbel.out.size))
            have HX5 := Lib.hid (hbox.out.below hb5 hbox.out.lt)
            have HST5 := Lib.hid (HST.out _ _ hdv)
            obtain ⟨lr, hlr⟩ : ∃ lr, r.length = lr := ⟨_, rfl⟩
            have HLT := Lib.hid (show lr < lb by have := hdv.len; rw [hlb.out, hlr] at this; exact this)
            have HLR2 := Lib.hid hlr
            have HOR := Lib.hid h7
            rw [hlr] at HOR ⊢
            clear hb5 h6 h7 hnr hdv hlr
            go_wp2_with fail
            go_roundw
            case rel => exact ⟨_, _, _, _, _, _, zb, r, f', rfl, rfl, hlb, HLR2, hnb, HNR, HOB5, HOR, HST5, HB5, HX5⟩
            case measure => exact HLT.out
          · obtain rfl : lb = 0 := by omega
            have hzb : zb = [] := List.eq_nil_of_length_eq_zero hlb.out
            subst hzb
            obtain ⟨hgd, hane⟩ := hgi.out.done
            have HGD := Lib.hid hgd
            have hla0 : 0 < la := by have := List.length_pos_iff.2 hane; rw [hla.out] at this; exact this
            obtain ⟨_, _, ea, -, hra⟩ := hoa.out.shape
            simp only [Value.slice.injEq] at ea
            obtain ⟨rfl, -, -⟩ := ea
            rw [hla.out] at hra
            have HRA := Lib.hid hra.row
            obtain ⟨ba, oa, rfl, hba, hcs⟩ := hra.row.at' (by omega)
            have hlast := hcs (la - 1) (by omega)
            have e1 : (la : Int) - 1 = ((la - 1 : Nat) : Int) := by omega
            have hel := hgi.out.ha.els.getD (la - 1)
            have he0 := hgi.out.ha.tight (by rw [hla.out]; exact hla0)
            rw [hla.out] at he0
            have hiv := FF.inv_el V.ok (gi za (la - 1))
            have HI := Lib.hid (fun W => hSF.inv (gi za (la - 1)) hel he0 W)
            have HM := Lib.hid (fun W (hb : Below wr.heap.size wr W) => hSF.lmul (cap := ca) (cap' := 1) ((HRA.out.below' hb).below' (below1 W (.cells #[.int .i64 (V.F.inv (gi za (la - 1)))] 2))) hlm (row_one W (V.F.inv (gi za (la - 1))) 2 _ rfl) (by omega) hgi.out.ha.els (show VF.els V [V.F.inv (gi za (la - 1))] from fun z hz => by simp at hz; subst hz; exact hiv))
            have HFI := Lib.hid (show VF.lst V (VF.ps V za * VF.ps V [V.F.inv (gi za (la - 1))]) = gcdR p pw g zs zs' by
              rw [hf1.out]
              show _ = gcdL V zs zs'
              rw [HGD.out]
              unfold monic
              rw [hla.out, VF.ps_single]
              congr 1
              grind)
            clear hcs hra hel he0 hgd hane hgi hiv
            have q0 : IntKind.i64.wrap ((la - 1 : Nat) : Int) = ((la - 1 : Nat) : Int) := IntWalk.i64_in _ (by omega)
            have q6 : ((la - 1 : Nat) : Int) < (la : Int) := by omega
            generalize V.F.inv (gi za (la - 1)) = iv at *
            generalize gi za (la - 1) = z1 at *
            go_wp2_with fail
            go_region_held3 (fun w' => w'.cell? ⟨ba, oa + (la - 1), none⟩ = some (.int .i64 z1) ∧ w'.cell? ⟨w.heap.size, 0, none⟩ = some (.int .i64 p) ∧ w'.cell? ⟨w.heap.size, 1, none⟩ = some (.int .i64 pw) ∧ w'.cell? ⟨w.heap.size, 2, none⟩ = some (.int .i64 g))
              (first | go_keep | ((try (dsimp only)); go_split_ands; (repeat' apply And.intro); all_goals (first | go_keep | exact keep_cell hbM (by assumption) | exact keep_cell hbI (by assumption))))
              (first | (go_at_call 106; refine (HI.out _).mono ?_; rintro e w5 ⟨rfl, hbI⟩) | (go_at_call 68; refine (HM.out _ (Below.trans (Drew.below (drew1 wr) wr.heap.size) hbI)).mono ?_; rintro e w6 ⟨v, rfl, hbM, hoM⟩))
            have hb5 := Below.trans (Drew.below (drew1 wr) wr.heap.size) hbI
            have hb6 := Below.more (hb5.trans ((below1 w5 (.cells #[.int .i64 iv] 2)).mono hb5.size)) (Nat.le_refl _) hbM
            have HB6 := Lib.hid (HB.out.trans ((hbel.out.trans (hb6.mono hbel.out.size)).mono hs1))
            have HO6 := Lib.hid (show ResL w w6 v (gcdR p pw g zs zs') by
              rw [← HFI.out]; exact hoM.res (by have h1 := hb5.size; have h2 := hbel.out.size; simp; omega))
            clear hbI hbM hoM hb5 hb6
            go_wp2_with fail
            go_ret2
            exact ⟨_, by rw [hf0.out]; rfl, HB6.out, HO6.out⟩
  · have hcn : (codeP p pw g [zs, zs'] != 0) = true := by simp [hc]
    obtain ⟨hf0, hf1⟩ := gcdC_bad hc
    have hf1 := Lib.hid hf1
    have hf0 := Lib.hid hf0
    clear hc
    go_wp2_with fail
    go_ret2
    exact ⟨_, by rw [hf0.out]; rfl, HB.out, by rw [hf1.out]; exact ResL.none _ _⟩
end Go.Proofs.Ytnhpdenneplapaa
