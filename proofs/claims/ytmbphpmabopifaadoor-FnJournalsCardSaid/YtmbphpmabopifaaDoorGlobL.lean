/-
  The listed variables of the journals that are read: what the condition gives, a world that meets it, and the wrap.
-/
import Derived.Test.YtmbphpmabopifaaDoorRcvJ
import Derived.Test.YtmbphpmabopifaaDoorJouL
import Derived.Stop.LaidErr
import Derived.Shelf.Vars
import Derived.Lay
import Derived.HandedShaped
import Derived.ChangeMaps5
namespace Go.Proofs.YtmbphpmabopifaaDoor
open Go.ChangeShapes Go.WideShapes Go.ChangeAt Go.RowKit
set_option linter.unusedVariables false

abbrev laid7 : List (String × DataW Unit) := Rows.fnExactIsJournalRow.laid
theorem rng_global : Tryd.prog.globalNamed "strconv.ErrRange" = some 3 := by kernel_rfl
theorem rng_type : (Tryd.prog.globals[3]?).map (·.type) = some 93 := by kernel_rfl
theorem syn_global : Tryd.prog.globalNamed "strconv.ErrSyntax" = some 2 := by kernel_rfl
theorem syn_type : (Tryd.prog.globals[2]?).map (·.type) = some 93 := by kernel_rfl
theorem err_cells : Tryd.prog.cellsOf 138 = 1 := by kernel_rfl
theorem str_cells : Tryd.prog.cellsOf 9 = 1 := by kernel_rfl
theorem err_star : "*" ++ "errors.errorString" = "*errors.errorString" := by decide
theorem err_row (u : TypeId) (h : Tryd.prog.typeName? 3 u = some "*errors.errorString") : u = 136 :=
  typeName_ptr_named (nm := "errors.errorString") (by rw [err_star]; kernel_rfl) (by kernel_rfl) (by decide) u (by rw [err_star]; exact h)
theorem glob_laid {W : World} (h : laidMetH Tryd.prog laid7 W) (hs : W.ShapedOpen Tryd.prog) : Glob W := by
  rw [MakeChecks.laidMetH_plain _ _ _ (by kernel_rfl)] at h
  have h5 : laidMet Tryd.prog (laid7.drop 4) W := h.tail.tail.tail.tail
  obtain ⟨a0, s0, hv0, -⟩ := laid_sentinel h5 rng_global rng_type Tryd.underlying93 err_row Tryd.underlying136 Tryd.underlying138 rfl rfl Tryd.underlying9 err_cells str_cells
  obtain ⟨a1, s1, hv1, -⟩ := laid_sentinel h5.tail syn_global syn_type Tryd.underlying93 err_row Tryd.underlying136 Tryd.underlying138 rfl rfl Tryd.underlying9 err_cells str_cells
  refine ⟨?_, ?_, ?_, ?_⟩
  · obtain ⟨ps, ⟨g2, t2, cs2, f2, p2, q2, hg2, ht2, hv2, hd2, _, _⟩, _, _⟩ := (show laidMet Tryd.prog (laid7.drop 2) W from h.tail.tail)
    obtain rfl := Option.some.inj (pow_global.symm.trans hg2)
    obtain rfl := Option.some.inj (pow_type.symm.trans ht2)
    unfold Tab Lib.TabIs
    rw [pow_data] at hd2
    rw [hv2, ← Lib.cells_of_tab Tryd.underlying117 Tryd.underlying47 (by kernel_rfl) (by kernel_rfl) hd2]
  · exact cell_of_shapedOpen_int (g := 0) (t := 3) (zero := #[.int .i64 0]) (k := .i64) hs (of_decide_eq_true (by kernel_rfl)) (by kernel_rfl) (by kernel_rfl) (by kernel_rfl) (by kernel_rfl) (by kernel_rfl)
  · exact ⟨_, _, by simpa using World.var?_cell syn_global hv1 0⟩
  · exact ⟨_, _, by simpa using World.var?_cell rng_global hv0 0⟩
theorem str_of (b : ByteArray) : ∃ l, b = str l := ⟨b.data.toList, by unfold str; rw [Array.toArray_toList]⟩
noncomputable def laidWorld7 (os : Os) : World := World.laidAll Tryd.prog os laid7
set_option maxRecDepth 100000 in
theorem laidMet7 (os : Os) (args : Array Value) : laidMetH Tryd.prog laid7 ((laidWorld7 os).forCall (fun _ _ => 0) ⟨#[], args, []⟩).memory := by
  rw [MakeChecks.laidMetH_plain _ _ _ (by kernel_rfl)]
  exact laidMet_laidAll _ (by kernel_rfl) (by kernel_rfl)
section
variable {H : Type} {enc : TypeId × Value → H}
/-- The wrap that keeps both: the listed variables, and the world's shape. -/
theorem returnsInHanded_laidShaped {a : Assume} {C : Checked} {os : Os} {f : FuncId} {fn : Func} {s : ChangeSpec} {conds : List PathCond} {apart fresh handsOn again : Bool} {X : World → Array Value → Prop}
    (hX : ∀ (w w' : World) (args : Array Value), w.heap = w'.heap → X w args → X w' args)
    (own : ownKnob C.prog.godebug = none) (started : os.Started) (noInit : C.prog.inits.idxOf? f = none) (hfn : C.prog.funcs[f]? = some fn)
    (witness : ∃ (w : World) (tape : Tape) (i : Input), w.os = os ∧ (w.forCall tape i).Shaped C.prog ∧ i.vars = [] ∧ Input.okWide C.prog (w.forCall tape i) .any w.heap.size f i ∧
      ((s.pre enc C.prog fn conds apart (w.forCall tape i).memory i.args ∧ X (w.forCall tape i).memory i.args) ∧ sizedMet enc C.prog fn (OpenSpec.ofChange s) apart (w.forCall tape i).memory i.args) ∧ a.holds C.prog (lone (Frame.enter C.prog f i.args .normal) [] (w.forCall tape i)))
    (contract : ∀ (W : World) (base : Nat) (args : Array Value) (ds gs : List (DataW H)) (before : List MemPlace),
      (∀ (j : Nat) t v, fn.params[j]? = some t → args[j]? = some v → Value.okWide C.prog W .any base t v) →
      DataW.Whole enc C.prog fn.params.toList s.vars apart W args.toList ds gs before →
      conds.all (PathCond.test C.prog ⟨fn.params.toList, ds, s.plain.varTypes C.prog, gs⟩) = true →
      X W args → W.ShapedOpen C.prog →
      Calls C.prog f args W fun e W' => ∃ v, e = .returned v ∧ s.post enc C.prog fn apart fresh handsOn again W args v W') :
    ReturnsInHanded a C os f .any (fun w args => (s.pre enc C.prog fn conds apart w args ∧ X w args) ∧ sizedMet enc C.prog fn (OpenSpec.ofChange s) apart w args) (s.post enc C.prog fn apart fresh handsOn again) := by
  refine returnsInHanded_of_calls own started noInit witness ?_
  intro w tape i _ hsh _ hok hpre hholds
  obtain ⟨_, _, _, fn', hfn', _, _, _, _, hval⟩ := hok
  have e : fn' = fn := Option.some.inj (hfn'.symm.trans hfn)
  subst e
  obtain ⟨⟨⟨ds, gs, before, hw, hc⟩, hx⟩, hz⟩ := hpre
  have hw' := DataW.Whole.of_heap (w' := w.forCall tape i) (by rfl) hw
  refine (contract (w.forCall tape i) w.heap.size i.args ds gs before hval hw' hc (hX _ _ _ (by rfl) hx) hsh).mono fun e W' ⟨v, he, hp⟩ => ?_
  subst he
  exact ChangeSpec.post_blind hp
end
end Go.Proofs.YtmbphpmabopifaaDoor
