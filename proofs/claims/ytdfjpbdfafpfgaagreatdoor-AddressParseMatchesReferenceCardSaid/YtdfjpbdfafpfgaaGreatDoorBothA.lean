/- The wrap of a row that lists package-level variables and whose contract asks something of the world's shape as well. -/
import Derived.Test.YtdfjpbdfafpfgaaGreatDoorGlA
import Derived.Test.YtdfjpbdfafpfgaaGreatDoorRows
import Derived.Stop.LaidErr
import Derived.MakeChecks
import Derived.Test.YtdfjpbdfafpfgaaGreatDoorChecked
import Derived.KernelRfl
import Derived.HandedShaped
import Derived.Shelf.Vars
namespace Go.Proofs.YtdfjpbdfafpfgaaGreatDoor
open Go
variable {H : Type} {enc : TypeId × Value → H}

/-- The wrap with a laid condition, the sizes and the world's shape, all three handed to the contract. -/
theorem returnsInHanded_both {a : Assume} {C : Checked} {os : Os} {f : FuncId} {fn : Func} {s : ChangeSpec} {conds : List PathCond} {apart fresh handsOn again : Bool} {X : World → Array Value → Prop}
    (hX : ∀ (w w' : World) (args : Array Value), w.heap = w'.heap → X w args → X w' args)
    (own : ownKnob C.prog.godebug = none) (started : os.Started) (noInit : C.prog.inits.idxOf? f = none) (hfn : C.prog.funcs[f]? = some fn)
    (witness : ∃ (w : World) (tape : Tape) (i : Input), w.os = os ∧ (w.forCall tape i).Shaped C.prog ∧ i.vars = [] ∧ Input.okWide C.prog (w.forCall tape i) .any w.heap.size f i ∧
      ((s.pre enc C.prog fn conds apart (w.forCall tape i).memory i.args ∧ X (w.forCall tape i).memory i.args) ∧ sizedMet enc C.prog fn (OpenSpec.ofChange s) apart (w.forCall tape i).memory i.args) ∧ a.holds C.prog (lone (Frame.enter C.prog f i.args .normal) [] (w.forCall tape i)))
    (contract : ∀ (W : World) (base : Nat) (args : Array Value) (ds gs : List (DataW H)) (before : List MemPlace),
      (∀ (j : Nat) t v, fn.params[j]? = some t → args[j]? = some v → Value.okWide C.prog W .any base t v) →
      DataW.Whole enc C.prog fn.params.toList s.vars apart W args.toList ds gs before →
      conds.all (PathCond.test C.prog ⟨fn.params.toList, ds, s.plain.varTypes C.prog, gs⟩) = true →
      (DataW.weightsEach C.prog (fn.params.toList ++ s.plain.varTypes C.prog) (ds ++ gs)).all (· ≤ reachBytes) = true → X W args →
      W.ShapedOpen C.prog →
      a.holds C.prog (lone (Frame.enter C.prog f args .normal) [] W) →
      Calls C.prog f args W fun e W' => ∃ v, e = .returned v ∧ s.post enc C.prog fn apart fresh handsOn again W args v W') :
    ReturnsInHanded a C os f .any (fun w args => (s.pre enc C.prog fn conds apart w args ∧ X w args) ∧ sizedMet enc C.prog fn (OpenSpec.ofChange s) apart w args) (s.post enc C.prog fn apart fresh handsOn again) := by
  refine returnsInHanded_of_calls own started noInit witness ?_
  intro w tape i _ hsh _ hok hpre hholds
  obtain ⟨_, _, _, fn', hfn', _, _, _, _, hval⟩ := hok
  have e : fn' = fn := Option.some.inj (hfn'.symm.trans hfn)
  subst e
  obtain ⟨⟨⟨ds, gs, before, hw, hc⟩, hx⟩, hz⟩ := hpre
  have hw' := DataW.Whole.of_heap (w' := w.forCall tape i) (by rfl) hw
  refine (contract (w.forCall tape i) w.heap.size i.args ds gs before hval hw' hc (hz.weights hw) (hX _ _ _ (by rfl) hx) hsh hholds).mono fun e W' ⟨v, he, hp⟩ => ?_
  subst he
  exact ChangeSpec.post_blind hp

theorem gRange : Tryz.prog.globalNamed "strconv.ErrRange" = some 5 := by kernel_rfl
theorem gSyntax : Tryz.prog.globalNamed "strconv.ErrSyntax" = some 4 := by kernel_rfl
theorem gRangeT : (Tryz.prog.globals[5]?).map (·.type) = some 72 := by kernel_rfl
theorem gSyntaxT : (Tryz.prog.globals[4]?).map (·.type) = some 72 := by kernel_rfl
theorem cellsE : Tryz.prog.cellsOf 190 = 1 := by kernel_rfl
theorem cellsS : Tryz.prog.cellsOf 9 = 1 := by kernel_rfl
theorem rowE (u : TypeId) (h : Tryz.prog.typeName? 3 u = some "*errors.errorString") : u = 188 :=
  have star : "*" ++ "errors.errorString" = "*errors.errorString" := by decide
  typeName_ptr_named (nm := "errors.errorString") (by rw [star]; kernel_rfl) (by kernel_rfl) (by decide) u (by rw [star]; exact h)

/-- What the contracts ask of the package-level variables holds in every world of the rows. -/
theorem gl_of {W : World} (h : W.ShapedOpen Tryz.prog) (hx : laidMetH Tryz.prog Rows.addressParsedAgainRow.laid W) : Lex.Gl W := by
  rw [MakeChecks.laidMetH_plain _ _ _ (by kernel_rfl)] at hx
  have h5 := (((hx.tail).tail).tail).tail
  obtain ⟨a1, s1, hv1, -⟩ := laid_sentinel h5 gRange gRangeT Tryz.underlying72 rowE Tryz.underlying188 Tryz.underlying190 rfl rfl Tryz.underlying9 cellsE cellsS
  obtain ⟨a2, s2, hv2, -⟩ := laid_sentinel h5.tail gSyntax gSyntaxT Tryz.underlying72 rowE Tryz.underlying188 Tryz.underlying190 rfl rfl Tryz.underlying9 cellsE cellsS
  refine ⟨cell_of_shapedOpen_int (t := 3) h (of_decide_eq_true (by kernel_rfl)) (zero := #[.int .i64 0]) (by kernel_rfl) rfl (by kernel_rfl) (by kernel_rfl) (by kernel_rfl), ?_, ?_⟩
  · exact ⟨_, by simpa using World.var?_cell gRange hv1 0, .inr ⟨_, _, rfl⟩⟩
  · exact ⟨_, by simpa using World.var?_cell gSyntax hv2 0, .inr ⟨_, _, rfl⟩⟩

end Go.Proofs.YtdfjpbdfafpfgaaGreatDoor
